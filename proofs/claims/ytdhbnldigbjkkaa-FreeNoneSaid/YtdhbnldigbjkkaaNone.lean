/- FreeNone, walked: it returns true and leaves what was there alone. No condition. -/
import Derived.Test.YtdhbnldigbjkkaaLives
namespace Go.Proofs.Ytdhbnldigbjkkaa
open Go.RowKit Go.Conc

theorem nilPtrI (w : World) (x : Int) : (Calls Try.prog 15 #[.pointer none] w fun e w' => e = .returned (.int .i64 0) ∧ w = w') ∧
    (Calls Try.prog 13 #[.pointer none, .int .i64 x] w fun e w' => e = .returned (.bool false) ∧ w = w') ∧
    (Calls Try.prog 17 #[.pointer none] w fun e w' => e = .returned (.int .i64 0) ∧ w = w') ∧
    (Calls Try.prog 18 #[.pointer none] w fun e w' => e = .returned (.int .i64 0) ∧ w = w') := by
  refine ⟨?_, ?_, ?_, ?_⟩
  · go_enter Try.func15, Try.ntmps15
    go_wp2
    go_ret
    exact ⟨rfl, rfl⟩
  · go_enter Try.func13, Try.ntmps13
    go_wp2
    go_ret
    exact ⟨rfl, rfl⟩
  · go_enter Try.func17, Try.ntmps17
    go_wp2
    go_ret
    exact ⟨rfl, rfl⟩
  · go_enter Try.func18, Try.ntmps18
    go_wp2
    go_ret
    exact ⟨rfl, rfl⟩

/-- A store that New did not make. -/
def Bare (w : World) (b : Nat) : Prop := w.heap[b]? = some (.cells #[.chan none, .nilFunc, .int .i64 0] 47 (0, 0))

theorem bare_get {w : World} {b : Nat} (h : Bare w b) : Calls Try.prog 24 #[.pointer (some ⟨b, 0, none⟩)] w fun e w' => e = .returned (.string ⟨#[]⟩) ∧ w = w' := by
  have hcell : w.cell? ⟨b, 0, none⟩ = some (.chan none) := by unfold Bare at h; simp [World.cell?, h]
  have hnil := eqlChanNil Try.underlying45 w none
  clear h
  go_enter Try.func24, Try.ntmps24
  go_wp2_with (go_at_call 32; refine (zeroS_any _).mono ?_; rintro e w' ⟨rfl, rfl⟩)
  go_ret
  exact ⟨rfl, rfl⟩

theorem bare_len {w : World} {b : Nat} (h : Bare w b) : (Calls Try.prog 23 #[.pointer (some ⟨b, 0, none⟩)] w fun e w' => e = .returned (.int .i64 0) ∧ w = w') ∧
    (Calls Try.prog 25 #[.pointer (some ⟨b, 0, none⟩)] w fun e w' => e = .returned (.int .i64 0) ∧ w = w') := by
  have hcell : w.cell? ⟨b, 0, none⟩ = some (.chan none) := by unfold Bare at h; simp [World.cell?, h]
  have hcell2 : w.cell? ⟨b, 2, none⟩ = some (.int .i64 0) := by unfold Bare at h; simp [World.cell?, h]
  have hlen : ∀ ty, (Builtin.len_ #[45] ty #[.chan none]).run Try.prog w = .ok (.int .i64 0) w := by
    intro ty; simp [Builtin.len_, run_underlying Try.underlying45, goInt]
  clear h
  constructor
  · go_enter Try.func23, Try.ntmps23
    go_wp2
    go_ret
    exact ⟨rfl, rfl⟩
  · go_enter Try.func25, Try.ntmps25
    go_wp2
    go_ret
    exact ⟨rfl, rfl⟩

theorem bare_put {w : World} {b : Nat} (s : ByteArray) (h : Bare w b) : Calls Try.prog 22 #[.pointer (some ⟨b, 0, none⟩), .string s] w fun e w' => e = .returned (.bool false) ∧ w = w' := by
  have hcell : w.cell? ⟨b, 0, none⟩ = some (.chan none) := by unfold Bare at h; simp [World.cell?, h]
  clear h
  refine callsN Try.func22 rfl ?_
  simp only [Try.ntmps22, List.size_toArray, List.length_cons, List.length_nil, Nat.reduceAdd, Nat.reduceSub, Array.replicate_succ, Array.replicate_zero, List.push_toArray, List.append_toArray, List.nil_append, List.cons_append]
  refine codeN_seq_k fun K hK => codeN_of ?_
  go_wp2
  refine codeN_seq_k fun K hK => codeN_of ?_
  go_wp2
  refine codeN_seq_k fun K hK => codeN_of ?_
  go_wp2
  refine codeN_seq_k fun K hK => ?_
  refine codeN_sel (cases := #[scaseNil (.string s) (.string ⟨#[]⟩)]) (by rfl) (w' := w) (by simp [go_sem, execOp, scaseNil, Act.eval]) (fun fr cs es hh => step_lone_select_send_nil hh) ?_
  go_wp2
  refine codeN_of ?_
  go_wp2
  go_ret
  exact ⟨rfl, rfl⟩

set_option maxHeartbeats 1000000 in
theorem none_any (x : Int) (s : ByteArray) (w : World) : Calls Try.prog 6 #[.int .i64 x, .string s] w fun e w' => e = .returned (.bool true) ∧ Below w.heap.size w w' := by
  go_enter Try.func6, Try.ntmps6
  go_wp2_with fail
  have hN : Bare (w.alloc (.cells #[.chan none, .nilFunc, .int .i64 0] 47)) w.heap.size := heap_alloc_new w _
  have HB := Lib.hid (Below.one (w := w) (.cells #[.chan none, .nilFunc, .int .i64 0] 47))
  have hz : w.heap.size ≤ (w.alloc (.cells #[.chan none, .nilFunc, .int .i64 0] 47)).heap.size := by simp
  generalize w.alloc (.cells #[.chan none, .nilFunc, .int .i64 0] 47) = w0 at hN HB hz ⊢
  refine (nilPtrI w0 x).1.mono ?_
  rintro e w' ⟨rfl, rfl⟩
  go_wp2_with fail
  refine (nilPtrI w0 x).2.1.mono ?_
  rintro e w' ⟨rfl, rfl⟩
  go_wp2_with fail
  refine (nilPtrI w0 x).2.2.1.mono ?_
  rintro e w' ⟨rfl, rfl⟩
  go_wp2_with fail
  refine (nilPtrI w0 x).2.2.2.mono ?_
  rintro e w' ⟨rfl, rfl⟩
  go_wp2_with fail
  refine (bare_get hN).mono ?_
  rintro e w' ⟨rfl, rfl⟩
  go_wp2_with fail
  refine (bare_put s hN).mono ?_
  rintro e w' ⟨rfl, rfl⟩
  go_wp2_with fail
  refine (bare_get hN).mono ?_
  rintro e w' ⟨rfl, rfl⟩
  go_wp2_with fail
  refine (bare_len hN).1.mono ?_
  rintro e w' ⟨rfl, rfl⟩
  go_wp2_with fail
  refine (bare_len hN).2.mono ?_
  rintro e w' ⟨rfl, rfl⟩
  go_wp2_with fail
  refine (lives_any _).mono ?_
  rintro e w6 ⟨rfl, hB6⟩
  have H6 := Lib.hid (HB.out.trans (hB6.mono hz))
  clear hB6
  go_wp2_with fail
  go_ret
  exact ⟨rfl, H6.out⟩
end Go.Proofs.Ytdhbnldigbjkkaa
