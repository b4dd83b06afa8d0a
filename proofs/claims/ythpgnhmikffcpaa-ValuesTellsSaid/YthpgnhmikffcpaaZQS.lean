/- The reference's name of a type. No condition but a kind among 0 to 22. -/
import Derived.Test.YthpgnhmikffcpaaZQN
namespace Go.Proofs.Ythpgnhmikffcpaa
set_option linter.unusedVariables false
set_option linter.unusedSimpArgs false
open Go.RowKit

def typeD (d : D) : ByteArray := if d.type = ⟨#[]⟩ then kindNames.getD d.kind.toNat ⟨#[]⟩ else d.type
theorem type_raw (x : V) : typeD (rawV x) = typeV x := by
  unfold typeD typeV
  rw [rawV_kind, rawV_type]
theorem names_cell (w : World) {b : Nat} (hb : w.heap.size = b) (k : Int) (h0 : 0 ≤ k) (h1 : k ≤ 22) : (w.alloc (.cells #[.string ⟨#[60, 110, 105, 108, 62]⟩, .string ⟨#[98, 111, 111, 108]⟩, .string ⟨#[105, 110, 116, 56]⟩, .string ⟨#[105, 110, 116, 49, 54]⟩, .string ⟨#[105, 110, 116, 51, 50]⟩, .string ⟨#[105, 110, 116, 54, 52]⟩, .string ⟨#[105, 110, 116]⟩, .string ⟨#[117, 105, 110, 116, 56]⟩, .string ⟨#[117, 105, 110, 116, 49, 54]⟩, .string ⟨#[117, 105, 110, 116, 51, 50]⟩, .string ⟨#[117, 105, 110, 116, 54, 52]⟩, .string ⟨#[117, 105, 110, 116]⟩, .string ⟨#[102, 108, 111, 97, 116, 51, 50]⟩, .string ⟨#[102, 108, 111, 97, 116, 54, 52]⟩, .string ⟨#[99, 111, 109, 112, 108, 101, 120, 54, 52]⟩, .string ⟨#[99, 111, 109, 112, 108, 101, 120, 49, 50, 56]⟩, .string ⟨#[115, 116, 114, 105, 110, 103]⟩, .string ⟨#[91, 93, 117, 105, 110, 116, 56]⟩, .string ⟨#[115, 116, 114, 117, 99, 116]⟩, .string ⟨#[97, 114, 114, 97, 121]⟩, .string ⟨#[115, 108, 105, 99, 101]⟩, .string ⟨#[109, 97, 112]⟩, .string ⟨#[112, 116, 114]⟩] 9)).cell? ⟨b, k.toNat, none⟩ = some (.string (kindNames.getD k.toNat ⟨#[]⟩)) := by
  subst hb
  have h := heap_alloc_new w (.cells #[.string ⟨#[60, 110, 105, 108, 62]⟩, .string ⟨#[98, 111, 111, 108]⟩, .string ⟨#[105, 110, 116, 56]⟩, .string ⟨#[105, 110, 116, 49, 54]⟩, .string ⟨#[105, 110, 116, 51, 50]⟩, .string ⟨#[105, 110, 116, 54, 52]⟩, .string ⟨#[105, 110, 116]⟩, .string ⟨#[117, 105, 110, 116, 56]⟩, .string ⟨#[117, 105, 110, 116, 49, 54]⟩, .string ⟨#[117, 105, 110, 116, 51, 50]⟩, .string ⟨#[117, 105, 110, 116, 54, 52]⟩, .string ⟨#[117, 105, 110, 116]⟩, .string ⟨#[102, 108, 111, 97, 116, 51, 50]⟩, .string ⟨#[102, 108, 111, 97, 116, 54, 52]⟩, .string ⟨#[99, 111, 109, 112, 108, 101, 120, 54, 52]⟩, .string ⟨#[99, 111, 109, 112, 108, 101, 120, 49, 50, 56]⟩, .string ⟨#[115, 116, 114, 105, 110, 103]⟩, .string ⟨#[91, 93, 117, 105, 110, 116, 56]⟩, .string ⟨#[115, 116, 114, 117, 99, 116]⟩, .string ⟨#[97, 114, 114, 97, 121]⟩, .string ⟨#[115, 108, 105, 99, 101]⟩, .string ⟨#[109, 97, 112]⟩, .string ⟨#[112, 116, 114]⟩] 9)
  rcases (show k = 0 ∨ k = 1 ∨ k = 2 ∨ k = 3 ∨ k = 4 ∨ k = 5 ∨ k = 6 ∨ k = 7 ∨ k = 8 ∨ k = 9 ∨ k = 10 ∨ k = 11 ∨ k = 12 ∨ k = 13 ∨ k = 14 ∨ k = 15 ∨ k = 16 ∨ k = 17 ∨ k = 18 ∨ k = 19 ∨ k = 20 ∨ k = 21 ∨ k = 22 by omega) with h' | h' | h' | h' | h' | h' | h' | h' | h' | h' | h' | h' | h' | h' | h' | h' | h' | h' | h' | h' | h' | h' | h'
  all_goals
    subst h'
    unfold World.cell?
    simp only [h]
    rfl
set_option maxRecDepth 100000 in
set_option maxHeartbeats 2000000 in
theorem refType_any {d : D} {w : World} {v : Value} (h : IsD w v d) (h0 : 0 ≤ d.kind) (h22 : d.kind ≤ 22) : Calls Try.prog 27 #[v] w fun e w' => e = .returned (.string (typeD d)) ∧ Below w.heap.size w w' := by
  have HD := Lib.hid h
  obtain ⟨a5, c5, a6, c6, rfl, _⟩ := h.open
  clear h
  have hT : typeD d = if d.type = ⟨#[]⟩ then kindNames.getD d.kind.toNat ⟨#[]⟩ else d.type := rfl
  generalize typeD d = T at hT ⊢
  unfold aggD
  obtain ⟨k, hk⟩ : ∃ k, d.kind = k := ⟨_, rfl⟩
  rw [hk] at hT h0 h22 ⊢
  rcases empty_or d.type with ⟨e1, e2⟩ | ⟨e1, e2⟩
  · rw [if_pos e1] at hT
    have HT := Lib.hid hT
    clear e1 hT
    go_enter Try.func27, Try.ntmps27
    go_upto_region 4 with fail
    have hB : Below w.heap.size w ((w.alloc (.cells #[.int .i64 k, .string d.type, .int .u64 d.bits, .int .u64 d.imag, .string d.text, .slice a5 d.names.length c5, .slice a6 d.parts.length c6, .int .i64 d.hook] 26)).alloc (.cells #[.string ⟨#[60, 110, 105, 108, 62]⟩, .string ⟨#[98, 111, 111, 108]⟩, .string ⟨#[105, 110, 116, 56]⟩, .string ⟨#[105, 110, 116, 49, 54]⟩, .string ⟨#[105, 110, 116, 51, 50]⟩, .string ⟨#[105, 110, 116, 54, 52]⟩, .string ⟨#[105, 110, 116]⟩, .string ⟨#[117, 105, 110, 116, 56]⟩, .string ⟨#[117, 105, 110, 116, 49, 54]⟩, .string ⟨#[117, 105, 110, 116, 51, 50]⟩, .string ⟨#[117, 105, 110, 116, 54, 52]⟩, .string ⟨#[117, 105, 110, 116]⟩, .string ⟨#[102, 108, 111, 97, 116, 51, 50]⟩, .string ⟨#[102, 108, 111, 97, 116, 54, 52]⟩, .string ⟨#[99, 111, 109, 112, 108, 101, 120, 54, 52]⟩, .string ⟨#[99, 111, 109, 112, 108, 101, 120, 49, 50, 56]⟩, .string ⟨#[115, 116, 114, 105, 110, 103]⟩, .string ⟨#[91, 93, 117, 105, 110, 116, 56]⟩, .string ⟨#[115, 116, 114, 117, 99, 116]⟩, .string ⟨#[97, 114, 114, 97, 121]⟩, .string ⟨#[115, 108, 105, 99, 101]⟩, .string ⟨#[109, 97, 112]⟩, .string ⟨#[112, 116, 114]⟩] 9)) := (Below.new _).push _
    have hq : ((w.alloc (.cells #[.int .i64 k, .string d.type, .int .u64 d.bits, .int .u64 d.imag, .string d.text, .slice a5 d.names.length c5, .slice a6 d.parts.length c6, .int .i64 d.hook] 26)).alloc (.cells #[.string ⟨#[60, 110, 105, 108, 62]⟩, .string ⟨#[98, 111, 111, 108]⟩, .string ⟨#[105, 110, 116, 56]⟩, .string ⟨#[105, 110, 116, 49, 54]⟩, .string ⟨#[105, 110, 116, 51, 50]⟩, .string ⟨#[105, 110, 116, 54, 52]⟩, .string ⟨#[105, 110, 116]⟩, .string ⟨#[117, 105, 110, 116, 56]⟩, .string ⟨#[117, 105, 110, 116, 49, 54]⟩, .string ⟨#[117, 105, 110, 116, 51, 50]⟩, .string ⟨#[117, 105, 110, 116, 54, 52]⟩, .string ⟨#[117, 105, 110, 116]⟩, .string ⟨#[102, 108, 111, 97, 116, 51, 50]⟩, .string ⟨#[102, 108, 111, 97, 116, 54, 52]⟩, .string ⟨#[99, 111, 109, 112, 108, 101, 120, 54, 52]⟩, .string ⟨#[99, 111, 109, 112, 108, 101, 120, 49, 50, 56]⟩, .string ⟨#[115, 116, 114, 105, 110, 103]⟩, .string ⟨#[91, 93, 117, 105, 110, 116, 56]⟩, .string ⟨#[115, 116, 114, 117, 99, 116]⟩, .string ⟨#[97, 114, 114, 97, 121]⟩, .string ⟨#[115, 108, 105, 99, 101]⟩, .string ⟨#[109, 97, 112]⟩, .string ⟨#[112, 116, 114]⟩] 9)).cell? ⟨w.heap.size, 0, none⟩ = some (.int .i64 k) := cell_below (Below.new _) (Blk.of (heap_alloc_new w (.cells #[.int .i64 k, .string d.type, .int .u64 d.bits, .int .u64 d.imag, .string d.text, .slice a5 d.names.length c5, .slice a6 d.parts.length c6, .int .i64 d.hook] 26))).c0
    have hc : ((w.alloc (.cells #[.int .i64 k, .string d.type, .int .u64 d.bits, .int .u64 d.imag, .string d.text, .slice a5 d.names.length c5, .slice a6 d.parts.length c6, .int .i64 d.hook] 26)).alloc (.cells #[.string ⟨#[60, 110, 105, 108, 62]⟩, .string ⟨#[98, 111, 111, 108]⟩, .string ⟨#[105, 110, 116, 56]⟩, .string ⟨#[105, 110, 116, 49, 54]⟩, .string ⟨#[105, 110, 116, 51, 50]⟩, .string ⟨#[105, 110, 116, 54, 52]⟩, .string ⟨#[105, 110, 116]⟩, .string ⟨#[117, 105, 110, 116, 56]⟩, .string ⟨#[117, 105, 110, 116, 49, 54]⟩, .string ⟨#[117, 105, 110, 116, 51, 50]⟩, .string ⟨#[117, 105, 110, 116, 54, 52]⟩, .string ⟨#[117, 105, 110, 116]⟩, .string ⟨#[102, 108, 111, 97, 116, 51, 50]⟩, .string ⟨#[102, 108, 111, 97, 116, 54, 52]⟩, .string ⟨#[99, 111, 109, 112, 108, 101, 120, 54, 52]⟩, .string ⟨#[99, 111, 109, 112, 108, 101, 120, 49, 50, 56]⟩, .string ⟨#[115, 116, 114, 105, 110, 103]⟩, .string ⟨#[91, 93, 117, 105, 110, 116, 56]⟩, .string ⟨#[115, 116, 114, 117, 99, 116]⟩, .string ⟨#[97, 114, 114, 97, 121]⟩, .string ⟨#[115, 108, 105, 99, 101]⟩, .string ⟨#[109, 97, 112]⟩, .string ⟨#[112, 116, 114]⟩] 9)).cell? ⟨w.heap.size + 1, k.toNat, none⟩ = some (.string T) := by
      rw [HT.out]
      refine names_cell (w.alloc (.cells #[.int .i64 k, .string d.type, .int .u64 d.bits, .int .u64 d.imag, .string d.text, .slice a5 d.names.length c5, .slice a6 d.parts.length c6, .int .i64 d.hook] 26)) ?_ k h0 h22
      simp
    generalize (w.alloc (.cells #[.int .i64 k, .string d.type, .int .u64 d.bits, .int .u64 d.imag, .string d.text, .slice a5 d.names.length c5, .slice a6 d.parts.length c6, .int .i64 d.hook] 26)).alloc (.cells #[.string ⟨#[60, 110, 105, 108, 62]⟩, .string ⟨#[98, 111, 111, 108]⟩, .string ⟨#[105, 110, 116, 56]⟩, .string ⟨#[105, 110, 116, 49, 54]⟩, .string ⟨#[105, 110, 116, 51, 50]⟩, .string ⟨#[105, 110, 116, 54, 52]⟩, .string ⟨#[105, 110, 116]⟩, .string ⟨#[117, 105, 110, 116, 56]⟩, .string ⟨#[117, 105, 110, 116, 49, 54]⟩, .string ⟨#[117, 105, 110, 116, 51, 50]⟩, .string ⟨#[117, 105, 110, 116, 54, 52]⟩, .string ⟨#[117, 105, 110, 116]⟩, .string ⟨#[102, 108, 111, 97, 116, 51, 50]⟩, .string ⟨#[102, 108, 111, 97, 116, 54, 52]⟩, .string ⟨#[99, 111, 109, 112, 108, 101, 120, 54, 52]⟩, .string ⟨#[99, 111, 109, 112, 108, 101, 120, 49, 50, 56]⟩, .string ⟨#[115, 116, 114, 105, 110, 103]⟩, .string ⟨#[91, 93, 117, 105, 110, 116, 56]⟩, .string ⟨#[115, 116, 114, 117, 99, 116]⟩, .string ⟨#[97, 114, 114, 97, 121]⟩, .string ⟨#[115, 108, 105, 99, 101]⟩, .string ⟨#[109, 97, 112]⟩, .string ⟨#[112, 116, 114]⟩] 9) = W at hB hq hc ⊢
    have hkn : ((k.toNat : Nat) : Int) = k := by omega
    have hlt : k < 23 := by omega
    have hB := Lib.hid hB
    clear HT h22
    go_wp2_with fail
    go_ret
    exact ⟨rfl, hB.out⟩
  · rw [if_neg e1] at hT
    have HT := Lib.hid hT
    clear e1 hT
    go_enter Try.func27, Try.ntmps27
    go_wp2_with fail
    go_ret
    exact ⟨by rw [HT.out]; rfl, Below.new _⟩
end Go.Proofs.Ythpgnhmikffcpaa

/- The method Kind of any value. No condition. -/
namespace Go.Proofs.Ythpgnhmikffcpaa
set_option linter.unusedVariables false
set_option linter.unusedSimpArgs false
open Go.RowKit

theorem kind102 (b : B) (w : World) : Calls Try.prog 102 #[.agg #[.int .i64 b.kind, .string b.name, .int .i64 b.hook]] w fun e w' => e = .returned (.int .i64 b.kind) ∧ Below w.heap.size w w' := by
  go_enter Try.func102, Try.ntmps102
  go_wp2_with fail
  go_ret
  exact ⟨rfl, Below.new _⟩
theorem kind103 (w : World) : Calls Try.prog 103 #[.agg #[]] w fun e w' => e = .returned (.int .i64 0) ∧ Below w.heap.size w w' := by
  go_enter Try.func103, Try.ntmps103
  go_wp2_with fail
  go_ret
  exact ⟨rfl, Below.new _⟩
/-- Which function it is, and what it hands back. -/
def KindOf (t : TypeId) (y : Value) (k : Int) : Prop := ∃ f r, (∀ (n : Nat) W, Sem.run Try.prog (method (n + 1) t y "Kind") W = .ok (f, r) W) ∧ (∀ W, Sem.run Try.prog (callFunc f #[r]) W = .ok (.enter f #[r]) W) ∧
  ∀ W, Calls Try.prog f #[r] W fun e w' => e = .returned (.int .i64 k) ∧ Below W.heap.size W w'
theorem kind_of {w : World} {t : TypeId} {y : Value} {x : V} (h : IsV w (.iface t y) x) : KindOf t y x.base.kind := by
  generalize hv : Value.iface t y = v at h
  cases h with
  | nil =>
    injection hv with h1 h2
    subst h1 h2
    exact ⟨103, .agg #[], fun n W => by kernel_rfl, fun W => by kernel_rfl, kind103⟩
  | nil0 => cases hv
  | leaf l =>
    cases l with
    | bool b z =>
      unfold Leaf.val at hv
      injection hv with h1 h2
      subst h1 h2
      exact ⟨102, .agg #[.int .i64 b.kind, .string b.name, .int .i64 b.hook], fun n W => by kernel_rfl, fun W => by kernel_rfl, kind102 b⟩
    | int b z =>
      unfold Leaf.val at hv
      injection hv with h1 h2
      subst h1 h2
      exact ⟨102, .agg #[.int .i64 b.kind, .string b.name, .int .i64 b.hook], fun n W => by kernel_rfl, fun W => by kernel_rfl, kind102 b⟩
    | uint b z =>
      unfold Leaf.val at hv
      injection hv with h1 h2
      subst h1 h2
      exact ⟨102, .agg #[.int .i64 b.kind, .string b.name, .int .i64 b.hook], fun n W => by kernel_rfl, fun W => by kernel_rfl, kind102 b⟩
    | float b z n =>
      unfold Leaf.val at hv
      injection hv with h1 h2
      subst h1 h2
      exact ⟨102, .agg #[.int .i64 b.kind, .string b.name, .int .i64 b.hook], fun n W => by kernel_rfl, fun W => by kernel_rfl, kind102 b⟩
    | cplx b z z2 n =>
      unfold Leaf.val at hv
      injection hv with h1 h2
      subst h1 h2
      exact ⟨102, .agg #[.int .i64 b.kind, .string b.name, .int .i64 b.hook], fun n W => by kernel_rfl, fun W => by kernel_rfl, kind102 b⟩
    | text b z =>
      unfold Leaf.val at hv
      injection hv with h1 h2
      subst h1 h2
      exact ⟨102, .agg #[.int .i64 b.kind, .string b.name, .int .i64 b.hook], fun n W => by kernel_rfl, fun W => by kernel_rfl, kind102 b⟩
    | bytes b z =>
      unfold Leaf.val at hv
      injection hv with h1 h2
      subst h1 h2
      exact ⟨102, .agg #[.int .i64 b.kind, .string b.name, .int .i64 b.hook], fun n W => by kernel_rfl, fun W => by kernel_rfl, kind102 b⟩
  | list b a c bb oo vs l h1 h2 h3 h4 h5 h6 =>
    injection hv with e1 e2
    subst e1 e2
    exact ⟨102, .agg #[.int .i64 b.kind, .string b.name, .int .i64 b.hook], fun n W => by kernel_rfl, fun W => by kernel_rfl, kind102 b⟩
  | struct b a c bb oo vs names l hn h1 h2 h3 h4 h4' h5 h6 =>
    injection hv with e1 e2
    subst e1 e2
    exact ⟨102, .agg #[.int .i64 b.kind, .string b.name, .int .i64 b.hook], fun n W => by kernel_rfl, fun W => by kernel_rfl, kind102 b⟩
  | map b a c bb oo n vs l hn h1 h2 h3 h4 h4' h5 h6 =>
    injection hv with e1 e2
    subst e1 e2
    exact ⟨102, .agg #[.int .i64 b.kind, .string b.name, .int .i64 b.hook], fun n W => by kernel_rfl, fun W => by kernel_rfl, kind102 b⟩
  | ptr0 b addr =>
    injection hv with e1 e2
    subst e1 e2
    exact ⟨102, .agg #[.int .i64 b.kind, .string b.name, .int .i64 b.hook], fun n W => by kernel_rfl, fun W => by kernel_rfl, kind102 b⟩
  | ptr1 b addr v x hv2 h =>
    injection hv with e1 e2
    subst e1 e2
    exact ⟨102, .agg #[.int .i64 b.kind, .string b.name, .int .i64 b.hook], fun n W => by kernel_rfl, fun W => by kernel_rfl, kind102 b⟩
end Go.Proofs.Ythpgnhmikffcpaa
