/- The value of any descriptor. Condition: it has the form, and no more than 69 parts anywhere. -/
import Derived.Test.YtkpfeodffhfejaaGreatDoorCA13
import Derived.Test.YtkpfeodffhfejaaGreatDoorCA18
import Derived.Defers
import Derived.Recover
import Derived.Deep.RegionLaw
namespace Go.Proofs.YtkpfeodffhfejaaGreatDoor
set_option linter.unusedVariables false
set_option maxRecDepth 1000000
open Go.RowKit

def goodB (d : D) : Bool := decide (0 ≤ d.kind ∧ d.kind ≤ 22) && formB d && (!greatK d.kind || decide (d.parts.length < 70))
theorem leaf_post {d : D} {v : Value} {w : World} (h : d.kind < 18) (hc : Calls Tryz.prog 36 #[v] w (MadeIs w (leafV d))) : Calls Tryz.prog 36 #[v] w (MadePost w d) := by
  unfold MadePost
  rw [mkV_leaf h]
  exact hc
set_option maxHeartbeats 4000000 in
theorem made_great (d : D) (w : World) (v : Value) (h : IsD w v d) (h1 : 18 ≤ d.kind) (hk2 : d.kind ≤ 22)
    (hc : ∀ (W : World) (u : Value), IsD W u d → Calls Tryz.prog 58 #[u, .agg #[.int .i64 d.kind, .string d.type, .int .i64 d.hook]] W (MadePost W d)) : Calls Tryz.prog 36 #[v] w (MadePost w d) := by
  have HD := Lib.hid h
  have HC := Lib.hid hc
  obtain ⟨a5, c5, a6, c6, rfl, hk, hb, hi, ht, hx, hn, hp⟩ := h.open
  clear hp hn hb hi hk ht hx h hc
  unfold aggD at HD ⊢
  have t0 : (d.kind == 0) = false := by simp; omega
  have t1 : (d.kind == 1) = false := by simp; omega
  have t2 : decide (d.kind ≤ 6) = false := by simp; omega
  have t3 : decide (d.kind ≤ 11) = false := by simp; omega
  have t12 : (d.kind == 12) = false := by simp; omega
  have t13 : (d.kind == 13) = false := by simp; omega
  have t14 : (d.kind == 14) = false := by simp; omega
  have t15 : (d.kind == 15) = false := by simp; omega
  have t16 : (d.kind == 16) = false := by simp; omega
  have t17 : (d.kind == 17) = false := by simp; omega
  have t22 : 2 ≤ d.kind := by omega
  have t23 : 7 ≤ d.kind := by omega
  cases hm : mkV d with
  | none =>
    have HM := Lib.hid hm
    clear hm
    go_enter Tryz.func36, Tryz.ntmps36
    go_wp2_with fail
    refine (made_none HM.out (HC.out _ _ (HD.out.later ((Below.new _).push _)))).mono ?_
    rintro e w3 ⟨rfl, hB⟩
    have HB := Lib.hid (((Below.new _).push _).next hB)
    clear hB
    go_wp2_with fail
    refine ⟨rfl, ?_⟩
    show MadePost _ _ (thrown 5) _
    unfold MadePost
    rw [HM.out]
    exact ⟨rfl, HB.out⟩
  | some x =>
    have HM := Lib.hid hm
    clear hm
    go_enter Tryz.func36, Tryz.ntmps36
    go_wp2_with fail
    refine (made_some HM.out (HC.out _ _ (HD.out.later ((Below.new _).push _)))).mono ?_
    rintro e w3 ⟨hB, t, y, rfl, hx⟩
    have HB := Lib.hid (((Below.new _).push _).next hB)
    have HX := Lib.hid hx
    clear hB hx
    go_wp2_with fail
    refine bodyPost_ret (v := .iface t y) (by simp [results, Tryz.f36, go_sem]) rfl ?_
    unfold MadePost
    rw [HM.out]
    exact ⟨HB.out, t, y, rfl, HX.out.mono fun k _ hk => by simp at hk; omega⟩

theorem made_any : ∀ (d : D), allD goodB d = true → ∀ (w : World) (v : Value), IsD w v d → Calls Tryz.prog 36 #[v] w (MadePost w d) := by
  refine D.induct_d fun d ih hg w v h => ?_
  rw [allD_eq] at hg
  have hg' := Bool.and_eq_true_iff.1 hg
  obtain ⟨hg0, hgl⟩ := hg'
  simp only [goodB, Bool.and_eq_true, decide_eq_true_eq, Bool.or_eq_true, Bool.not_eq_true'] at hg0
  obtain ⟨⟨⟨hk0, hk1⟩, hf⟩, hl⟩ := hg0
  by_cases h18 : d.kind < 18
  · refine leaf_post h18 ?_
    by_cases e0 : d.kind = 0
    · exact made_nil d w v h e0
    · by_cases e1 : d.kind = 1
      · exact made_k1 d w v h e1
      · by_cases e6 : d.kind ≤ 6
        · exact made_int d w v h (by omega) e6
        · by_cases e11 : d.kind ≤ 11
          · exact made_uint d w v h (by omega) e11
          · rcases (show d.kind = 12 ∨ d.kind = 13 ∨ d.kind = 14 ∨ d.kind = 15 ∨ d.kind = 16 ∨ d.kind = 17 by omega) with e | e | e | e | e | e
            · exact made_k12 d w v h e
            · exact made_k13 d w v h e
            · exact made_k14 d w v h e
            · exact made_k15 d w v h e
            · exact made_k16 d w v h e
            · exact made_k17 d w v h e
  · have hgr : greatK d.kind = true := by simp [greatK]; omega
    have hlen : d.parts.length < 70 := by
      rcases hl with hl | hl
      · rw [hgr] at hl; cases hl
      · exact hl
    have hpo : partsOf d = d.parts := by simp [partsOf, hgr]
    rw [hpo] at hgl
    have ih' : ∀ x ∈ d.parts, ∀ (w : World) (v : Value), IsD w v x → Calls Tryz.prog 36 #[v] w (MadePost w x) := by
      intro x hx
      refine ih x hx ?_
      clear ih hf hl hlen
      generalize d.parts = l at hx hgl
      induction l with
      | nil => cases hx
      | cons y l ih =>
        rw [allL, Bool.and_eq_true] at hgl
        rcases List.mem_cons.1 hx with rfl | hx
        · exact hgl.1
        · exact ih hx hgl.2
    refine made_great d w v h (by omega) hk1 fun W u hu => ?_
    unfold formB at hf
    simp only [Bool.and_eq_true] at hf
    have hf2 := hf.2
    by_cases e18 : d.kind = 18
    · rw [if_pos e18] at hf2
      simp only [Bool.and_eq_true, decide_eq_true_eq] at hf2
      exact great_struct d e18 (by omega) hf2.1 ih' W u hu
    · rw [if_neg e18] at hf2
      by_cases e21 : d.kind = 21
      · rw [if_pos e21] at hf2
        simp only [Bool.and_eq_true, decide_eq_true_eq] at hf2
        exact great_map d e21 (by omega) hlen hf2.2 hf2.1 ih' W u hu
      · rw [if_neg e21] at hf2
        by_cases e22 : d.kind = 22
        · rw [if_pos e22, decide_eq_true_eq] at hf2
          exact great_ptr d e22 (by omega) hf2 ih' W u hu
        · exact great_list d (by omega) (by omega) ih' W u hu
end Go.Proofs.YtkpfeodffhfejaaGreatDoor

/- What Build throws is told as an error: the deferred closure. No condition. -/
namespace Go.Proofs.YtkpfeodffhfejaaGreatDoor
set_option linter.unusedVariables false
set_option maxRecDepth 1000000
set_option linter.unusedSimpArgs false
open Go.RowKit

theorem as63 (v : Value) (w : World) : (Instr.typeAssert (.iface 66 v) 20 66 true).run Tryz.prog w = .ok (.tuple #[v, .bool true]) w := by
  simp [Instr.typeAssert, run_underlying Tryz.underlying66]
theorem catch_panicking (p q B : Nat) (x y : Value) (c : Int) (older : List PanicEntry) (w : World) (hp : w.cell? ⟨p, 0, none⟩ = some x) (hq : w.cell? ⟨q, 0, none⟩ = some y) (zp : w.frozen? ⟨p, 0, none⟩ = false) (zq : w.frozen? ⟨q, 0, none⟩ = false)
    (hpq : p ≠ q) (hB : B ≤ p) (hB2 : B ≤ q) :
    CallsD Tryz.prog 28 #[.pointer (some ⟨p, 0, none⟩), .pointer (some ⟨q, 0, none⟩)] (.panicking ({ v := .iface 66 (.agg #[.int .i64 c]), recovered := false } :: older)) w fun e u' w' =>
      e = .returned (.tuple #[]) ∧ u' = .panicking ({ v := .iface 66 (.agg #[.int .i64 c]), recovered := true } :: older) ∧ Below B w w' ∧ w'.cell? ⟨p, 0, none⟩ = some .nilIface ∧ w'.cell? ⟨q, 0, none⟩ = some (.int .i64 c) := by
  have h63 := as63
  refine callsD_of_wpS Tryz.func28 rfl fun c₀ cs hu => ?_
  apply wpS_seq
  apply wpS_region
  simp [wpOpsS, go_sem, recoverD, hu, Tryz.ntmps28, Exit.thenS]
  refine wpS_of_wp ?_
  rw [show (#[Value.pointer (some ⟨p, 0, none⟩), Value.pointer (some ⟨q, 0, none⟩)] ++ (Array.replicate 11 undef).setIfInBounds 3 (Value.iface 66 (.agg #[.int .i64 c])) : Array Value) =
    #[.pointer (some ⟨p, 0, none⟩), .pointer (some ⟨q, 0, none⟩), undef, undef, undef, .iface 66 (.agg #[.int .i64 c]), undef, undef, undef, undef, undef, undef, undef] from rfl]
  go_wp2
  have lp := World.block_lt_of_cell? w _ hp
  have lq := World.block_lt_of_cell? w _ hq
  obtain ⟨W1, hW1⟩ : ∃ W1, W1 = w.alloc (.cells #[.int .i64 c] 66) := ⟨_, rfl⟩
  rw [← hW1]
  have b1 : Below B w W1 := by rw [hW1]; exact (Below.refl _ _).alloc (by simp at lp; omega) _
  have kp : W1.cell? ⟨p, 0, none⟩ = some x := by rw [hW1]; exact cell_below (Below.new _) hp
  have kq : W1.cell? ⟨q, 0, none⟩ = some y := by rw [hW1]; exact cell_below (Below.new _) hq
  have yp : W1.frozen? ⟨p, 0, none⟩ = false := by rw [hW1, (Below.new _).frozen (p := ⟨p, 0, none⟩) lp]; exact zp
  have yq : W1.frozen? ⟨q, 0, none⟩ = false := by rw [hW1, (Below.new _).frozen (p := ⟨q, 0, none⟩) lq]; exact zq
  have kn : W1.cell? ⟨w.heap.size, 0, none⟩ = some (.int .i64 c) := by rw [hW1]; simp
  have np : p ≠ w.heap.size := by simp at lp; omega
  have nq : q ≠ w.heap.size := by simp at lq; omega
  clear hW1 hp hq zp zq
  have hqp := Ne.symm hpq
  go_region
  go_wp2
  simp [bodyPostS, results, Tryz.f28]
  have k1 : (W1.cell? ⟨p, 0, none⟩).isSome = true := by rw [kp]; rfl
  have k2 : ((W1.setCell ⟨p, 0, none⟩ .nilIface).cell? ⟨q, 0, none⟩).isSome = true := by rw [World.cell?_setCell_other _ _ _ _ (by intro e; injection e; omega), kq]; rfl
  refine ⟨((b1.setCell (p := ⟨p, 0, none⟩) hB _).setCell (p := ⟨q, 0, none⟩) hB2 _).drew, ?_, World.cell?_setCell_same' _ _ _ k2⟩
  rw [World.cell?_setCell_other _ _ _ _ (by intro e; injection e; omega)]
  exact World.cell?_setCell_same' _ _ _ k1

theorem catch_idle (p q : Addr) (w : World) :
    CallsD Tryz.prog 28 #[.pointer (some p), .pointer (some q)] .returning w fun e u' w' => e = .returned (.tuple #[]) ∧ u' = .returning ∧ w = w' := by
  refine callsD_of_wpS Tryz.func28 rfl fun c₀ cs hu => ?_
  apply wpS_seq
  apply wpS_region
  simp [wpOpsS, go_sem, recoverD, hu, Tryz.ntmps28, Exit.thenS]
  refine wpS_of_wp ?_
  rw [show (#[Value.pointer (some p), Value.pointer (some q)] ++ (Array.replicate 11 undef).setIfInBounds 3 Value.nilIface : Array Value) =
    #[.pointer (some p), .pointer (some q), undef, undef, undef, .nilIface, undef, undef, undef, undef, undef, undef, undef] from rfl]
  go_wp2
  cases c₀
  simp_all [bodyPostS, results, Tryz.f28]

/-- The error. -/
def errD (d : D) : Int :=
  if ¬ (0 ≤ (countD d 64).1 ∧ (countD d 64).2 ≤ 1024) then 2
  else if 8 < depthD d then 6
  else if allD kindB d = false then 3
  else if allD formB d = false then 4
  else if mkV d = none then 5 else 0
/-- What Build hands back. -/
def BuildPost (w : World) (d : D) (e : Ending) (w' : World) : Prop :=
  Below w.heap.size w w' ∧ (errD d ≠ 0 → e = .returned (.tuple #[.nilIface, .int .i64 (errD d)])) ∧
    (errD d = 0 → ∃ t y x, mkV d = some x ∧ e = .returned (.tuple #[.iface t y, .int .i64 0]) ∧ IsVF (w.heap.size ≤ ·) w' (.iface t y) x)
end Go.Proofs.YtkpfeodffhfejaaGreatDoor
