/- The document's examples are as it says: lives. No condition. -/
import Derived.Test.YtkpfeodffhfejaaGreatDoorCA30
import Derived.Test.YtkpfeodffhfejaaGreatDoorCA21
import Derived.Deep.DeepCutAuto
import Derived.Deep.QuietTactic
import Derived.Deep.RegionLaw
namespace Go.Proofs.YtkpfeodffhfejaaGreatDoor
set_option linter.unusedVariables false
set_option maxRecDepth 1000000
set_option linter.unusedSimpArgs false
open Go.RowKit

/-- Raw's answer with its cells open. -/
def RawAt (w : World) (d : D) (e : Ending) (w' : World) : Prop := Below w.heap.size w w' ∧ ∃ a5 c5 a6 c6, e = .returned (aggD d a5 c5 a6 c6) ∧ IsDF w' (w.heap.size ≤ ·) (aggD d a5 c5 a6 c6) d
theorem raw_at {w : World} {x : V} {e : Ending} {w' : World} (h : RawPost w x e w') : RawAt w (rawV x) e w' := by
  obtain ⟨h1, v, h2, h3⟩ := h
  refine ⟨h1, ?_⟩
  generalize rawV x = d at h3 ⊢
  have h4 := h3
  cases h3 with
  | mk S d a5 c5 a6 c6 b5 o5 b6 o6 P hk hb hi hh ht hx n1 n2 n3 n4 n5 p1 p2 p3 p4 p5 p6 p7 p8 => exact ⟨_, _, _, _, h2, h4⟩

/-- A descriptor of a kind and bits alone. -/
def bareV (k b : Int) : D := .mk k ⟨#[]⟩ b 0 ⟨#[]⟩ [] [] 0
theorem bareV_is {k b : Int} (hk : I64 k) (hb : U64 b) (w : World) : IsD w (.agg #[.int .i64 k, .string ⟨#[]⟩, .int .u64 b, .int .u64 0, .string ⟨#[]⟩, .slice none 0 0, .slice none 0 0, .int .i64 0]) (bareV k b) :=
  (IsDF.bare (S := fun _ => True) hk hb U64_0 I64_0 cap_0 cap_0).isD
theorem typed_empty : typedB ⟨#[]⟩ = true := by decide
theorem rfl_parts {k b : Int} (hg : greatK k = false) : partsOf (bareV k b) = [] := by unfold partsOf; rw [show (bareV k b).kind = k from rfl, hg]; rfl
theorem bare_fine {k : Int} (b : Int) (h0 : 0 ≤ k) (h17 : k ≤ 17) : errD (bareV k b) = 0 ∧ mkV (bareV k b) = some (leafV (bareV k b)) := by
  have hg : greatK k = false := by simp [greatK]; omega
  have hm : mkV (bareV k b) = some (leafV (bareV k b)) := mkV_leaf (by show k < 18; omega)
  refine ⟨?_, hm⟩
  rw [errD_is, hm]
  have h1 : sizeD (bareV k b) = 1 := by simp [bareV, sizeD, hg]
  have h2 : textD (bareV k b) = 0 := by
    have : ((⟨#[]⟩ : ByteArray).size : Int) = 0 := rfl
    simp [bareV, textD, hg, this]
  have h3 : depthD (bareV k b) = 1 := by simp [bareV, depthD, hg]
  have hp : partsOf (bareV k b) = [] := rfl_parts hg
  have h4 : allD kindB (bareV k b) = true := by rw [allD_eq, hp]; simp only [kindB, show (bareV k b).kind = k from rfl, allL, Bool.and_true, decide_eq_true_eq]; omega
  have h5 : allD formB (bareV k b) = true := by
    have e18 : ¬ k = 18 := by omega
    have e21 : ¬ k = 21 := by omega
    have e22 : ¬ k = 22 := by omega
    simp [bareV, allD, hg, formB, D.kind, D.type, typed_empty, e18, e21, e22]
  rw [h1, h2, h3, h4, h5]
  simp
theorem bare_bad {k : Int} (b : Int) (h : k < 0 ∨ 22 < k) : errD (bareV k b) = 3 := by
  have hg : greatK k = false := by simp [greatK]; omega
  rw [errD_is]
  have h1 : sizeD (bareV k b) = 1 := by simp [bareV, sizeD, hg]
  have h2 : textD (bareV k b) = 0 := by
    have : ((⟨#[]⟩ : ByteArray).size : Int) = 0 := rfl
    simp [bareV, textD, hg, this]
  have h3 : depthD (bareV k b) = 1 := by simp [bareV, depthD, hg]
  have hp : partsOf (bareV k b) = [] := rfl_parts hg
  have h4 : allD kindB (bareV k b) = false := by rw [allD_eq, hp]; simp only [kindB, show (bareV k b).kind = k from rfl, allL, Bool.and_true, decide_eq_false_iff_not]; omega
  rw [h1, h2, h3, h4]
  simp
/-- Build at such a descriptor. -/
theorem build_bare {k b : Int} (hk : I64 k) (hb : U64 b) (h0 : 0 ≤ k) (h17 : k ≤ 17) (w : World) : Calls Tryz.prog 18 #[.agg #[.int .i64 k, .string ⟨#[]⟩, .int .u64 b, .int .u64 0, .string ⟨#[]⟩, .slice none 0 0, .slice none 0 0, .int .i64 0]] w fun e w' =>
    Below w.heap.size w w' ∧ ∃ t y, e = .returned (.tuple #[.iface t y, .int .i64 0]) ∧ IsVF (w.heap.size ≤ ·) w' (.iface t y) (leafV (bareV k b)) := by
  obtain ⟨h1, h2⟩ := bare_fine b h0 h17
  refine (build_any (bareV_is hk hb w)).mono fun e w' h => ⟨h.1, ?_⟩
  obtain ⟨t, y, x, q1, q2, q3⟩ := h.2.2 h1
  rw [h2] at q1
  injection q1 with q1
  subst q1
  exact ⟨t, y, q2, q3⟩
theorem build_refused {k b : Int} (hk : I64 k) (hb : U64 b) (h : k < 0 ∨ 22 < k) (w : World) : Calls Tryz.prog 18 #[.agg #[.int .i64 k, .string ⟨#[]⟩, .int .u64 b, .int .u64 0, .string ⟨#[]⟩, .slice none 0 0, .slice none 0 0, .int .i64 0]] w fun e w' =>
    Below w.heap.size w w' ∧ e = .returned (.tuple #[.nilIface, .int .i64 3]) := by
  have h1 := bare_bad b h
  refine (build_any (bareV_is hk hb w)).mono fun e w' q => ⟨q.1, ?_⟩
  have := q.2.1 (by rw [h1]; decide)
  rw [h1] at this
  exact this
end Go.Proofs.YtkpfeodffhfejaaGreatDoor

/- Two descriptors are compared: Same answers whether they are equal. No condition. -/
namespace Go.Proofs.YtkpfeodffhfejaaGreatDoor
set_option linter.unusedVariables false
set_option maxRecDepth 1000000
set_option linter.unusedSimpArgs false
open Go.RowKit

theorem toList_inj' {a b : ByteArray} (h : a.toList = b.toList) : a = b := by
  rw [Go.ByteArray.toList_eq, Go.ByteArray.toList_eq] at h
  exact ByteArray.ext (Array.toList_inj.1 h)
end Go.Proofs.YtkpfeodffhfejaaGreatDoor
