/- The row of FreeApart: two stores know nothing of each other: the law returns true and its arguments read as they did, for every input. No condition. -/
import Derived.Test.YtdhbnldigbjkkaaOpen
import Derived.Test.YtdhbnldigbjkkaaApart
namespace Go.Proofs.Ytdhbnldigbjkkaa.freeApart
open Go.ChangeShapes Go.WideShapes Go.ChangeAt Go.RowKit

theorem own : ownKnob Try.prog.godebug = none := by kernel_rfl

set_option maxRecDepth 100000 in
theorem lifted (os : Os) (started : os.Started) (H : Type) (enc : TypeId × Value → H) :
    ReturnsInHanded {} Try.checked os 8 .any (Rows.freeApartSpec.pre6 enc Try.prog Try.f8 Rows.freeApartRow.domain false) (Rows.freeApartSpec.post enc Try.prog Try.f8 false true false false) := by
  refine returnsInHanded_of_change (C := Try.checked) own started (by kernel_rfl) Try.func8
    (ChangeSpec.witness6 (enc := enc) (C := Try.checked) false ⟨#[], #[.slice none 0 0], []⟩ 8 (by kernel_rfl) (by kernel_rfl) (by kernel_rfl) (by kernel_rfl)) ?_
  intro W base args ds gs before hval0 hW hcnd _
  have hval : ∀ (j : Nat) t v, Try.f8.params[j]? = some t → args[j]? = some v → Value.okWide Try.prog W .any base t v := hval0
  refine true_contract Try.laidOut (by kernel_rfl) rfl Try.underlying4 rfl (fun ds h => ?_) hW (fun hA hlt => ?_)
  · match ds, h with
    | [_], _ => rfl
  rw [Try.params8] at hA hval
  obtain ⟨v0, vs0, d0, ds0, p0, q0, hargs, rfl, rfl, h0, r0⟩ := trodAll_cons hA
  obtain ⟨rfl, rfl, rfl⟩ := trodAll_nil r0
  obtain rfl : args = #[v0] := by cases args; simp_all
  obtain ⟨a, len, cap, rfl, hl, hm, A, off, os, ha, hc⟩ := open_ops (hval 0 22 v0 rfl rfl) h0
  unfold maxLen at hm
  by_cases h3 : 300 < len
  · obtain rfl := ha (by omega)
    exact apart_core (some ⟨A, off, none⟩) A off len cap 300 os W (fun _ => rfl) (fun i hi => hc i (by omega)) (by omega) (fun w => few_long _ len cap w h3 hl (by omega))
  · exact apart_core a A off len cap len os W ha hc (by omega) (fun w => few_short a len cap w (by omega))

theorem over : Rows.freeApartRow.holds Try.pinned (OpenSpec.ofChange Rows.freeApartSpec) :=
  OpenClaim.holds_of_wide 8 Try.f8 rfl rfl rfl rfl rfl rfl rfl ⟨rfl, rfl, rfl, rfl, rfl⟩ rfl rfl rfl rfl rfl (by kernel_rfl) Try.func8 (by kernel_rfl)
    (of_decide_eq_true (by kernel_rfl)) (by unfold Func.isWrapper; rw [if_neg (of_decide_eq_false (by kernel_rfl))]; exact ⟨rfl, rfl⟩)
    (fun os started H enc _ => lifted os started H enc)

theorem proved : Rows.FreeApartSaid :=
  over
#print axioms proved
end Go.Proofs.Ytdhbnldigbjkkaa.freeApart
