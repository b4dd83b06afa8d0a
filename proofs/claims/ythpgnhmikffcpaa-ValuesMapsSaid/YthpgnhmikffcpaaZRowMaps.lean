/- The row of ValuesMaps: a map's keys rise, however they were handed in: the law returns true and its arguments read as they did, for every input. No condition. -/
import Derived.Test.YthpgnhmikffcpaaZRD
import Derived.Test.YthpgnhmikffcpaaZP9w
namespace Go.Proofs.Ythpgnhmikffcpaa.valuesMaps
open Go.ChangeShapes Go.WideShapes Go.ChangeAt Go.RowKit

theorem own : ownKnob Try.prog.godebug = none := by kernel_rfl

set_option maxRecDepth 100000 in
theorem lifted (os : Os) (started : os.Started) (H : Type) (enc : TypeId × Value → H) :
    ReturnsInHanded {} Try.checked os 9 .any (Rows.valuesMapsSpec.pre6 enc Try.prog Try.f9 Rows.valuesMapsRow.domain false) (Rows.valuesMapsSpec.post enc Try.prog Try.f9 false true false false) := by
  refine returnsInHanded_of_change_sized (C := Try.checked) own started (by kernel_rfl) Try.func9
    (ChangeSpec.witness6 (enc := enc) (C := Try.checked) false ⟨#[], #[.slice none 0 0], []⟩ 16 (by kernel_rfl) (by kernel_rfl) (by kernel_rfl) (by kernel_rfl)) ?_
  intro W base args ds gs before hval0 hW hcnd hwt _
  have hval : ∀ (j : Nat) t v, Try.f9.params[j]? = some t → args[j]? = some v → Value.okWide Try.prog W .any base t v := hval0
  refine true_contract Try.laidOut (by kernel_rfl) rfl Try.underlying4 rfl (fun ds h => ?_) hW (fun hA hlt => ?_)
  · match ds, h with
    | [_], _ => rfl
  rw [Try.params9] at hA hval hwt
  obtain ⟨v0, vs0, d0, ds0, p0, q0, hargs, rfl, rfl, h0, r0⟩ := trodAll_cons hA
  obtain ⟨rfl, rfl, rfl⟩ := trodAll_nil r0
  obtain rfl : args = #[v0] := by cases args; simp_all
  obtain ⟨a', n', c', rfl⟩ := okWide_slice Try.underlying24 (hval 0 24 v0 rfl rfl)
  obtain ⟨fuel, h0⟩ := h0
  obtain ⟨a, c, l, e, hp⟩ := parts_open (y := (d0, p0)) (fun n _ cs x h hs => desc_open n cs x h hs) h0 (small_of hwt (j := 0) rfl rfl)
  rw [e]
  exact maps_any hp

theorem over : Rows.valuesMapsRow.holds Try.pinned (OpenSpec.ofChange Rows.valuesMapsSpec) :=
  OpenClaim.holds_of_wide 9 Try.f9 rfl rfl rfl rfl rfl rfl rfl ⟨rfl, rfl, rfl, rfl, rfl⟩ rfl rfl rfl rfl rfl (by kernel_rfl) Try.func9 (by kernel_rfl)
    (of_decide_eq_true (by kernel_rfl)) (by unfold Func.isWrapper; rw [if_neg (of_decide_eq_false (by kernel_rfl))]; exact ⟨rfl, rfl⟩)
    (fun os started H enc _ => lifted os started H enc)

theorem proved : Rows.ValuesMapsSaid :=
  over
#print axioms proved
end Go.Proofs.Ythpgnhmikffcpaa.valuesMaps
