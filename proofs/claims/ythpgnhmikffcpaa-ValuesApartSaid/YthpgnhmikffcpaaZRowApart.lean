/- The row of ValuesApart: what is handed in stays, and is not kept: the law returns true and its arguments read as they did, for every input. No condition. -/
import Derived.Test.YthpgnhmikffcpaaZOW
import Derived.Test.YthpgnhmikffcpaaZQZ
namespace Go.Proofs.Ythpgnhmikffcpaa.valuesApart
open Go.ChangeShapes Go.WideShapes Go.ChangeAt Go.RowKit

theorem own : ownKnob Try.prog.godebug = none := by kernel_rfl

set_option maxRecDepth 100000 in
theorem lifted (os : Os) (started : os.Started) (H : Type) (enc : TypeId × Value → H) :
    ReturnsInHanded {} Try.checked os 6 .any (Rows.valuesApartSpec.pre6 enc Try.prog Try.f6 Rows.valuesApartRow.domain false) (Rows.valuesApartSpec.post enc Try.prog Try.f6 false true false false) := by
  refine returnsInHanded_of_change_sized (C := Try.checked) own started (by kernel_rfl) Try.func6
    (ChangeSpec.witness6 (enc := enc) (C := Try.checked) false ⟨#[], #[.agg #[.int .i64 0, .string ⟨#[]⟩, .int .u64 0, .int .u64 0, .string ⟨#[]⟩, .slice none 0 0, .slice none 0 0, .int .i64 0]], []⟩ 16 (by kernel_rfl) (by kernel_rfl) (by kernel_rfl) (by kernel_rfl)) ?_
  intro W base args ds gs before hval0 hW hcnd hwt _
  have hval : ∀ (j : Nat) t v, Try.f6.params[j]? = some t → args[j]? = some v → Value.okWide Try.prog W .any base t v := hval0
  refine true_contract Try.laidOut (by kernel_rfl) rfl Try.underlying4 rfl (fun ds h => ?_) hW (fun hA hlt => ?_)
  · match ds, h with
    | [_], _ => rfl
  rw [Try.params6] at hA hval hwt
  obtain ⟨v0, vs0, d0, ds0, p0, q0, hargs, rfl, rfl, h0, r0⟩ := trodAll_cons hA
  obtain ⟨rfl, rfl, rfl⟩ := trodAll_nil r0
  obtain rfl : args = #[v0] := by cases args; simp_all
  obtain ⟨x0, hx0, hw0⟩ := desc_argW (hval 0 26 v0 rfl rfl) h0 (small_of hwt (j := 0) rfl rfl)
  exact apart_any hx0 hw0

theorem over : Rows.valuesApartRow.holds Try.pinned (OpenSpec.ofChange Rows.valuesApartSpec) :=
  OpenClaim.holds_of_wide 6 Try.f6 rfl rfl rfl rfl rfl rfl rfl ⟨rfl, rfl, rfl, rfl, rfl⟩ rfl rfl rfl rfl rfl (by kernel_rfl) Try.func6 (by kernel_rfl)
    (of_decide_eq_true (by kernel_rfl)) (by unfold Func.isWrapper; rw [if_neg (of_decide_eq_false (by kernel_rfl))]; exact ⟨rfl, rfl⟩)
    (fun os started H enc _ => lifted os started H enc)

theorem proved : Rows.ValuesApartSaid :=
  over
#print axioms proved
end Go.Proofs.Ythpgnhmikffcpaa.valuesApart
