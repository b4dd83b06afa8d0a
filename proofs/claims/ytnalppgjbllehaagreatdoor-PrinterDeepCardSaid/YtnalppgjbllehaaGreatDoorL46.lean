/- What Show says of whole numbers (by v and d) and texts (by v and s) where there is no table. -/
import Derived.Test.YtnalppgjbllehaaGreatDoorL45
namespace Go.Proofs.YtnalppgjbllehaaGreatDoor
set_option linter.unusedVariables false
set_option linter.unusedSimpArgs false
open Go.RowKit

def showL (x : V) (f : SpecD) : Option ByteArray :=
  match x with
  | .leaf (.int _ v) => if (f.verb = 118 ∨ f.verb = 100) ∧ (-9223372036854775808 ≤ v ∧ v ≤ 9223372036854775807) ∧ (writeB (sgnD v) (numSpec f)).size ≤ 1000000000 then some (writeB (sgnD v) (numSpec f)) else none
  | .leaf (.text _ s) => if ((f.verb = 118 ∧ f.sharp = false) ∨ f.verb = 115) ∧ s.size ≤ 1000000 ∧ (padB (cutB s f.prec) f).size ≤ 1000000000 then some (padB (cutB s f.prec) f) else none
  | _ => none
theorem numSpec_rng {f : SpecD} (h : f.Rng) : (numSpec f).Rng := by
  unfold numSpec
  split
  · exact ⟨h.w1, h.w2, h.p1, h.p2⟩
  · exact h
theorem numSpec_verb (f : SpecD) : (numSpec f).verb = f.verb := by
  unfold numSpec
  split <;> rfl
theorem showL_H (WB : World) (sb : Nat) (depth : Int) (av : Value) : ShowH WB sb depth (.slice none 0 0) av showL := by
  refine ⟨fun {out bv next re W v x f s} hst hv hf hs => ?_, fun {x f s} hs => ?_⟩
  · cases x with
    | nil => cases hs
    | great => cases hs
    | leaf l =>
      have hvl : v = l.val := by cases hv; rfl
      subst hvl
      have hask : ∀ W', StW WB sb out bv depth (.slice none 0 0) av next re W' → Calls Tryz.prog 27 #[.pointer (some ⟨sb, 0, none⟩), l.val, .agg #[.bool f.plus, .bool f.minus, .bool f.sharp, .bool f.space, .bool f.zero, .int .i64 f.wid, .int .i64 f.prec, .int .i32 f.verb]] W' (Ret W' (.tuple #[.string ⟨#[]⟩, .bool false])) :=
        fun W' hW => ask_none f hW (.leaf l)
      cases l with
      | int b v =>
        unfold showL at hs
        by_cases hc : (f.verb = 118 ∨ f.verb = 100) ∧ (-9223372036854775808 ≤ v ∧ v ≤ 9223372036854775807) ∧ (writeB (sgnD v) (numSpec f)).size ≤ 1000000000
        · have hs2 : (if (f.verb = 118 ∨ f.verb = 100) ∧ (-9223372036854775808 ≤ v ∧ v ≤ 9223372036854775807) ∧ (writeB (sgnD v) (numSpec f)).size ≤ 1000000000 then some (writeB (sgnD v) (numSpec f)) else none) = some s := hs
          rw [if_pos hc] at hs2
          obtain rfl := Option.some.inj hs2
          exact show_any f _ _ _ (by decide) (by rcases hc.1 with h | h <;> rw [h] <;> decide) hst hask fun W' => kind_int f _ _ _ b v 0 W' (numSpec_rng hf) (by unfold DigV; rw [numSpec_verb]; rcases hc.1 with h | h; exact .inl h; exact .inr (.inl h)) hc.2.1.1 hc.2.1.2
        · have hs2 : (if (f.verb = 118 ∨ f.verb = 100) ∧ (-9223372036854775808 ≤ v ∧ v ≤ 9223372036854775807) ∧ (writeB (sgnD v) (numSpec f)).size ≤ 1000000000 then some (writeB (sgnD v) (numSpec f)) else none) = some s := hs
          rw [if_neg hc] at hs2
          cases hs2
      | text b t =>
        unfold showL at hs
        by_cases hc : ((f.verb = 118 ∧ f.sharp = false) ∨ f.verb = 115) ∧ t.size ≤ 1000000 ∧ (padB (cutB t f.prec) f).size ≤ 1000000000
        · have hs2 : (if ((f.verb = 118 ∧ f.sharp = false) ∨ f.verb = 115) ∧ t.size ≤ 1000000 ∧ (padB (cutB t f.prec) f).size ≤ 1000000000 then some (padB (cutB t f.prec) f) else none) = some s := hs
          rw [if_pos hc] at hs2
          obtain rfl := Option.some.inj hs2
          exact show_any f _ _ _ (by decide) (by rcases hc.1 with h | h; rw [h.1]; decide; rw [h]; decide) hst hask fun W' => kind_text f _ _ _ b t 0 W' (by have := hc.2.1; omega) hf hc.1
        · have hs2 : (if ((f.verb = 118 ∧ f.sharp = false) ∨ f.verb = 115) ∧ t.size ≤ 1000000 ∧ (padB (cutB t f.prec) f).size ≤ 1000000000 then some (padB (cutB t f.prec) f) else none) = some s := hs
          rw [if_neg hc] at hs2
          cases hs2
      | bool b v => cases hs
      | uint b v => cases hs
      | float b v n => cases hs
      | cplx b v u n => cases hs
      | bytes b t => cases hs
  · unfold showL at hs
    split at hs
    · split at hs
      · rename_i h
        obtain rfl := Option.some.inj hs
        exact h.2.2
      · cases hs
    · split at hs
      · rename_i h
        obtain rfl := Option.some.inj hs
        exact h.2.2
      · cases hs
    · cases hs
end Go.Proofs.YtnalppgjbllehaaGreatDoor
