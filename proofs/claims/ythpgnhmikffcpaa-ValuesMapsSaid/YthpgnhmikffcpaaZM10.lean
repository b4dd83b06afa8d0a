/- Build at any descriptor; its budget as a number of descriptors. Condition: the argument is a descriptor. -/
import Derived.Test.YthpgnhmikffcpaaZM9
namespace Go.Proofs.Ythpgnhmikffcpaa
set_option linter.unusedVariables false
open Go.RowKit

mutual
/-- How many descriptors are looked at. -/
def sizeD : D → Nat
  | .mk k _ _ _ _ _ p _ => if greatK k then sizeL p + 1 else 1
def sizeL : List D → Nat
  | [] => 0
  | x :: l => sizeD x + sizeL l
end
mutual
/-- The longest text. -/
def textD : D → Int
  | .mk k _ _ _ t _ p _ => max (if k = 16 ∨ k = 17 then (t.size : Int) else 0) (if greatK k then textL p else 0)
def textL : List D → Int
  | [] => 0
  | x :: l => max (textD x) (textL l)
end
theorem sizeD_eq (d : D) : sizeD d = sizeL (partsOf d) + 1 := by
  cases d with
  | mk k t b i x n p h =>
    by_cases hg : greatK k = true
    · have e : partsOf (.mk k t b i x n p h) = p := if_pos hg
      rw [e, sizeD, if_pos hg]
    · have e : partsOf (.mk k t b i x n p h) = [] := if_neg hg
      rw [e, sizeD, if_neg hg]; rfl
theorem textD_eq (d : D) : textD d = max (if d.kind = 16 ∨ d.kind = 17 then (d.text.size : Int) else 0) (textL (partsOf d)) := by
  cases d with
  | mk k t b i x n p h =>
    by_cases hg : greatK k = true
    · have e : partsOf (.mk k t b i x n p h) = p := if_pos hg
      rw [e, textD, if_pos hg]; rfl
    · have e : partsOf (.mk k t b i x n p h) = [] := if_neg hg
      rw [e, textD, if_neg hg]; rfl
theorem textL_nonneg : ∀ l : List D, 0 ≤ textL l
  | [] => Int.le_refl 0
  | x :: l => by have := textL_nonneg l; simp only [textL]; omega
theorem textD_nonneg (d : D) : 0 ≤ textD d := by rw [textD_eq]; have := textL_nonneg (partsOf d); omega
theorem countL_is : ∀ (l : List D), (∀ x ∈ l, ∀ left : Int, 0 ≤ left → (sizeD x ≤ left → countD x left = (left - sizeD x, textD x)) ∧ (left < sizeD x → (countD x left).1 < 0)) →
    ∀ left text : Int, 0 ≤ text → ((sizeL l : Int) ≤ left → countL l left text = (left - sizeL l, max text (textL l))) ∧ (left < sizeL l ∨ left < 0 → (countL l left text).1 < 0)
  | [], _, left, text => fun ht => by
    refine ⟨fun h => ?_, fun h => ?_⟩
    · simp only [countL, sizeL, textL]; rw [Int.max_eq_left ht]; simp
    · simp only [countL, sizeL] at h ⊢; omega
  | x :: l, hx, left, text => fun ht => by
    have h0 := hx x (by simp)
    have ih := countL_is l (fun y hy => hx y (by simp [hy]))
    have hs1 : 1 ≤ sizeD x := by rw [sizeD_eq]; omega
    simp only [countL, sizeL, textL]
    by_cases hn : left < 0
    · rw [if_pos hn]
      exact ⟨fun h => by omega, fun _ => hn⟩
    · rw [if_neg hn]
      have h1 := h0 left (by omega)
      refine ⟨fun h => ?_, fun h => ?_⟩
      · rw [h1.1 (by omega)]
        have := (ih (left - sizeD x) (max text (textD x)) (by omega)).1 (by omega)
        rw [this]
        simp only [Prod.mk.injEq]
        exact ⟨by omega, by omega⟩
      · by_cases hb : left < sizeD x
        · have := h1.2 hb
          exact (ih _ _ (by have := textD_nonneg x; omega)).2 (.inr this)
        · rw [h1.1 (by omega)]
          exact (ih _ _ (by have := textD_nonneg x; omega)).2 (.inl (by show left - (sizeD x : Int) < _; omega))
theorem countD_is : ∀ (d : D) (left : Int), 0 ≤ left → ((sizeD d : Int) ≤ left → countD d left = (left - sizeD d, textD d)) ∧ (left < sizeD d → (countD d left).1 < 0) := by
  refine D.induct_d fun d ih left hl => ?_
  rw [countD_eq, sizeD_eq, textD_eq]
  have h := countL_is (partsOf d) (fun x hx => ih x (partsOf_mem hx)) (left - 1) (if d.kind = 16 ∨ d.kind = 17 then (d.text.size : Int) else 0) (by split <;> omega)
  refine ⟨fun hs => ?_, fun hs => ?_⟩
  · rw [h.1 (by omega)]
    simp only [Prod.mk.injEq, and_true]
    omega
  · exact h.2 (by omega)
theorem depthL_le : ∀ (l : List D), (∀ x ∈ l, depthD x ≤ sizeD x) → depthL l ≤ sizeL l
  | [], _ => Nat.le_refl _
  | x :: l, h => by
    have h1 := h x (by simp)
    have h2 := depthL_le l (fun y hy => h y (by simp [hy]))
    simp only [depthL, sizeL]; omega
theorem depthD_le : ∀ d : D, depthD d ≤ sizeD d := by
  refine D.induct_d fun d ih => ?_
  rw [depthD_eq, sizeD_eq]
  have := depthL_le (partsOf d) (fun x hx => ih x (partsOf_mem hx))
  omega
theorem sizeL_len : ∀ l : List D, l.length ≤ sizeL l
  | [] => Nat.le_refl _
  | x :: l => by have := sizeL_len l; have : 1 ≤ sizeD x := by rw [sizeD_eq]; omega
                 simp only [sizeL, List.length_cons]; omega
theorem sizeL_mem : ∀ {l : List D} {x : D}, x ∈ l → sizeD x ≤ sizeL l
  | y :: l, x, h => by
    simp only [sizeL]
    rcases List.mem_cons.1 h with rfl | h
    · omega
    · have := sizeL_mem h; omega
theorem allL_iff (g : D → Bool) : ∀ l : List D, allL g l = true ↔ ∀ x ∈ l, allD g x = true
  | [] => by simp [allL]
  | x :: l => by simp [allL, allL_iff g l]
theorem good_of : ∀ d : D, sizeD d ≤ 64 → allD kindB d = true → allD formB d = true → allD goodB d = true := by
  refine D.induct_d fun d ih hs hk hf => ?_
  rw [allD_eq, Bool.and_eq_true] at hk hf ⊢
  rw [sizeD_eq] at hs
  have hl := sizeL_len (partsOf d)
  refine ⟨?_, ?_⟩
  · simp only [goodB, Bool.and_eq_true, Bool.or_eq_true, Bool.not_eq_true', decide_eq_true_eq]
    refine ⟨⟨by simpa [kindB] using hk.1, hf.1⟩, ?_⟩
    by_cases hg : greatK d.kind = true
    · right
      have : partsOf d = d.parts := by simp [partsOf, hg]
      rw [this] at hl hs
      omega
    · left; simpa using hg
  · rw [allL_iff]
    intro x hx
    exact ih x (partsOf_mem hx) (by have := sizeL_mem hx; omega) ((allL_iff _ _).1 hk.2 x hx) ((allL_iff _ _).1 hf.2 x hx)

theorem errD_is (d : D) : errD d = (if 64 < sizeD d ∨ 1024 < textD d then 2 else if 8 < depthD d then 6 else if allD kindB d = false then 3 else if allD formB d = false then 4 else if mkV d = none then 5 else 0) := by
  unfold errD
  have h := countD_is d 64 (by omega)
  by_cases hs : (sizeD d : Int) ≤ 64
  · rw [h.1 hs]
    by_cases ht : textD d ≤ 1024
    · rw [if_neg (by simp only; omega), if_neg (show ¬ (64 < sizeD d ∨ 1024 < textD d) by omega)]
    · rw [if_pos (by simp only; omega), if_pos (show 64 < sizeD d ∨ 1024 < textD d by omega)]
  · have := h.2 (by omega)
    rw [if_pos (by omega), if_pos (show 64 < sizeD d ∨ 1024 < textD d by omega)]

/-- Build. -/
theorem build_any {d : D} {w : World} {v : Value} (h : IsD w v d) : Calls Try.prog 14 #[v] w (BuildPost w d) := by
  have hc := countD_is d 64 (by omega)
  have he := errD_is d
  by_cases hs : (sizeD d : Int) ≤ 64
  · have hcd := hc.1 hs
    by_cases ht : textD d ≤ 1024
    · have h1 : 0 ≤ (countD d 64).1 := by rw [hcd]; simp only; omega
      have h2 : (countD d 64).2 ≤ 1024 := by rw [hcd]; exact ht
      rw [if_neg (show ¬ (64 < sizeD d ∨ 1024 < textD d) by omega)] at he
      have hd := depthD_le d
      by_cases hq : 8 < depthD d
      · rw [if_pos hq] at he
        exact build_deep d w v h he h1 h2 hq (by omega)
      · rw [if_neg hq] at he
        by_cases hk : allD kindB d = false
        · rw [if_pos hk] at he
          exact build_kind d w v h he h1 h2 (by omega) hk
        · rw [if_neg hk] at he
          have hk' : allD kindB d = true := by simpa using hk
          by_cases hf : allD formB d = false
          · rw [if_pos hf] at he
            exact build_form d w v h he h1 h2 (by omega) hk' hf
          · rw [if_neg hf] at he
            have hf' : allD formB d = true := by simpa using hf
            have hg := good_of d (by omega) hk' hf'
            cases hm : mkV d with
            | none =>
              rw [if_pos hm] at he
              exact build_twice d w v h he h1 h2 (by omega) hk' hf' hg hm
            | some x =>
              rw [if_neg (by rw [hm]; simp)] at he
              exact build_fine d w v h he h1 h2 (by omega) hk' hf' hg hm
    · rw [if_pos (show 64 < sizeD d ∨ 1024 < textD d by omega)] at he
      exact build_text d w v h he (by rw [hcd]; simp only; omega) (by rw [hcd]; simp only; omega)
  · rw [if_pos (show 64 < sizeD d ∨ 1024 < textD d by omega)] at he
    exact build_small d w v h he (hc.2 (by omega))
end Go.Proofs.Ythpgnhmikffcpaa
