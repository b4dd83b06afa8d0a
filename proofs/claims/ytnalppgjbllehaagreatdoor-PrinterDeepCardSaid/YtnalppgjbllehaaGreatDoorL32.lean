/- Build at any descriptor; its budget as a number of descriptors. Condition: the argument is a descriptor. -/
import Derived.Test.YtnalppgjbllehaaGreatDoorL31
namespace Go.Proofs.YtnalppgjbllehaaGreatDoor
set_option linter.unusedVariables false
set_option maxRecDepth 1000000
open Go.RowKit

mutual
/-- How many descriptors are looked at. -/
def sizeD : D → Nat
  | .mk k _ _ _ _ _ p _ => if greatK k then sizeL p + 1 else 1
def sizeL : List D → Nat
  | [] => 0
  | x :: l => sizeD x + sizeL l
end
mutual
/-- The longest text. -/
def textD : D → Int
  | .mk k _ _ _ t _ p _ => max (if k = 16 ∨ k = 17 then (t.size : Int) else 0) (if greatK k then textL p else 0)
def textL : List D → Int
  | [] => 0
  | x :: l => max (textD x) (textL l)
end
theorem sizeD_eq (d : D) : sizeD d = sizeL (partsOf d) + 1 := by
  cases d with
  | mk k t b i x n p h =>
    by_cases hg : greatK k = true
    · have e : partsOf (.mk k t b i x n p h) = p := if_pos hg
      rw [e, sizeD, if_pos hg]
    · have e : partsOf (.mk k t b i x n p h) = [] := if_neg hg
      rw [e, sizeD, if_neg hg]; rfl
theorem textD_eq (d : D) : textD d = max (if d.kind = 16 ∨ d.kind = 17 then (d.text.size : Int) else 0) (textL (partsOf d)) := by
  cases d with
  | mk k t b i x n p h =>
    by_cases hg : greatK k = true
    · have e : partsOf (.mk k t b i x n p h) = p := if_pos hg
      rw [e, textD, if_pos hg]; rfl
    · have e : partsOf (.mk k t b i x n p h) = [] := if_neg hg
      rw [e, textD, if_neg hg]; rfl
theorem textL_nonneg : ∀ l : List D, 0 ≤ textL l
  | [] => Int.le_refl 0
  | x :: l => by have := textL_nonneg l; simp only [textL]; omega
theorem textD_nonneg (d : D) : 0 ≤ textD d := by rw [textD_eq]; have := textL_nonneg (partsOf d); omega
theorem countL_is : ∀ (l : List D), (∀ x ∈ l, ∀ left : Int, 0 ≤ left → (sizeD x ≤ left → countD x left = (left - sizeD x, textD x)) ∧ (left < sizeD x → (countD x left).1 < 0)) →
    ∀ left text : Int, 0 ≤ text → ((sizeL l : Int) ≤ left → countL l left text = (left - sizeL l, max text (textL l))) ∧ (left < sizeL l ∨ left < 0 → (countL l left text).1 < 0)
  | [], _, left, text => fun ht => by
    refine ⟨fun h => ?_, fun h => ?_⟩
    · simp only [countL, sizeL, textL]; rw [Int.max_eq_left ht]; simp
    · simp only [countL, sizeL] at h ⊢; omega
  | x :: l, hx, left, text => fun ht => by
    have h0 := hx x (by simp)
    have ih := countL_is l (fun y hy => hx y (by simp [hy]))
    have hs1 : 1 ≤ sizeD x := by rw [sizeD_eq]; omega
    simp only [countL, sizeL, textL]
    by_cases hn : left < 0
    · rw [if_pos hn]
      exact ⟨fun h => by omega, fun _ => hn⟩
    · rw [if_neg hn]
      have h1 := h0 left (by omega)
      refine ⟨fun h => ?_, fun h => ?_⟩
      · rw [h1.1 (by omega)]
        have := (ih (left - sizeD x) (max text (textD x)) (by omega)).1 (by omega)
        rw [this]
        simp only [Prod.mk.injEq]
        exact ⟨by omega, by omega⟩
      · by_cases hb : left < sizeD x
        · have := h1.2 hb
          exact (ih _ _ (by have := textD_nonneg x; omega)).2 (.inr this)
        · rw [h1.1 (by omega)]
          exact (ih _ _ (by have := textD_nonneg x; omega)).2 (.inl (by show left - (sizeD x : Int) < _; omega))
theorem countD_is : ∀ (d : D) (left : Int), 0 ≤ left → ((sizeD d : Int) ≤ left → countD d left = (left - sizeD d, textD d)) ∧ (left < sizeD d → (countD d left).1 < 0) := by
  refine D.induct_d fun d ih left hl => ?_
  rw [countD_eq, sizeD_eq, textD_eq]
  have h := countL_is (partsOf d) (fun x hx => ih x (partsOf_mem hx)) (left - 1) (if d.kind = 16 ∨ d.kind = 17 then (d.text.size : Int) else 0) (by split <;> omega)
  refine ⟨fun hs => ?_, fun hs => ?_⟩
  · rw [h.1 (by omega)]
    simp only [Prod.mk.injEq, and_true]
    omega
  · exact h.2 (by omega)
theorem depthL_le : ∀ (l : List D), (∀ x ∈ l, depthD x ≤ sizeD x) → depthL l ≤ sizeL l
  | [], _ => Nat.le_refl _
  | x :: l, h => by
    have h1 := h x (by simp)
    have h2 := depthL_le l (fun y hy => h y (by simp [hy]))
    simp only [depthL, sizeL]; omega
theorem depthD_le : ∀ d : D, depthD d ≤ sizeD d := by
  refine D.induct_d fun d ih => ?_
  rw [depthD_eq, sizeD_eq]
  have := depthL_le (partsOf d) (fun x hx => ih x (partsOf_mem hx))
  omega
theorem sizeL_len : ∀ l : List D, l.length ≤ sizeL l
  | [] => Nat.le_refl _
  | x :: l => by have := sizeL_len l; have : 1 ≤ sizeD x := by rw [sizeD_eq]; omega
                 simp only [sizeL, List.length_cons]; omega
theorem sizeL_mem : ∀ {l : List D} {x : D}, x ∈ l → sizeD x ≤ sizeL l
  | y :: l, x, h => by
    simp only [sizeL]
    rcases List.mem_cons.1 h with rfl | h
    · omega
    · have := sizeL_mem h; omega
theorem allL_iff (g : D → Bool) : ∀ l : List D, allL g l = true ↔ ∀ x ∈ l, allD g x = true
  | [] => by simp [allL]
  | x :: l => by simp [allL, allL_iff g l]
theorem good_of : ∀ d : D, sizeD d ≤ 64 → allD kindB d = true → allD formB d = true → allD goodB d = true := by
  refine D.induct_d fun d ih hs hk hf => ?_
  rw [allD_eq, Bool.and_eq_true] at hk hf ⊢
  rw [sizeD_eq] at hs
  have hl := sizeL_len (partsOf d)
  refine ⟨?_, ?_⟩
  · simp only [goodB, Bool.and_eq_true, Bool.or_eq_true, Bool.not_eq_true', decide_eq_true_eq]
    refine ⟨⟨by simpa [kindB] using hk.1, hf.1⟩, ?_⟩
    by_cases hg : greatK d.kind = true
    · right
      have : partsOf d = d.parts := by simp [partsOf, hg]
      rw [this] at hl hs
      omega
    · left; simpa using hg
  · rw [allL_iff]
    intro x hx
    exact ih x (partsOf_mem hx) (by have := sizeL_mem hx; omega) ((allL_iff _ _).1 hk.2 x hx) ((allL_iff _ _).1 hf.2 x hx)

theorem errD_is (d : D) : errD d = (if 64 < sizeD d ∨ 1024 < textD d then 2 else if 8 < depthD d then 6 else if allD kindB d = false then 3 else if allD formB d = false then 4 else if mkV d = none then 5 else 0) := by
  unfold errD
  have h := countD_is d 64 (by omega)
  by_cases hs : (sizeD d : Int) ≤ 64
  · rw [h.1 hs]
    by_cases ht : textD d ≤ 1024
    · rw [if_neg (by simp only; omega), if_neg (show ¬ (64 < sizeD d ∨ 1024 < textD d) by omega)]
    · rw [if_pos (by simp only; omega), if_pos (show 64 < sizeD d ∨ 1024 < textD d by omega)]
  · have := h.2 (by omega)
    rw [if_pos (by omega), if_pos (show 64 < sizeD d ∨ 1024 < textD d by omega)]

/-- Build. -/
theorem build_any {d : D} {w : World} {v : Value} (h : IsD w v d) : Calls Tryz.prog 19 #[v] w (BuildPost w d) := by
  have hc := countD_is d 64 (by omega)
  have he := errD_is d
  by_cases hs : (sizeD d : Int) ≤ 64
  · have hcd := hc.1 hs
    by_cases ht : textD d ≤ 1024
    · have h1 : 0 ≤ (countD d 64).1 := by rw [hcd]; simp only; omega
      have h2 : (countD d 64).2 ≤ 1024 := by rw [hcd]; exact ht
      rw [if_neg (show ¬ (64 < sizeD d ∨ 1024 < textD d) by omega)] at he
      have hd := depthD_le d
      by_cases hq : 8 < depthD d
      · rw [if_pos hq] at he
        exact build_deep d w v h he h1 h2 hq (by omega)
      · rw [if_neg hq] at he
        by_cases hk : allD kindB d = false
        · rw [if_pos hk] at he
          exact build_kind d w v h he h1 h2 (by omega) hk
        · rw [if_neg hk] at he
          have hk' : allD kindB d = true := by simpa using hk
          by_cases hf : allD formB d = false
          · rw [if_pos hf] at he
            exact build_form d w v h he h1 h2 (by omega) hk' hf
          · rw [if_neg hf] at he
            have hf' : allD formB d = true := by simpa using hf
            have hg := good_of d (by omega) hk' hf'
            cases hm : mkV d with
            | none =>
              rw [if_pos hm] at he
              exact build_twice d w v h he h1 h2 (by omega) hk' hf' hg hm
            | some x =>
              rw [if_neg (by rw [hm]; simp)] at he
              exact build_fine d w v h he h1 h2 (by omega) hk' hf' hg hm
    · rw [if_pos (show 64 < sizeD d ∨ 1024 < textD d by omega)] at he
      exact build_text d w v h he (by rw [hcd]; simp only; omega) (by rw [hcd]; simp only; omega)
  · rw [if_pos (show 64 < sizeD d ∨ 1024 < textD d by omega)] at he
    exact build_small d w v h he (hc.2 (by omega))
end Go.Proofs.YtnalppgjbllehaaGreatDoor

/- How a value is told: Type, Hook, Cmp. Condition: its kind is one of the 23. -/
namespace Go.Proofs.YtnalppgjbllehaaGreatDoor
set_option linter.unusedVariables false
set_option maxRecDepth 1000000
set_option linter.unusedSimpArgs false
open Go.RowKit

theorem Hook_any {w : World} {v : Value} {x : V} (h : IsV w v x) : Calls Tryz.prog 55 #[v] w fun e w' => e = .returned (.int .i64 x.base.hook) ∧ Below w.heap.size w w' := by
  have HV := Lib.hid h
  have hs := h.shape
  clear h
  rcases hs with rfl | ⟨t, y, rfl⟩
  all_goals
    go_enter Tryz.func55, Tryz.ntmps55
    go_wp2_with fail
    refine (base_any HV.out).mono ?_
    rintro e w1 ⟨rfl, hB⟩
    have HB := Lib.hid hB
    clear hB
    go_wp2_with fail
    go_ret
    exact ⟨rfl, HB.out.push _⟩

def kindNames : List ByteArray := [⟨#[60, 110, 105, 108, 62]⟩, ⟨#[98, 111, 111, 108]⟩, ⟨#[105, 110, 116, 56]⟩, ⟨#[105, 110, 116, 49, 54]⟩, ⟨#[105, 110, 116, 51, 50]⟩, ⟨#[105, 110, 116, 54, 52]⟩, ⟨#[105, 110, 116]⟩, ⟨#[117, 105, 110, 116, 56]⟩, ⟨#[117, 105, 110, 116, 49, 54]⟩, ⟨#[117, 105, 110, 116, 51, 50]⟩, ⟨#[117, 105, 110, 116, 54, 52]⟩, ⟨#[117, 105, 110, 116]⟩, ⟨#[102, 108, 111, 97, 116, 51, 50]⟩, ⟨#[102, 108, 111, 97, 116, 54, 52]⟩, ⟨#[99, 111, 109, 112, 108, 101, 120, 54, 52]⟩, ⟨#[99, 111, 109, 112, 108, 101, 120, 49, 50, 56]⟩, ⟨#[115, 116, 114, 105, 110, 103]⟩, ⟨#[91, 93, 117, 105, 110, 116, 56]⟩, ⟨#[115, 116, 114, 117, 99, 116]⟩, ⟨#[97, 114, 114, 97, 121]⟩, ⟨#[115, 108, 105, 99, 101]⟩, ⟨#[109, 97, 112]⟩, ⟨#[112, 116, 114]⟩]
/-- The name of its type. -/
def typeV (x : V) : ByteArray := if x.base.name = ⟨#[]⟩ then kindNames.getD x.base.kind.toNat ⟨#[]⟩ else x.base.name
theorem index_kinds (k : Int) (h0 : 0 ≤ k) (h1 : k ≤ 22) (w : World) : (Instr.index 109 (.agg #[.string ⟨#[60, 110, 105, 108, 62]⟩, .string ⟨#[98, 111, 111, 108]⟩, .string ⟨#[105, 110, 116, 56]⟩, .string ⟨#[105, 110, 116, 49, 54]⟩, .string ⟨#[105, 110, 116, 51, 50]⟩, .string ⟨#[105, 110, 116, 54, 52]⟩, .string ⟨#[105, 110, 116]⟩, .string ⟨#[117, 105, 110, 116, 56]⟩, .string ⟨#[117, 105, 110, 116, 49, 54]⟩, .string ⟨#[117, 105, 110, 116, 51, 50]⟩, .string ⟨#[117, 105, 110, 116, 54, 52]⟩, .string ⟨#[117, 105, 110, 116]⟩, .string ⟨#[102, 108, 111, 97, 116, 51, 50]⟩, .string ⟨#[102, 108, 111, 97, 116, 54, 52]⟩, .string ⟨#[99, 111, 109, 112, 108, 101, 120, 54, 52]⟩, .string ⟨#[99, 111, 109, 112, 108, 101, 120, 49, 50, 56]⟩, .string ⟨#[115, 116, 114, 105, 110, 103]⟩, .string ⟨#[91, 93, 117, 105, 110, 116, 56]⟩, .string ⟨#[115, 116, 114, 117, 99, 116]⟩, .string ⟨#[97, 114, 114, 97, 121]⟩, .string ⟨#[115, 108, 105, 99, 101]⟩, .string ⟨#[109, 97, 112]⟩, .string ⟨#[112, 116, 114]⟩]) (.int .i64 k)).run Tryz.prog w = .ok (.string (kindNames.getD k.toNat ⟨#[]⟩)) w := by
  rcases (show k = 0 ∨ k = 1 ∨ k = 2 ∨ k = 3 ∨ k = 4 ∨ k = 5 ∨ k = 6 ∨ k = 7 ∨ k = 8 ∨ k = 9 ∨ k = 10 ∨ k = 11 ∨ k = 12 ∨ k = 13 ∨ k = 14 ∨ k = 15 ∨ k = 16 ∨ k = 17 ∨ k = 18 ∨ k = 19 ∨ k = 20 ∨ k = 21 ∨ k = 22 by omega) with h | h | h | h | h | h | h | h | h | h | h | h | h | h | h | h | h | h | h | h | h | h | h
  all_goals (subst k; kernel_rfl)
theorem empty_or (nm : ByteArray) : (nm = ⟨#[]⟩ ∧ (!nm.toList.isEmpty) = false) ∨ (nm ≠ ⟨#[]⟩ ∧ (!nm.toList.isEmpty) = true) := by
  rw [Go.ByteArray.toList_eq]
  obtain ⟨l⟩ := nm
  obtain ⟨l⟩ := l
  cases l with
  | nil => exact .inl ⟨rfl, rfl⟩
  | cons a l => exact .inr ⟨by simp, rfl⟩

set_option maxRecDepth 100000 in
set_option maxHeartbeats 1000000 in
theorem Type_any {w : World} {v : Value} {x : V} (h : IsV w v x) (hk : 0 ≤ x.base.kind ∧ x.base.kind ≤ 22) : Calls Tryz.prog 24 #[v] w fun e w' => e = .returned (.string (typeV x)) ∧ Below w.heap.size w w' := by
  have hbase := base_any h
  have hs := h.shape
  clear h
  unfold BasePost at hbase
  have hT : typeV x = if x.base.name = ⟨#[]⟩ then kindNames.getD x.base.kind.toNat ⟨#[]⟩ else x.base.name := rfl
  generalize typeV x = T at hT ⊢
  generalize x.base.name = nm at hT hbase
  generalize x.base.kind = k at hT hbase hk
  generalize x.base.hook = hook at hbase
  generalize (!x.isNil) = bn at hbase
  have HBA := Lib.hid hbase
  clear hbase
  rcases empty_or nm with ⟨e1, e2⟩ | ⟨e1, e2⟩
  · rw [if_pos e1] at hT
    have hix := index_kinds k hk.1 hk.2
    rw [← hT] at hix
    clear hT hk e1
    rcases hs with rfl | ⟨t, y, rfl⟩
    all_goals
      go_enter Tryz.func24, Tryz.ntmps24
      go_wp2_with fail
      refine HBA.out.mono ?_
      rintro e w1 ⟨rfl, hB⟩
      have HB := Lib.hid hB
      clear hB
      go_wp2_with fail
      go_ret
      exact ⟨rfl, HB.out.push _⟩
  · rw [if_neg e1] at hT
    subst hT
    clear hk e1
    rcases hs with rfl | ⟨t, y, rfl⟩
    all_goals
      go_enter Tryz.func24, Tryz.ntmps24
      go_wp2_with fail
      refine HBA.out.mono ?_
      rintro e w1 ⟨rfl, hB⟩
      have HB := Lib.hid hB
      clear hB
      go_wp2_with fail
      go_ret
      exact ⟨rfl, HB.out.push _⟩
end Go.Proofs.YtnalppgjbllehaaGreatDoor
