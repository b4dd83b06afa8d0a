/- Sorting in place, without Go: exchanges, rotations, merges, the order behind them. No condition. -/
namespace Go.Proofs.Ythpgnhmikffcpaa
set_option linter.unusedVariables false

section
variable {α : Type}

/-- Two places exchanged. -/
def swp (f : Nat → α) (i j : Nat) : Nat → α := fun k => if k = i then f j else if k = j then f i else f k
def PermOn (n : Nat) (f g : Nat → α) : Prop := ((List.range n).map f).Perm ((List.range n).map g)
theorem swp_perm (f : Nat → α) {i j n : Nat} (hi : i < n) (hj : j < n) : PermOn n (swp f i j) f := by
  have e : (List.range n).map (swp f i j) = (((List.range n).map f).toArray.swap i j (by simpa using hi) (by simpa using hj)).toList := by
    apply List.ext_getElem
    · simp
    · intro k h1 h2
      simp only [List.getElem_map, List.getElem_range, Array.getElem_toList, Array.getElem_swap, List.getElem_toArray, swp]
  unfold PermOn
  rw [e]
  have := Array.swap_perm (xs := ((List.range n).map f).toArray) (i := i) (j := j) (by simpa using hi) (by simpa using hj)
  simpa using this.toList

/-- Within [a, b) what was there, elsewhere as it was. -/
def Mix (a b : Nat) (f f' : Nat → α) : Prop := (∀ k, k < a ∨ b ≤ k → f' k = f k) ∧ ∀ k, a ≤ k → k < b → ∃ k', a ≤ k' ∧ k' < b ∧ f' k = f k'
theorem Mix.refl (a b : Nat) (f : Nat → α) : Mix a b f f := ⟨fun _ _ => rfl, fun k h1 h2 => ⟨k, h1, h2, rfl⟩⟩
theorem Mix.trans {a b : Nat} {f g h : Nat → α} (h1 : Mix a b f g) (h2 : Mix a b g h) : Mix a b f h := by
  refine ⟨fun k hk => (h2.1 k hk).trans (h1.1 k hk), fun k ha hb => ?_⟩
  obtain ⟨k', ha', hb', e⟩ := h2.2 k ha hb
  obtain ⟨k'', ha'', hb'', e'⟩ := h1.2 k' ha' hb'
  exact ⟨k'', ha'', hb'', e.trans e'⟩
theorem Mix.wide {a b a' b' : Nat} {f g : Nat → α} (h : Mix a b f g) (h1 : a' ≤ a) (h2 : b ≤ b') : Mix a' b' f g := by
  refine ⟨fun k hk => h.1 k (by omega), fun k ha hb => ?_⟩
  by_cases hk : a ≤ k ∧ k < b
  · obtain ⟨k', x, y, e⟩ := h.2 k hk.1 hk.2
    exact ⟨k', by omega, by omega, e⟩
  · exact ⟨k, ha, hb, h.1 k (by omega)⟩
theorem Mix.swp {a b i j : Nat} (f : Nat → α) (hi : a ≤ i) (hi' : i < b) (hj : a ≤ j) (hj' : j < b) : Mix a b f (swp f i j) := by
  refine ⟨fun k hk => ?_, fun k ha hb => ?_⟩
  · unfold Ythpgnhmikffcpaa.swp; rw [if_neg (by omega), if_neg (by omega)]
  · unfold Ythpgnhmikffcpaa.swp
    split
    · exact ⟨j, hj, hj', rfl⟩
    · split
      · exact ⟨i, hi, hi', rfl⟩
      · exact ⟨k, ha, hb, rfl⟩

/-- Two ranges exchanged: n places from a on and from b on. -/
def swr (f : Nat → α) (a b n : Nat) : Nat → α := fun k => if a ≤ k ∧ k < a + n then f (k + (b - a)) else if b ≤ k ∧ k < b + n then f (k - (b - a)) else f k
theorem swr_zero (f : Nat → α) (a b : Nat) : swr f a b 0 = f := by
  funext k; unfold swr; rw [if_neg (by omega), if_neg (by omega)]
theorem swr_succ (f : Nat → α) (a b n : Nat) (h : a + n < b) : swp (swr f a b n) (a + n) (b + n) = swr f a b (n + 1) := by
  funext k
  unfold swp swr
  by_cases h1 : k = a + n
  · subst h1
    rw [if_pos rfl, if_neg (by omega), if_neg (by omega), if_pos (by omega)]; exact congrArg f (by omega)
  · rw [if_neg h1]
    by_cases h2 : k = b + n
    · subst h2
      rw [if_pos rfl, if_neg (by omega), if_neg (by omega), if_neg (by omega), if_pos (by omega)]; exact congrArg f (by omega)
    · rw [if_neg h2]
      by_cases h3 : a ≤ k ∧ k < a + n
      · rw [if_pos h3, if_pos (by omega)]
      · rw [if_neg h3, if_neg (by omega : ¬ (a ≤ k ∧ k < a + (n + 1)))]
        by_cases h4 : b ≤ k ∧ k < b + n
        · rw [if_pos h4, if_pos (by omega)]
        · rw [if_neg h4, if_neg (by omega)]

/-- [a, m) and [m, b) exchanged. -/
def rot (f : Nat → α) (a m b : Nat) : Nat → α := fun k => if a ≤ k ∧ k < a + (b - m) then f (k + (m - a)) else if a + (b - m) ≤ k ∧ k < b then f (k - (b - m)) else f k
theorem rot_even (f : Nat → α) (m i : Nat) (h : i ≤ m) : rot f (m - i) m (m + i) = swr f (m - i) m i := by
  funext k
  unfold rot swr
  by_cases h1 : m - i ≤ k ∧ k < m - i + i
  · rw [if_pos (by omega), if_pos h1]
  · rw [if_neg (by omega), if_neg h1]
    by_cases h2 : m ≤ k ∧ k < m + i
    · rw [if_pos (by omega), if_pos h2]; exact congrArg f (by omega)
    · rw [if_neg (by omega), if_neg h2]
theorem rot_left (f : Nat → α) (m i j : Nat) (h : i ≤ m) (hij : j < i) : rot (swr f (m - i) m j) (m - (i - j)) m (m + j) = rot f (m - i) m (m + j) := by
  funext k
  unfold rot swr
  by_cases h1 : k < m - i
  · rw [if_neg (by omega), if_neg (by omega), if_neg (by omega), if_neg (by omega), if_neg (by omega), if_neg (by omega)]
  · by_cases h2 : k < m - i + j
    · rw [if_neg (by omega), if_neg (by omega), if_pos (by omega), if_pos (by omega)]
    · by_cases h3 : k < m - (i - j) + j
      · rw [if_pos (by omega), if_neg (by omega), if_pos (by omega), if_neg (by omega), if_pos (by omega)]; exact congrArg f (by omega)
      · by_cases h4 : k < m + j
        · rw [if_neg (by omega), if_pos (by omega), if_neg (by omega), if_neg (by omega), if_neg (by omega), if_pos (by omega)]
        · rw [if_neg (by omega), if_neg (by omega), if_neg (by omega), if_neg (by omega), if_neg (by omega), if_neg (by omega)]
theorem rot_right (f : Nat → α) (m i j : Nat) (h : i ≤ m) (hij : i < j) : rot (swr f (m - i) (m + j - i) i) (m - i) m (m + (j - i)) = rot f (m - i) m (m + j) := by
  funext k
  unfold rot swr
  by_cases h1 : k < m - i
  · rw [if_neg (by omega), if_neg (by omega), if_neg (by omega), if_neg (by omega), if_neg (by omega), if_neg (by omega)]
  · by_cases h2 : k < m - i + (j - i)
    · rw [if_pos (by omega), if_neg (by omega), if_neg (by omega), if_pos (by omega)]
    · by_cases h3 : k < m + (j - i)
      · rw [if_neg (by omega), if_pos (by omega), if_pos (by omega), if_pos (by omega)]; exact congrArg f (by omega)
      · by_cases h4 : k < m + j
        · rw [if_neg (by omega), if_neg (by omega), if_neg (by omega), if_pos (by omega), if_neg (by omega), if_pos (by omega)]; exact congrArg f (by omega)
        · rw [if_neg (by omega), if_neg (by omega), if_neg (by omega), if_neg (by omega), if_neg (by omega), if_neg (by omega)]

theorem Mix.rot {a m b : Nat} (f : Nat → α) (h1 : a ≤ m) (h2 : m ≤ b) : Mix a b f (rot f a m b) := by
  refine ⟨fun k hk => ?_, fun k ha hb => ?_⟩
  · unfold Ythpgnhmikffcpaa.rot; rw [if_neg (by omega), if_neg (by omega)]
  · unfold Ythpgnhmikffcpaa.rot
    split
    · exact ⟨_, by omega, by omega, rfl⟩
    · split
      · exact ⟨_, by omega, by omega, rfl⟩
      · exact ⟨k, ha, hb, rfl⟩
theorem PermOn.refl (n : Nat) (f : Nat → α) : PermOn n f f := List.Perm.refl _
theorem PermOn.trans {n : Nat} {f g h : Nat → α} (h1 : PermOn n g f) (h2 : PermOn n h g) : PermOn n h f := List.Perm.trans h2 h1

/-- A strict order whose negation is transitive. -/
structure Ordr (lt : α → α → Prop) : Prop where
  asym : ∀ a b, lt a b → ¬ lt b a
  trans : ∀ a b c, ¬ lt b a → ¬ lt c b → ¬ lt c a
def Srt (lt : α → α → Prop) (f : Nat → α) (a b : Nat) : Prop := ∀ p q, a ≤ p → p < q → q < b → ¬ lt (f q) (f p)
variable {lt : α → α → Prop}
theorem Srt.sub {f : Nat → α} {a b a' b' : Nat} (h : Srt lt f a b) (h1 : a ≤ a') (h2 : b' ≤ b) : Srt lt f a' b' := fun p q x y z => h p q (by omega) y (by omega)
theorem Srt.congr {f g : Nat → α} {a b : Nat} (h : Srt lt f a b) (e : ∀ k, a ≤ k → k < b → g k = f k) : Srt lt g a b := fun p q x y z => by
  rw [e p x (by omega), e q (by omega) z]; exact h p q x y z

/-- What the insertion's inner loop keeps: sorted but for the place j. -/
def Ins (lt : α → α → Prop) (f : Nat → α) (a j i : Nat) : Prop := ∀ p q, a ≤ p → p < q → q ≤ i → q ≠ j → ¬ lt (f q) (f p)
theorem Ins.start {f : Nat → α} {a i : Nat} (h : Srt lt f a i) : Ins lt f a i i := fun p q x y z w => h p q x y (by omega)
theorem Ins.step (ho : Ordr lt) {f : Nat → α} {a j i : Nat} (h : Ins lt f a j i) (hj : a < j) (hji : j ≤ i) (hl : lt (f j) (f (j - 1))) : Ins lt (swp f j (j - 1)) a (j - 1) i := by
  intro p q hp hpq hq hne
  have hirr := ho.asym _ _ hl
  unfold swp
  by_cases h1 : q = j
  · subst h1
    rw [if_pos rfl]
    by_cases h2 : p = q - 1
    · subst h2
      rw [if_neg (by omega), if_pos rfl]; exact hirr
    · rw [if_neg (by omega), if_neg h2]
      exact h p (q - 1) hp (by omega) (by omega) (by omega)
  · rw [if_neg h1, if_neg (by omega : ¬ q = j - 1)]
    by_cases h2 : p = j
    · subst h2
      rw [if_pos rfl]
      exact h (p - 1) q (by omega) (by omega) hq h1
    · rw [if_neg h2]
      by_cases h3 : p = j - 1
      · subst h3
        rw [if_pos rfl]
        exact h j q (by omega) (by omega) hq h1
      · rw [if_neg h3]
        exact h p q hp hpq hq h1
theorem Ins.done (ho : Ordr lt) {f : Nat → α} {a j i : Nat} (h : Ins lt f a j i) (hji : j ≤ i) (haj : a ≤ j) (hl : j = a ∨ ¬ lt (f j) (f (j - 1))) : Srt lt f a (i + 1) := by
  intro p q hp hpq hq
  by_cases h1 : q = j
  · subst h1
    rcases hl with rfl | hl
    · omega
    · by_cases h2 : p = q - 1
      · subst h2; exact hl
      · exact ho.trans _ _ _ (h p (q - 1) hp (by omega) (by omega) (by omega)) hl
  · exact h p q hp hpq (by omega) h1
end
end Go.Proofs.Ythpgnhmikffcpaa
