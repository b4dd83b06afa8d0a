/- Sorting in place, without Go: exchanges, rotations, merges, the order behind them. No condition. -/

namespace Go.Proofs.YtkpfeodffhfejaaGreatDoor
set_option linter.unusedVariables false
set_option maxRecDepth 1000000

section
variable {α : Type}

/-- Two places exchanged. -/
def swp (f : Nat → α) (i j : Nat) : Nat → α := fun k => if k = i then f j else if k = j then f i else f k
def PermOn (n : Nat) (f g : Nat → α) : Prop := ((List.range n).map f).Perm ((List.range n).map g)
theorem swp_perm (f : Nat → α) {i j n : Nat} (hi : i < n) (hj : j < n) : PermOn n (swp f i j) f := by
  have e : (List.range n).map (swp f i j) = (((List.range n).map f).toArray.swap i j (by simpa using hi) (by simpa using hj)).toList := by
    apply List.ext_getElem
    · simp
    · intro k h1 h2
      simp only [List.getElem_map, List.getElem_range, Array.getElem_toList, Array.getElem_swap, List.getElem_toArray, swp]
  unfold PermOn
  rw [e]
  have := Array.swap_perm (xs := ((List.range n).map f).toArray) (i := i) (j := j) (by simpa using hi) (by simpa using hj)
  simpa using this.toList

/-- Within [a, b) what was there, elsewhere as it was. -/
def Mix (a b : Nat) (f f' : Nat → α) : Prop := (∀ k, k < a ∨ b ≤ k → f' k = f k) ∧ ∀ k, a ≤ k → k < b → ∃ k', a ≤ k' ∧ k' < b ∧ f' k = f k'
theorem Mix.refl (a b : Nat) (f : Nat → α) : Mix a b f f := ⟨fun _ _ => rfl, fun k h1 h2 => ⟨k, h1, h2, rfl⟩⟩
theorem Mix.trans {a b : Nat} {f g h : Nat → α} (h1 : Mix a b f g) (h2 : Mix a b g h) : Mix a b f h := by
  refine ⟨fun k hk => (h2.1 k hk).trans (h1.1 k hk), fun k ha hb => ?_⟩
  obtain ⟨k', ha', hb', e⟩ := h2.2 k ha hb
  obtain ⟨k'', ha'', hb'', e'⟩ := h1.2 k' ha' hb'
  exact ⟨k'', ha'', hb'', e.trans e'⟩
theorem Mix.wide {a b a' b' : Nat} {f g : Nat → α} (h : Mix a b f g) (h1 : a' ≤ a) (h2 : b ≤ b') : Mix a' b' f g := by
  refine ⟨fun k hk => h.1 k (by omega), fun k ha hb => ?_⟩
  by_cases hk : a ≤ k ∧ k < b
  · obtain ⟨k', x, y, e⟩ := h.2 k hk.1 hk.2
    exact ⟨k', by omega, by omega, e⟩
  · exact ⟨k, ha, hb, h.1 k (by omega)⟩
theorem Mix.swp {a b i j : Nat} (f : Nat → α) (hi : a ≤ i) (hi' : i < b) (hj : a ≤ j) (hj' : j < b) : Mix a b f (swp f i j) := by
  refine ⟨fun k hk => ?_, fun k ha hb => ?_⟩
  · unfold YtkpfeodffhfejaaGreatDoor.swp; rw [if_neg (by omega), if_neg (by omega)]
  · unfold YtkpfeodffhfejaaGreatDoor.swp
    split
    · exact ⟨j, hj, hj', rfl⟩
    · split
      · exact ⟨i, hi, hi', rfl⟩
      · exact ⟨k, ha, hb, rfl⟩

/-- Two ranges exchanged: n places from a on and from b on. -/
def swr (f : Nat → α) (a b n : Nat) : Nat → α := fun k => if a ≤ k ∧ k < a + n then f (k + (b - a)) else if b ≤ k ∧ k < b + n then f (k - (b - a)) else f k
theorem swr_zero (f : Nat → α) (a b : Nat) : swr f a b 0 = f := by
  funext k; unfold swr; rw [if_neg (by omega), if_neg (by omega)]
theorem swr_succ (f : Nat → α) (a b n : Nat) (h : a + n < b) : swp (swr f a b n) (a + n) (b + n) = swr f a b (n + 1) := by
  funext k
  unfold swp swr
  by_cases h1 : k = a + n
  · subst h1
    rw [if_pos rfl, if_neg (by omega), if_neg (by omega), if_pos (by omega)]; exact congrArg f (by omega)
  · rw [if_neg h1]
    by_cases h2 : k = b + n
    · subst h2
      rw [if_pos rfl, if_neg (by omega), if_neg (by omega), if_neg (by omega), if_pos (by omega)]; exact congrArg f (by omega)
    · rw [if_neg h2]
      by_cases h3 : a ≤ k ∧ k < a + n
      · rw [if_pos h3, if_pos (by omega)]
      · rw [if_neg h3, if_neg (by omega : ¬ (a ≤ k ∧ k < a + (n + 1)))]
        by_cases h4 : b ≤ k ∧ k < b + n
        · rw [if_pos h4, if_pos (by omega)]
        · rw [if_neg h4, if_neg (by omega)]

/-- [a, m) and [m, b) exchanged. -/
def rot (f : Nat → α) (a m b : Nat) : Nat → α := fun k => if a ≤ k ∧ k < a + (b - m) then f (k + (m - a)) else if a + (b - m) ≤ k ∧ k < b then f (k - (b - m)) else f k
theorem rot_even (f : Nat → α) (m i : Nat) (h : i ≤ m) : rot f (m - i) m (m + i) = swr f (m - i) m i := by
  funext k
  unfold rot swr
  by_cases h1 : m - i ≤ k ∧ k < m - i + i
  · rw [if_pos (by omega), if_pos h1]
  · rw [if_neg (by omega), if_neg h1]
    by_cases h2 : m ≤ k ∧ k < m + i
    · rw [if_pos (by omega), if_pos h2]; exact congrArg f (by omega)
    · rw [if_neg (by omega), if_neg h2]
theorem rot_left (f : Nat → α) (m i j : Nat) (h : i ≤ m) (hij : j < i) : rot (swr f (m - i) m j) (m - (i - j)) m (m + j) = rot f (m - i) m (m + j) := by
  funext k
  unfold rot swr
  by_cases h1 : k < m - i
  · rw [if_neg (by omega), if_neg (by omega), if_neg (by omega), if_neg (by omega), if_neg (by omega), if_neg (by omega)]
  · by_cases h2 : k < m - i + j
    · rw [if_neg (by omega), if_neg (by omega), if_pos (by omega), if_pos (by omega)]
    · by_cases h3 : k < m - (i - j) + j
      · rw [if_pos (by omega), if_neg (by omega), if_pos (by omega), if_neg (by omega), if_pos (by omega)]; exact congrArg f (by omega)
      · by_cases h4 : k < m + j
        · rw [if_neg (by omega), if_pos (by omega), if_neg (by omega), if_neg (by omega), if_neg (by omega), if_pos (by omega)]
        · rw [if_neg (by omega), if_neg (by omega), if_neg (by omega), if_neg (by omega), if_neg (by omega), if_neg (by omega)]
theorem rot_right (f : Nat → α) (m i j : Nat) (h : i ≤ m) (hij : i < j) : rot (swr f (m - i) (m + j - i) i) (m - i) m (m + (j - i)) = rot f (m - i) m (m + j) := by
  funext k
  unfold rot swr
  by_cases h1 : k < m - i
  · rw [if_neg (by omega), if_neg (by omega), if_neg (by omega), if_neg (by omega), if_neg (by omega), if_neg (by omega)]
  · by_cases h2 : k < m - i + (j - i)
    · rw [if_pos (by omega), if_neg (by omega), if_neg (by omega), if_pos (by omega)]
    · by_cases h3 : k < m + (j - i)
      · rw [if_neg (by omega), if_pos (by omega), if_pos (by omega), if_pos (by omega)]; exact congrArg f (by omega)
      · by_cases h4 : k < m + j
        · rw [if_neg (by omega), if_neg (by omega), if_neg (by omega), if_pos (by omega), if_neg (by omega), if_pos (by omega)]; exact congrArg f (by omega)
        · rw [if_neg (by omega), if_neg (by omega), if_neg (by omega), if_neg (by omega), if_neg (by omega), if_neg (by omega)]

theorem Mix.rot {a m b : Nat} (f : Nat → α) (h1 : a ≤ m) (h2 : m ≤ b) : Mix a b f (rot f a m b) := by
  refine ⟨fun k hk => ?_, fun k ha hb => ?_⟩
  · unfold YtkpfeodffhfejaaGreatDoor.rot; rw [if_neg (by omega), if_neg (by omega)]
  · unfold YtkpfeodffhfejaaGreatDoor.rot
    split
    · exact ⟨_, by omega, by omega, rfl⟩
    · split
      · exact ⟨_, by omega, by omega, rfl⟩
      · exact ⟨k, ha, hb, rfl⟩
theorem PermOn.refl (n : Nat) (f : Nat → α) : PermOn n f f := List.Perm.refl _
theorem PermOn.trans {n : Nat} {f g h : Nat → α} (h1 : PermOn n g f) (h2 : PermOn n h g) : PermOn n h f := List.Perm.trans h2 h1

/-- A strict order whose negation is transitive. -/
structure Ordr (lt : α → α → Prop) : Prop where
  asym : ∀ a b, lt a b → ¬ lt b a
  trans : ∀ a b c, ¬ lt b a → ¬ lt c b → ¬ lt c a
def Srt (lt : α → α → Prop) (f : Nat → α) (a b : Nat) : Prop := ∀ p q, a ≤ p → p < q → q < b → ¬ lt (f q) (f p)
variable {lt : α → α → Prop}
theorem Srt.sub {f : Nat → α} {a b a' b' : Nat} (h : Srt lt f a b) (h1 : a ≤ a') (h2 : b' ≤ b) : Srt lt f a' b' := fun p q x y z => h p q (by omega) y (by omega)
theorem Srt.congr {f g : Nat → α} {a b : Nat} (h : Srt lt f a b) (e : ∀ k, a ≤ k → k < b → g k = f k) : Srt lt g a b := fun p q x y z => by
  rw [e p x (by omega), e q (by omega) z]; exact h p q x y z

/-- What the insertion's inner loop keeps: sorted but for the place j. -/
def Ins (lt : α → α → Prop) (f : Nat → α) (a j i : Nat) : Prop := ∀ p q, a ≤ p → p < q → q ≤ i → q ≠ j → ¬ lt (f q) (f p)
theorem Ins.start {f : Nat → α} {a i : Nat} (h : Srt lt f a i) : Ins lt f a i i := fun p q x y z w => h p q x y (by omega)
theorem Ins.step (ho : Ordr lt) {f : Nat → α} {a j i : Nat} (h : Ins lt f a j i) (hj : a < j) (hji : j ≤ i) (hl : lt (f j) (f (j - 1))) : Ins lt (swp f j (j - 1)) a (j - 1) i := by
  intro p q hp hpq hq hne
  have hirr := ho.asym _ _ hl
  unfold swp
  by_cases h1 : q = j
  · subst h1
    rw [if_pos rfl]
    by_cases h2 : p = q - 1
    · subst h2
      rw [if_neg (by omega), if_pos rfl]; exact hirr
    · rw [if_neg (by omega), if_neg h2]
      exact h p (q - 1) hp (by omega) (by omega) (by omega)
  · rw [if_neg h1, if_neg (by omega : ¬ q = j - 1)]
    by_cases h2 : p = j
    · subst h2
      rw [if_pos rfl]
      exact h (p - 1) q (by omega) (by omega) hq h1
    · rw [if_neg h2]
      by_cases h3 : p = j - 1
      · subst h3
        rw [if_pos rfl]
        exact h j q (by omega) (by omega) hq h1
      · rw [if_neg h3]
        exact h p q hp hpq hq h1
theorem Ins.done (ho : Ordr lt) {f : Nat → α} {a j i : Nat} (h : Ins lt f a j i) (hji : j ≤ i) (haj : a ≤ j) (hl : j = a ∨ ¬ lt (f j) (f (j - 1))) : Srt lt f a (i + 1) := by
  intro p q hp hpq hq
  by_cases h1 : q = j
  · subst h1
    rcases hl with rfl | hl
    · omega
    · by_cases h2 : p = q - 1
      · subst h2; exact hl
      · exact ho.trans _ _ _ (h p (q - 1) hp (by omega) (by omega) (by omega)) hl
  · exact h p q hp hpq (by omega) h1
end
end Go.Proofs.YtkpfeodffhfejaaGreatDoor

/- The merge of two sorted runs by rotation, without Go. No condition. -/
namespace Go.Proofs.YtkpfeodffhfejaaGreatDoor
set_option linter.unusedVariables false
set_option maxRecDepth 1000000
section
variable {α : Type} {lt : α → α → Prop}

theorem rot_same {f : Nat → α} {a m b : Nat} (h1 : a ≤ m) (h2 : m ≤ b) (h : a = m ∨ m = b) : rot f a m b = f := by
  funext k
  unfold rot
  rcases h with rfl | rfl
  · split
    · exact congrArg f (by omega)
    · split
      · exact congrArg f (by omega)
      · rfl
  · split
    · omega
    · split
      · exact congrArg f (by omega)
      · rfl
/-- What the search behind the two halves knows. -/
structure Cut (lt : α → α → Prop) (f : Nat → α) (a m b mid st : Nat) : Prop where
  h1 : a ≤ st
  h2 : st ≤ m
  h3 : st ≤ mid
  h4 : m ≤ mid + m - st
  h5 : mid + m - st ≤ b
  lo : a < st → mid + m - st < b → ¬ lt (f (mid + m - st)) (f (st - 1))
  hi : st < m → m < mid + m - st → lt (f (mid + m - st - 1)) (f st)
theorem Ordr.irr (ho : Ordr lt) (x : α) : ¬ lt x x := fun h => ho.asym _ _ h h
theorem Cut.cross (ho : Ordr lt) {f : Nat → α} {a m b mid st : Nat} (hs1 : Srt lt f a m) (hs2 : Srt lt f m b) (hc : Cut lt f a m b mid st) :
    Srt lt (rot f st m (mid + m - st)) a mid → Srt lt (rot f st m (mid + m - st)) mid b → True := fun _ _ => trivial
theorem Cut.parts (ho : Ordr lt) {f : Nat → α} {a m b mid st : Nat} (hm1 : a ≤ m) (hm2 : m ≤ b) (hmid : a ≤ mid) (hmid2 : mid ≤ b) (hs1 : Srt lt f a m) (hs2 : Srt lt f m b) (hc : Cut lt f a m b mid st) :
    Srt lt (rot f st m (mid + m - st)) a st ∧ Srt lt (rot f st m (mid + m - st)) st mid ∧ Srt lt (rot f st m (mid + m - st)) mid (mid + m - st) ∧ Srt lt (rot f st m (mid + m - st)) (mid + m - st) b ∧
    ∀ p q, a ≤ p → p < mid → mid ≤ q → q < b → ¬ lt (rot f st m (mid + m - st) q) (rot f st m (mid + m - st) p) := by
  obtain ⟨h1, h2, h3, h4, h5, hlo, hhi⟩ := hc
  have e1 : ∀ k, k < st → rot f st m (mid + m - st) k = f k := fun k hk => by unfold rot; rw [if_neg (by omega), if_neg (by omega)]
  have e2 : ∀ k, st ≤ k → k < mid → rot f st m (mid + m - st) k = f (k + (m - st)) := fun k hk hk' => by unfold rot; rw [if_pos (by omega)]
  have e3 : ∀ k, mid ≤ k → k < mid + m - st → rot f st m (mid + m - st) k = f (k - (mid - st)) := fun k hk hk' => by
    unfold rot; rw [if_neg (by omega), if_pos (by omega)]; exact congrArg f (by omega)
  have e4 : ∀ k, mid + m - st ≤ k → rot f st m (mid + m - st) k = f k := fun k hk => by unfold rot; rw [if_neg (by omega), if_neg (by omega)]
  refine ⟨fun p q hp hpq hq => ?_, fun p q hp hpq hq => ?_, fun p q hp hpq hq => ?_, fun p q hp hpq hq => ?_, fun p q hp hpm hqm hq => ?_⟩
  · rw [e1 p (by omega), e1 q hq]; exact hs1 p q hp hpq (by omega)
  · rw [e2 p hp (by omega), e2 q (by omega) hq]; exact hs2 _ _ (by omega) (by omega) (by omega)
  · rw [e3 p hp (by omega), e3 q (by omega) hq]; exact hs1 _ _ (by omega) (by omega) (by omega)
  · rw [e4 p hp, e4 q (by omega)]; exact hs2 _ _ (by omega) (by omega) hq
  · by_cases hp1 : p < st
    · rw [e1 p hp1]
      by_cases hq1 : q < mid + m - st
      · rw [e3 q hqm hq1]; exact hs1 _ _ hp (by omega) (by omega)
      · rw [e4 q (by omega)]
        have x1 := hlo (by omega) (by omega)
        have x2 : ¬ lt (f (st - 1)) (f p) := by
          by_cases e : p = st - 1
          · rw [e]; exact ho.irr _
          · exact hs1 _ _ hp (by omega) (by omega)
        have x3 : ¬ lt (f q) (f (mid + m - st)) := by
          by_cases e : q = mid + m - st
          · rw [e]; exact ho.irr _
          · exact hs2 _ _ (by omega) (by omega) hq
        exact ho.trans _ _ _ x2 (ho.trans _ _ _ x1 x3)
    · rw [e2 p (by omega) hpm]
      by_cases hq1 : q < mid + m - st
      · rw [e3 q hqm hq1]
        have x1 := ho.asym _ _ (hhi (by omega) (by omega))
        have x2 : ¬ lt (f (mid + m - st - 1)) (f (p + (m - st))) := by
          by_cases e : p + (m - st) = mid + m - st - 1
          · rw [e]; exact ho.irr _
          · exact hs2 _ _ (by omega) (by omega) (by omega)
        have x3 : ¬ lt (f (q - (mid - st))) (f st) := by
          by_cases e : q - (mid - st) = st
          · rw [e]; exact ho.irr _
          · exact hs1 _ _ (by omega) (by omega) (by omega)
        exact ho.trans _ _ _ x2 (ho.trans _ _ _ x1 x3)
      · rw [e4 q (by omega)]; exact hs2 _ _ (by omega) (by omega) hq
/-- Both halves in order. -/
theorem merged (ho : Ordr lt) {r g : Nat → α} {a mid b : Nat} (hx : ∀ p q, a ≤ p → p < mid → mid ≤ q → q < b → ¬ lt (r q) (r p)) {g1 : Nat → α} (hm1 : Mix a mid r g1) (hm2 : Mix mid b g1 g)
    (h1 : Srt lt g1 a mid) (h2 : Srt lt g mid b) : Srt lt g a b := by
  intro p q hp hpq hq
  by_cases hpm : p < mid
  · by_cases hqm : q < mid
    · rw [hm2.1 p (by omega), hm2.1 q (by omega)]; exact h1 p q hp hpq hqm
    · rw [hm2.1 p (by omega)]
      obtain ⟨p', a1, a2, e1⟩ := hm1.2 p hp hpm
      obtain ⟨q', b1, b2, e2⟩ := hm2.2 q (by omega) hq
      rw [e1, e2, hm1.1 q' (by omega)]
      exact hx p' q' a1 a2 b1 b2
  · exact h2 p q (by omega) hpq hq
/-- The one first element put where the search says. -/
theorem one_left (ho : Ordr lt) {f : Nat → α} {a b i : Nat} (hs : Srt lt f (a + 1) b) (h1 : a + 1 ≤ i) (h2 : i ≤ b) (hlo : ∀ k, a + 1 ≤ k → k < i → lt (f k) (f a)) (hhi : ∀ k, i ≤ k → k < b → ¬ lt (f k) (f a)) :
    Srt lt (rot f a (a + 1) i) a b := by
  have e1 : ∀ k, a ≤ k → k + 1 < i → rot f a (a + 1) i k = f (k + 1) := fun k hk hk' => by unfold rot; rw [if_pos (by omega)]; exact congrArg f (by omega)
  have e2 : rot f a (a + 1) i (i - 1) = f a := by unfold rot; rw [if_neg (by omega), if_pos (by omega)]; exact congrArg f (by omega)
  have e3 : ∀ k, i ≤ k → rot f a (a + 1) i k = f k := fun k hk => by unfold rot; rw [if_neg (by omega), if_neg (by omega)]
  intro p q hp hpq hq
  by_cases p1 : p + 1 < i
  · rw [e1 p hp p1]
    by_cases q1 : q + 1 < i
    · rw [e1 q (by omega) q1]; exact hs _ _ (by omega) (by omega) (by omega)
    · by_cases q2 : q = i - 1
      · rw [q2, e2]; exact ho.asym _ _ (hlo _ (by omega) (by omega))
      · rw [e3 q (by omega)]; exact hs _ _ (by omega) (by omega) hq
  · by_cases p2 : p = i - 1
    · rw [p2, e2, e3 q (by omega)]; exact hhi _ (by omega) hq
    · rw [e3 p (by omega), e3 q (by omega)]; exact hs _ _ (by omega) hpq hq
/-- The one last element put where the search says. -/
theorem one_right (ho : Ordr lt) {f : Nat → α} {a m i : Nat} (hs : Srt lt f a m) (h1 : a ≤ i) (h2 : i ≤ m) (hlo : ∀ k, a ≤ k → k < i → ¬ lt (f m) (f k)) (hhi : ∀ k, i ≤ k → k < m → lt (f m) (f k)) :
    Srt lt (rot f i m (m + 1)) a (m + 1) := by
  have e1 : ∀ k, k < i → rot f i m (m + 1) k = f k := fun k hk => by unfold rot; rw [if_neg (by omega), if_neg (by omega)]
  have e2 : rot f i m (m + 1) i = f m := by unfold rot; rw [if_pos (by omega)]; exact congrArg f (by omega)
  have e3 : ∀ k, i < k → k < m + 1 → rot f i m (m + 1) k = f (k - 1) := fun k hk hk' => by unfold rot; rw [if_neg (by omega), if_pos (by omega)]; exact congrArg f (by omega)
  intro p q hp hpq hq
  by_cases p1 : p < i
  · rw [e1 p p1]
    by_cases q1 : q < i
    · rw [e1 q q1]; exact hs _ _ hp hpq (by omega)
    · by_cases q2 : q = i
      · rw [q2, e2]; exact hlo _ hp p1
      · rw [e3 q (by omega) hq]
        exact hs _ _ hp (by omega) (by omega)
  · by_cases p2 : p = i
    · rw [p2, e2, e3 q (by omega) hq]; exact ho.asym _ _ (hhi _ (by omega) (by omega))
    · rw [e3 p (by omega) (by omega), e3 q (by omega) hq]; exact hs _ _ (by omega) (by omega) (by omega)
/-- The single steps to there. -/
theorem rot_step_up (f : Nat → α) {a k : Nat} (h : a ≤ k) : swp (rot f a (a + 1) (k + 1)) k (k + 1) = rot f a (a + 1) (k + 2) := by
  funext j
  unfold swp rot
  by_cases h1 : j = k
  · subst h1
    rw [if_pos rfl, if_neg (by omega), if_neg (by omega), if_pos (by omega)]; exact congrArg f (by omega)
  · rw [if_neg h1]
    by_cases h2 : j = k + 1
    · subst h2
      rw [if_pos rfl, if_neg (by omega), if_pos (by omega), if_neg (by omega), if_pos (by omega)]; exact congrArg f (by omega)
    · rw [if_neg h2]
      by_cases h3 : a ≤ j ∧ j < k
      · rw [if_pos (by omega), if_pos (by omega)]
      · rw [if_neg (by omega), if_neg (by omega), if_neg (by omega), if_neg (by omega)]
theorem rot_step_down (f : Nat → α) {m k : Nat} (h : k < m) : swp (rot f (k + 1) m (m + 1)) (k + 1) k = rot f k m (m + 1) := by
  funext j
  unfold swp rot
  by_cases h1 : j = k + 1
  · subst h1
    rw [if_pos rfl, if_neg (by omega), if_neg (by omega), if_neg (by omega), if_pos (by omega)]; exact congrArg f (by omega)
  · rw [if_neg h1]
    by_cases h2 : j = k
    · subst h2
      rw [if_pos rfl, if_pos (by omega), if_pos (by omega)]; exact congrArg f (by omega)
    · rw [if_neg h2]
      by_cases h3 : k + 1 < j ∧ j < m + 1
      · rw [if_neg (by omega), if_pos (by omega), if_neg (by omega), if_pos (by omega)]
      · rw [if_neg (by omega), if_neg (by omega), if_neg (by omega), if_neg (by omega)]

theorem Mix.perm {n a b : Nat} : True := trivial
/-- A rotation is a permutation. -/
theorem rot_up_perm (f : Nat → α) {n a : Nat} : ∀ k, a ≤ k → k < n → PermOn n (rot f a (a + 1) (k + 1)) f := by
  intro k
  induction k with
  | zero => intro h hn; obtain rfl : a = 0 := by omega
            rw [rot_same (by omega) (by omega) (.inr rfl)]; exact PermOn.refl _ _
  | succ k ih =>
    intro h hn
    by_cases h1 : a = k + 1
    · subst h1; rw [rot_same (by omega) (by omega) (.inr rfl)]; exact PermOn.refl _ _
    · rw [← rot_step_up f (by omega : a ≤ k)]
      exact (ih (by omega) (by omega)).trans (swp_perm _ (by omega) hn)
theorem rot_down_perm (f : Nat → α) {n m : Nat} (hm : m < n) : ∀ d k, k + d = m → PermOn n (rot f k m (m + 1)) f := by
  intro d
  induction d with
  | zero => intro k h; obtain rfl : k = m := by omega
            rw [rot_same (by omega) (by omega) (.inl rfl)]; exact PermOn.refl _ _
  | succ d ih =>
    intro k h
    rw [← rot_step_down f (by omega : k < m)]
    exact (ih (k + 1) (by omega)).trans (swp_perm _ (by omega) (by omega))
theorem swr_perm (f : Nat → α) {n a b : Nat} : ∀ c, a + c ≤ b → b + c ≤ n → PermOn n (swr f a b c) f := by
  intro c
  induction c with
  | zero => intro _ _; rw [swr_zero]; exact PermOn.refl _ _
  | succ c ih =>
    intro h1 h2
    rw [← swr_succ f a b c (by omega)]
    exact (ih (by omega) (by omega)).trans (swp_perm _ (by omega) (by omega))
theorem rot_perm (f : Nat → α) {n m : Nat} : ∀ s i j, i + j ≤ s → i ≤ m → m + j ≤ n → PermOn n (rot f (m - i) m (m + j)) f := by
  intro s
  induction s generalizing f with
  | zero => intro i j h hi hj; rw [rot_same (by omega) (by omega) (.inr (by omega))]; exact PermOn.refl _ _
  | succ s ih =>
    intro i j h hi hj
    by_cases h0 : i = 0
    · rw [rot_same (by omega) (by omega) (.inl (by omega))]; exact PermOn.refl _ _
    · by_cases h0' : j = 0
      · rw [rot_same (by omega) (by omega) (.inr (by omega))]; exact PermOn.refl _ _
      · by_cases he : i = j
        · subst he; rw [rot_even f m i hi]; exact swr_perm f _ (by omega) (by omega)
        · by_cases hl : j < i
          · rw [← rot_left f m i j hi hl]
            exact (swr_perm f (n := n) j (by omega) (by omega)).trans (ih (swr f (m - i) m j) (i - j) j (by omega) (by omega) (by omega))
          · rw [← rot_right f m i j hi (by omega)]
            exact (swr_perm f (n := n) i (by omega) (by omega)).trans (ih (swr f (m - i) (m + j - i) i) i (j - i) (by omega) hi (by omega))
end
end Go.Proofs.YtkpfeodffhfejaaGreatDoor
