/- A descriptor's value, as plain Lean data; rows of the call's own in later worlds. No condition. -/
import Derived.Test.YthpgnhmikffcpaaM2
namespace Go.Proofs.Ythpgnhmikffcpaa
set_option linter.unusedVariables false
open Go.RowKit

theorem owns_later {w w' : World} {base : Nat} {e : TypeId} {size : Nat} {v : Value} {n : Nat} {xs : List Value} (h : w.ownsRow base e size v n xs) (hb : Below w.heap.size w w') : w'.ownsRow base e size v n xs := by
  obtain ⟨h1, h2 | ⟨g, cap, cur, e1, e2, e3, e4, e5, e6, e7⟩⟩ := h
  · exact ⟨h1, .inl h2⟩
  · have hg : g < w.heap.size := by
      rcases Nat.lt_or_ge g w.heap.size with h | h
      · exact h
      · rw [Array.getElem?_eq_none h] at e3; cases e3
    exact ⟨h1, .inr ⟨g, cap, cur, e1, e2, by rw [hb.block g hg]; exact e3, e4, e5, e6, e7⟩⟩
/-- The j-th cell of such a row. -/
theorem owns_cell {w : World} {base : Nat} {e : TypeId} {size : Nat} {v : Value} {n : Nat} {xs : List Value} (h : w.ownsRow base e size v n xs) (hn : 0 < n) :
    ∃ g cap, v = .slice (some ⟨g, 0, none⟩) n cap ∧ base ≤ g ∧ g < w.heap.size ∧ n ≤ cap ∧ cap ≤ maxLen ∧ ∀ j u, xs[j]? = some u → w.cell? ⟨g, j, none⟩ = some u := by
  obtain ⟨h1, ⟨_, h2⟩ | ⟨g, cap, cur, e1, e2, e3, e4, e5, e6, e7⟩⟩ := h
  · omega
  · have hg : g < w.heap.size := by
      rcases Nat.lt_or_ge g w.heap.size with h | h
      · exact h
      · rw [Array.getElem?_eq_none h] at e3; cases e3
    refine ⟨g, cap, e1, e2, hg, e4, e5, fun j u hj => ?_⟩
    subst e7
    have hj' : cur[j]? = some u := by
      rw [List.getElem?_take] at hj
      split at hj
      · simpa using hj
      · cases hj
    simp [World.cell?, e3, hj']

/-- Keys and values by turns. -/
def pairs : List V → List (V × V)
  | k :: v :: l => (k, v) :: pairs l
  | _ => []
def flat : List (V × V) → List V
  | [] => []
  | (k, v) :: l => k :: v :: flat l
def insP (e : V × V) : List (V × V) → List (V × V)
  | [] => [e]
  | x :: l => if ordV e.1 x.1 < 0 then e :: x :: l else x :: insP e l
def sortP : List (V × V) → List (V × V)
  | [] => []
  | e :: l => insP e (sortP l)
/-- No key is there twice. -/
def Apart (l : List (V × V)) : Prop := l.Pairwise fun a b => ordV a.1 b.1 ≠ 0
instance (l : List (V × V)) : Decidable (Apart l) := by unfold Apart; infer_instance
/-- The value of a descriptor with parts, out of the parts' values. -/
def greatV (d : D) (l : List V) : Option V :=
  if d.kind = 18 then (if d.names.Nodup then some (.great .struct d.base 0 d.names l) else none)
  else if d.kind = 21 then (if Apart (pairs l) then some (.great .map d.base 0 [] (flat (sortP (pairs l)))) else none)
  else if d.kind = 22 then some (.great .ptr d.base d.bits [] l)
  else some (.great .list d.base 0 [] l)
mutual
/-- The value; none: something is there twice. -/
def mkV : D → Option V
  | .mk k t b i x n p h => if k < 18 then some (leafV (.mk k t b i x n p h)) else match mkL p with
    | none => none
    | some l => greatV (.mk k t b i x n p h) l
def mkL : List D → Option (List V)
  | [] => some []
  | x :: l => match mkV x with
    | none => none
    | some y => match mkL l with
      | none => none
      | some ys => some (y :: ys)
end
theorem mkV_leaf {d : D} (h : d.kind < 18) : mkV d = some (leafV d) := by
  cases d with
  | mk k t b i x n p h' => unfold mkV; exact if_pos h
theorem mkV_great {d : D} (h : 18 ≤ d.kind) : mkV d = (mkL d.parts).bind (greatV d) := by
  cases d with
  | mk k t b i x n p h' =>
    unfold mkV
    rw [if_neg (by simp only [D.kind] at h; omega)]
    show _ = (mkL p).bind _
    cases mkL p <;> rfl
theorem mkL_snoc : ∀ (l : List D) (x : D) {ys : List V} {y : V}, mkL l = some ys → mkV x = some y → mkL (l ++ [x]) = some (ys ++ [y])
  | [], x, ys, y => fun h1 h2 => by
    simp only [mkL, Option.some.injEq] at h1
    subst h1
    simp [mkL, h2]
  | a :: l, x, ys, y => fun h1 h2 => by
    rw [List.cons_append]
    unfold mkL at h1 ⊢
    cases ha : mkV a with
    | none => rw [ha] at h1; cases h1
    | some b =>
      rw [ha] at h1
      cases hl : mkL l with
      | none => rw [hl] at h1; cases h1
      | some bs =>
        rw [hl] at h1
        simp only [Option.some.injEq] at h1
        subst h1
        simp only
        rw [mkL_snoc l x hl h2]; rfl
theorem mkL_none : ∀ (l : List D) (x : D) (r : List D), mkV x = none → mkL (l ++ x :: r) = none
  | [], x, r => fun h => by rw [List.nil_append]; unfold mkL; rw [h]
  | a :: l, x, r => fun h => by
    rw [List.cons_append]
    unfold mkL
    cases mkV a with
    | none => rfl
    | some b => simp only; rw [mkL_none l x r h]
theorem mkL_length : ∀ (l : List D) {ys : List V}, mkL l = some ys → ys.length = l.length
  | [], ys => fun h => by simp only [mkL, Option.some.injEq] at h; subst h; rfl
  | a :: l, ys => fun h => by
    unfold mkL at h
    cases ha : mkV a with
    | none => rw [ha] at h; cases h
    | some b =>
      rw [ha] at h
      cases hl : mkL l with
      | none => rw [hl] at h; cases h
      | some bs =>
        rw [hl] at h
        simp only [Option.some.injEq] at h
        subst h
        simp [mkL_length l hl]
/-- What made comes to. -/
def MadePost (w : World) (d : D) (e : Ending) (w' : World) : Prop :=
  match mkV d with
  | some x => MadeIs w x e w'
  | none => e = thrown 5 ∧ Below w.heap.size w w'
end Go.Proofs.Ythpgnhmikffcpaa
