/- The order of keys, without Go: a lexicographic comparison. No condition. -/
import Derived.Test.YtnalppgjbllehaaGreatDoorL23
import Derived.Test.YtnalppgjbllehaaGreatDoorL19
namespace Go.Proofs.YtnalppgjbllehaaGreatDoor
set_option linter.unusedVariables false
set_option maxRecDepth 1000000
open Go.RowKit

/-- A comparison: of whatever two things one comes first, or both are alike. -/
structure TotCmp {α : Type} (c : α → α → Int) : Prop where
  anti : ∀ x y, c y x = - c x y
  trans : ∀ x y z, c x y ≤ 0 → c y z ≤ 0 → c x z ≤ 0
theorem TotCmp.self {α : Type} {c : α → α → Int} (h : TotCmp c) (x : α) : c x x = 0 := by have := h.anti x x; omega
theorem TotCmp.zero {α : Type} {c : α → α → Int} (h : TotCmp c) {x y z : α} (h1 : c x y ≤ 0) (h2 : c y z ≤ 0) (h3 : c x z = 0) : c x y = 0 ∧ c y z = 0 := by
  have a1 := h.anti x z
  have a2 := h.trans y z x h2 (by omega)
  have a3 := h.anti x y
  have b2 := h.trans z x y (by omega) h1
  have b3 := h.anti y z
  omega
def lexC {α : Type} (c d : α → α → Int) (x y : α) : Int := if c x y = 0 then d x y else c x y
theorem TotCmp.lex {α : Type} {c d : α → α → Int} (h : TotCmp c) (k : TotCmp d) : TotCmp (lexC c d) where
  anti x y := by
    have a := h.anti x y
    have b := k.anti x y
    unfold lexC
    split <;> split <;> omega
  trans x y z := by
    have a := h.trans x y z
    have b := k.trans x y z
    have e := h.zero (x := x) (y := y) (z := z)
    unfold lexC
    intro h1 h2
    have c1 : c x y ≤ 0 := by split at h1 <;> omega
    have c2 : c y z ≤ 0 := by split at h2 <;> omega
    split
    · rename_i c3
      have := e c1 c2 c3
      rw [if_pos this.1] at h1
      rw [if_pos this.2] at h2
      exact b h1 h2
    · exact a c1 c2
theorem TotCmp.pull {α β : Type} {c : α → α → Int} (h : TotCmp c) (f : β → α) : TotCmp fun x y => c (f x) (f y) := ⟨fun x y => h.anti _ _, fun x y z => h.trans _ _ _⟩
theorem totI : TotCmp cmpI := by
  constructor
  · intro x y; unfold cmpI; split <;> split <;> omega
  · intro x y z; unfold cmpI; split <;> split <;> split <;> omega
theorem compareBytes_anti : ∀ a b, Lib.compareBytes b a = - Lib.compareBytes a b
  | [], [] => rfl
  | [], _ :: _ => rfl
  | _ :: _, [] => rfl
  | x :: l, y :: m => by
    unfold Lib.compareBytes
    have := compareBytes_anti l m
    simp only [UInt8.lt_iff_toNat_lt]
    split <;> split <;> first | omega | (split <;> omega)
theorem compareBytes_trans : ∀ a b c, Lib.compareBytes a b ≤ 0 → Lib.compareBytes b c ≤ 0 → Lib.compareBytes a c ≤ 0
  | [], [], _ => fun _ h => h
  | [], _ :: _, [] => fun _ _ => by simp [Lib.compareBytes]
  | [], _ :: _, _ :: _ => fun _ _ => by simp [Lib.compareBytes]
  | _ :: _, [], _ => fun h _ => by simp [Lib.compareBytes] at h
  | x :: l, y :: m, [] => fun _ h => by simp [Lib.compareBytes] at h
  | x :: l, y :: m, z :: n => by
    unfold Lib.compareBytes
    have := compareBytes_trans l m n
    simp only [UInt8.lt_iff_toNat_lt]
    intro h1 h2
    split
    · omega
    · split
      · rename_i h3 h4
        split at h1
        · split at h2
          · omega
          · split at h2 <;> omega
        · split at h1
          · omega
          · split at h2
            · omega
            · split at h2 <;> omega
      · rename_i h3 h4
        split at h1
        · split at h2
          · omega
          · split at h2 <;> omega
        · split at h1
          · omega
          · split at h2
            · omega
            · split at h2
              · omega
              · exact this h1 h2
theorem totB : TotCmp Lib.compareBytes := ⟨compareBytes_anti, compareBytes_trans⟩
theorem totS : TotCmp cmpS := totB.pull fun x : ByteArray => x.data.toList
theorem compareBytes_zero : ∀ a b, Lib.compareBytes a b = 0 → a = b
  | [], [] => fun _ => rfl
  | [], _ :: _ => fun h => by simp [Lib.compareBytes] at h
  | _ :: _, [] => fun h => by simp [Lib.compareBytes] at h
  | x :: l, y :: m => by
    unfold Lib.compareBytes
    intro h
    split at h
    · omega
    · split at h
      · omega
      · rename_i h1 h2
        have : x = y := by
          apply UInt8.toNat_inj.1
          simp only [UInt8.lt_iff_toNat_lt] at h1 h2
          omega
        rw [this, compareBytes_zero l m h]
theorem compareBytes_range : ∀ a b, Lib.compareBytes a b = -1 ∨ Lib.compareBytes a b = 0 ∨ Lib.compareBytes a b = 1
  | [], [] => by simp [Lib.compareBytes]
  | [], _ :: _ => by simp [Lib.compareBytes]
  | _ :: _, [] => by simp [Lib.compareBytes]
  | x :: l, y :: m => by
    unfold Lib.compareBytes
    split
    · omega
    · split
      · omega
      · exact compareBytes_range l m
theorem cmpS_zero {a b : ByteArray} : cmpS a b = 0 ↔ a = b := by
  constructor
  · intro h
    have := compareBytes_zero _ _ h
    apply ByteArray.ext
    apply Array.toList_inj.1
    exact this
  · rintro rfl; exact totS.self _
theorem cmpI_zero {a b : Int} : cmpI a b = 0 ↔ a = b := by unfold cmpI; split <;> (try split) <;> omega
theorem cmpI_range (a b : Int) : cmpI a b = -1 ∨ cmpI a b = 0 ∨ cmpI a b = 1 := by unfold cmpI; split <;> (try split) <;> omega
theorem cmpS_range (a b : ByteArray) : cmpS a b = -1 ∨ cmpS a b = 0 ∨ cmpS a b = 1 := compareBytes_range _ _
theorem lexC_zero {α : Type} {c d : α → α → Int} {x y : α} : lexC c d x y = 0 ↔ c x y = 0 ∧ d x y = 0 := by unfold lexC; split <;> simp_all

def Leaf.num : Leaf → Int
  | .bool _ v => if v then 1 else 0
  | .int _ x | .uint _ x => x
  | _ => 0
def Leaf.txt : Leaf → ByteArray
  | .text _ s => s
  | _ => ⟨#[]⟩
/-- May it be a key? -/
def Leaf.keyed : Leaf → Bool
  | .bool _ _ | .int _ _ | .uint _ _ | .text _ _ => true
  | _ => false
def Leaf.nam (l : Leaf) : ByteArray := if l.keyed then l.base.name else ⟨#[]⟩
def cmpK : Leaf → Leaf → Int := lexC (fun x y => cmpI x.base.kind y.base.kind) (lexC (fun x y => cmpI x.num y.num) (lexC (fun x y => cmpS x.txt y.txt) fun x y => cmpS x.nam y.nam))
theorem totK : TotCmp cmpK := (totI.pull fun x : Leaf => x.base.kind).lex ((totI.pull Leaf.num).lex ((totS.pull Leaf.txt).lex (totS.pull Leaf.nam)))
theorem cmpS_self (a : ByteArray) : cmpS a a = 0 := totS.self a
theorem cmpI_self (a : Int) : cmpI a a = 0 := totI.self a
theorem ordL_eq {x y : Leaf} (hx : (V.leaf x).ok) (hy : (V.leaf y).ok) : ordL x y = cmpK x y := by
  unfold ordL ordV cmpK lexC
  by_cases hk : x.base.kind = y.base.kind
  · have hk' : ¬ (V.leaf x).base.kind ≠ (V.leaf y).base.kind := fun h => h hk
    rw [if_neg hk', if_pos (cmpI_zero.2 hk)]
    cases x <;> cases y <;> simp only [V.ok, Leaf.base] at hx hy hk <;> (first | (exfalso; omega) | skip) <;>
      simp [Leaf.num, Leaf.txt, Leaf.nam, Leaf.keyed, andThenName, V.base, Leaf.base, cmpS_self, cmpI_self]
    rename_i p a q b
    cases a <;> cases b <;> simp [cmpI]
  · have hk' : (V.leaf x).base.kind ≠ (V.leaf y).base.kind := hk
    rw [if_pos hk', if_neg (fun h => hk (cmpI_zero.1 h))]; rfl

/-- The entries' order. -/
def ltE (x y : Ent) : Prop := cmpK x.k y.k < 0
theorem ordE : Ordr ltE where
  asym a b h := by have := totK.anti a.k b.k; unfold ltE at *; omega
  trans a b c h1 h2 := by
    have := totK.trans a.k b.k c.k
    have a1 := totK.anti a.k b.k
    have a2 := totK.anti b.k c.k
    have a3 := totK.anti a.k c.k
    unfold ltE at *; omega
end Go.Proofs.YtnalppgjbllehaaGreatDoor

/- Keys in order: one list in order only, the order by insertion. Without Go. Condition: all are keys. -/
namespace Go.Proofs.YtnalppgjbllehaaGreatDoor
set_option linter.unusedVariables false
set_option maxRecDepth 1000000
open Go.RowKit

/-- Lists that are related place by place. -/
inductive Rel2 {α β : Type} (R : α → β → Prop) : List α → List β → Prop where
  | nil : Rel2 R [] []
  | cons {a : α} {b : β} {l : List α} {m : List β} (h : R a b) (t : Rel2 R l m) : Rel2 R (a :: l) (b :: m)
theorem perm_rel {α β : Type} {R : α → β → Prop} {l1 l2 : List α} (h : l1.Perm l2) : ∀ {xs : List β}, Rel2 R l2 xs → ∃ ys, ys.Perm xs ∧ Rel2 R l1 ys := by
  induction h with
  | nil => intro xs h; exact ⟨xs, .refl _, h⟩
  | cons a _ ih =>
    intro xs h
    cases h with
    | cons h t =>
      obtain ⟨ys, h1, h2⟩ := ih t
      exact ⟨_ :: ys, h1.cons _, .cons h h2⟩
  | swap a b l =>
    intro xs h
    cases h with
    | cons h t => cases t with
      | cons h' t' => exact ⟨_, .swap _ _ _, .cons h' (.cons h t')⟩
  | trans _ _ ih1 ih2 =>
    intro xs h
    obtain ⟨ys, h1, h2⟩ := ih2 h
    obtain ⟨zs, h3, h4⟩ := ih1 h2
    exact ⟨zs, h3.trans h1, h4⟩
theorem Rel2.length {α β : Type} {R : α → β → Prop} {l : List α} {m : List β} (h : Rel2 R l m) : l.length = m.length := by
  induction h with
  | nil => rfl
  | cons _ _ ih => simp [ih]
theorem Rel2.get {α β : Type} {R : α → β → Prop} {l : List α} {m : List β} (h : Rel2 R l m) : ∀ i (h1 : i < l.length) (h2 : i < m.length), R l[i] m[i] := by
  induction h with
  | nil => intro i h1; simp at h1
  | cons h _ ih =>
    intro i h1 h2
    cases i with
    | zero => exact h
    | succ i => exact ih i (by simpa using h1) (by simpa using h2)
theorem Rel2.of {α β : Type} {R : α → β → Prop} : ∀ {l : List α} {m : List β}, l.length = m.length → (∀ i (h1 : i < l.length) (h2 : i < m.length), R l[i] m[i]) → Rel2 R l m
  | [], [], _, _ => .nil
  | a :: l, b :: m, hl, h => .cons (h 0 (by simp) (by simp)) (Rel2.of (by simpa using hl) fun i h1 h2 => h (i + 1) (by simpa using h1) (by simpa using h2))
  | [], _ :: _, hl, _ => by simp at hl
  | _ :: _, [], hl, _ => by simp at hl

theorem strict_uniq {α : Type} {c : α → α → Int} : ∀ {l1 l2 : List α}, l1.Perm l2 → (∀ a ∈ l1, ∀ b ∈ l1, c a b < 0 → ¬ c b a < 0) → l1.Pairwise (c · · < 0) → l2.Pairwise (c · · < 0) → l1 = l2
  | [], l2, hp, _, _, _ => (List.nil_perm.1 hp).symm
  | a :: t1, [], hp, _, _, _ => by have := hp.length_eq; simp at this
  | a :: t1, b :: t2, hp, has, h1, h2 => by
    have hab : a = b := by
      have ha : a ∈ b :: t2 := hp.mem_iff.1 (by simp)
      have hb : b ∈ a :: t1 := hp.mem_iff.2 (by simp)
      rcases List.mem_cons.1 ha with e | ha'
      · exact e
      · rcases List.mem_cons.1 hb with e | hb'
        · exact e.symm
        · exact absurd ((List.pairwise_cons.1 h2).1 a ha') (has a (by simp) b hb ((List.pairwise_cons.1 h1).1 b hb'))
    subst hab
    rw [strict_uniq ((List.perm_cons a).1 hp) (fun x hx y hy => has x (by simp [hx]) y (by simp [hy])) (List.pairwise_cons.1 h1).2 (List.pairwise_cons.1 h2).2]

def ordP (a b : V × V) : Int := ordV a.1 b.1
/-- A key. -/
def KeyV (x : V) : Prop := ∃ l, x = .leaf l ∧ (V.leaf l).ok
theorem ordP_anti {a b : V × V} (ha : KeyV a.1) (hb : KeyV b.1) : ordP b a = - ordP a b := by
  obtain ⟨l, e, h⟩ := ha
  obtain ⟨m, e', h'⟩ := hb
  unfold ordP
  rw [e, e']
  have h1 := ordL_eq h h'
  have h2 := ordL_eq h' h
  unfold ordL at h1 h2
  rw [h1, h2]
  exact totK.anti _ _
theorem ordP_trans {a b d : V × V} (ha : KeyV a.1) (hb : KeyV b.1) (hd : KeyV d.1) (h1 : ordP a b ≤ 0) (h2 : ordP b d ≤ 0) : ordP a d ≤ 0 := by
  obtain ⟨l, e, h⟩ := ha
  obtain ⟨m, e', h'⟩ := hb
  obtain ⟨n, e'', h''⟩ := hd
  unfold ordP at h1 h2 ⊢
  rw [e, e'] at h1
  rw [e', e''] at h2
  rw [e, e'']
  have g1 := ordL_eq h h'
  have g2 := ordL_eq h' h''
  have g3 := ordL_eq h h''
  unfold ordL at g1 g2 g3
  rw [g1] at h1
  rw [g2] at h2
  rw [g3]
  exact totK.trans _ _ _ h1 h2
theorem ordP_lt {a b d : V × V} (ha : KeyV a.1) (hb : KeyV b.1) (hd : KeyV d.1) (h1 : ordP a b < 0) (h2 : ordP b d < 0) : ordP a d < 0 := by
  have h3 := ordP_trans ha hb hd (by omega) (by omega)
  by_cases e : ordP a d = 0
  · exfalso
    have h4 := ordP_anti ha hd
    have h5 := ordP_trans hd ha hb (by omega) (by omega)
    have h6 := ordP_anti hb hd
    omega
  · omega

def Keyd (l : List (V × V)) : Prop := ∀ a ∈ l, KeyV a.1
theorem insP_perm (e : V × V) : ∀ l, (insP e l).Perm (e :: l)
  | [] => .refl _
  | x :: l => by
    unfold insP
    split
    · exact .refl _
    · exact ((insP_perm e l).cons x).trans (.swap _ _ _)
theorem sortP_perm : ∀ l, (sortP l).Perm l
  | [] => .refl _
  | e :: l => (insP_perm e _).trans ((sortP_perm l).cons e)
theorem mem3 {a e x : V × V} {l : List (V × V)} (h : a ∈ e :: l) : a ∈ e :: x :: l := by
  rcases List.mem_cons.1 h with rfl | h
  · simp
  · simp [h]
theorem insP_sorted {e : V × V} : ∀ {l : List (V × V)}, Keyd (e :: l) → l.Pairwise (ordP · · < 0) → (∀ x ∈ l, ordP e x ≠ 0) → (insP e l).Pairwise (ordP · · < 0)
  | [], _, _, _ => by simp [insP]
  | x :: l, hk, hs, hne => by
    have ke := hk e (by simp)
    have kx := hk x (by simp)
    unfold insP
    split
    · rename_i h
      refine List.pairwise_cons.2 ⟨fun y hy => ?_, hs⟩
      rcases List.mem_cons.1 hy with rfl | hy
      · exact h
      · exact ordP_lt ke kx (hk y (by simp [hy])) h ((List.pairwise_cons.1 hs).1 y hy)
    · rename_i h
      have hxe : ordP x e < 0 := by
        have h1 := ordP_anti ke kx
        have h2 := hne x (by simp)
        have h3 : ¬ ordP e x < 0 := h
        omega
      refine List.pairwise_cons.2 ⟨fun y hy => ?_, insP_sorted (fun a ha => hk a (mem3 ha)) (List.pairwise_cons.1 hs).2 (fun y hy => hne y (by simp [hy]))⟩
      rcases List.mem_cons.1 ((insP_perm e l).mem_iff.1 hy) with rfl | hy
      · exact hxe
      · exact (List.pairwise_cons.1 hs).1 y hy
theorem sortP_sorted : ∀ {l : List (V × V)}, Keyd l → Apart l → (sortP l).Pairwise (ordP · · < 0)
  | [], _, _ => by simp [sortP]
  | e :: l, hk, ha => by
    refine insP_sorted (fun a h => hk a ?_) (sortP_sorted (fun a h => hk a (by simp [h])) (List.pairwise_cons.1 ha).2) (fun x hx => ?_)
    · rcases List.mem_cons.1 h with rfl | h
      · simp
      · simp [(sortP_perm l).mem_iff.1 h]
    · exact (List.pairwise_cons.1 ha).1 x ((sortP_perm l).mem_iff.1 hx)
theorem apart_perm {l m : List (V × V)} (hp : l.Perm m) (hk : Keyd l) (h : Apart l) : Apart m := by
  unfold Apart at h ⊢
  have h' : l.Pairwise fun a b => KeyV a.1 ∧ KeyV b.1 ∧ ordP a b ≠ 0 := by
    refine List.Pairwise.imp_of_mem ?_ h
    intro a b ha hb e
    exact ⟨hk a ha, hk b hb, e⟩
  have h2 := (List.Perm.pairwise_iff (fun {a b} (h : KeyV a.1 ∧ KeyV b.1 ∧ ordP a b ≠ 0) => ⟨h.2.1, h.1, by rw [ordP_anti h.1 h.2.1]; omega⟩) hp).1 h'
  exact h2.imp fun h => h.2.2
/-- Entries in strict order are those that the order by insertion makes. -/
theorem sorted_is {ys xs : List (V × V)} (hp : ys.Perm xs) (hk : Keyd xs) (hs : ys.Pairwise (ordP · · < 0)) : Apart xs ∧ ys = sortP xs := by
  have hky : Keyd ys := fun a h => hk a (hp.mem_iff.1 h)
  have ha : Apart xs := apart_perm hp hky (hs.imp fun h => by unfold ordP at h; omega)
  refine ⟨ha, strict_uniq (hp.trans (sortP_perm xs).symm) ?_ hs (sortP_sorted hk ha)⟩
  intro a h1 b h2 h3 h4
  have := ordP_anti (hky a h1) (hky b h2)
  omega
theorem adjacent_strict {ys : List (V × V)} (hk : Keyd ys) (h : ∀ i (h : i + 1 < ys.length), ordP ys[i] ys[i + 1] < 0) : ys.Pairwise (ordP · · < 0) := by
  rw [List.pairwise_iff_getElem]
  intro i j hi hj hij
  obtain ⟨k, rfl⟩ : ∃ k, j = i + 1 + k := ⟨j - i - 1, by omega⟩
  clear hij
  induction k with
  | zero => exact h i hj
  | succ k ih =>
    exact ordP_lt (hk _ (List.getElem_mem _)) (hk _ (List.getElem_mem _)) (hk _ (List.getElem_mem _)) (ih (by omega)) (h (i + 1 + k) (by omega))

theorem flat_length : ∀ l : List (V × V), (flat l).length = l.length * 2
  | [] => rfl
  | (a, b) :: l => by simp [flat, flat_length l]; omega
theorem flat_get : ∀ (l : List (V × V)) (i : Nat) (h : i < l.length), (flat l)[i * 2]? = some l[i].1 ∧ (flat l)[i * 2 + 1]? = some l[i].2
  | (a, b) :: l, 0, h => ⟨rfl, rfl⟩
  | (a, b) :: l, i + 1, h => by
    have := flat_get l i (by simpa using h)
    have e : (i + 1) * 2 = i * 2 + 2 := by omega
    rw [e]
    exact this
theorem pairs_length : ∀ (n : Nat) (l : List V), l.length = n * 2 → (pairs l).length = n
  | 0, [], _ => rfl
  | n + 1, a :: b :: l, h => by simp [pairs, pairs_length n l (by simp at h; omega)]
  | 0, _ :: _, h => by simp at h
  | n + 1, [], h => by simp at h
  | n + 1, [_], h => by simp at h; omega
theorem pairs_get : ∀ (n : Nat) (l : List V) (hl : l.length = n * 2) (i : Nat) (hi : i < n) (h : i < (pairs l).length), l[i * 2]? = some (pairs l)[i].1 ∧ l[i * 2 + 1]? = some (pairs l)[i].2
  | n + 1, a :: b :: l, h, 0, hi, _ => ⟨rfl, rfl⟩
  | n + 1, a :: b :: l, h, i + 1, hi, h' => by
    have := pairs_get n l (by simp at h; omega) i (by omega) (by simpa [pairs] using h')
    have e : (i + 1) * 2 = i * 2 + 2 := by omega
    rw [e]
    exact this
  | 0, _, _, i, hi, _ => by omega
  | n + 1, [], h, _, _, _ => by simp at h
  | n + 1, [_], h, _, _, _ => by simp at h; omega
end Go.Proofs.YtnalppgjbllehaaGreatDoor
