/- A map's keys rise, however they were handed in: the plain part. No condition. -/
import Derived.Test.YthpgnhmikffcpaaZL1
import Derived.Test.YthpgnhmikffcpaaZQK
namespace Go.Proofs.Ythpgnhmikffcpaa
set_option linter.unusedVariables false
set_option linter.unusedSimpArgs false
open Go.RowKit

/-- The law's keys and values. -/
def keyD (i : Nat) (x : D) : D := if i % 2 = 1 then .mk 6 ⟨#[]⟩ x.bits 0 ⟨#[]⟩ [] [] 0 else .mk 16 ⟨#[]⟩ 0 0 x.type [] [] 0
def cntD (i : Nat) : D := .mk 11 ⟨#[]⟩ (i : Int) 0 ⟨#[]⟩ [] [] 0
def fwdP (f : Nat → D) : Nat → List D
  | 0 => []
  | n + 1 => fwdP f n ++ [keyD n (f n), cntD n]
def bckP (f : Nat → D) : Nat → List D
  | 0 => []
  | n + 1 => keyD n (f n) :: cntD n :: bckP f n
def mapD (ps : List D) : D := .mk 21 ⟨#[]⟩ 0 0 ⟨#[]⟩ [] ps 0
def entF (f : Nat → D) : Nat → List (V × V)
  | 0 => []
  | n + 1 => entF f n ++ [(leafV (keyD n (f n)), leafV (cntD n))]
def entB (f : Nat → D) : Nat → List (V × V)
  | 0 => []
  | n + 1 => (leafV (keyD n (f n)), leafV (cntD n)) :: entB f n
theorem entB_rev (f : Nat → D) : ∀ n, entB f n = (entF f n).reverse
  | 0 => rfl
  | n + 1 => by simp [entB, entF, entB_rev f n]
theorem ent_perm (f : Nat → D) (n : Nat) : (entB f n).Perm (entF f n) := by rw [entB_rev]; exact List.reverse_perm _
theorem entF_length (f : Nat → D) : ∀ n, (entF f n).length = n
  | 0 => rfl
  | n + 1 => by simp [entF, entF_length f n]
theorem flat_append : ∀ a b : List (V × V), flat (a ++ b) = flat a ++ flat b
  | [], b => rfl
  | x :: a, b => by simp only [List.cons_append, flat, flat_append a b]
theorem pairs_flat : ∀ a : List (V × V), pairs (flat a) = a
  | [] => rfl
  | x :: a => by simp only [flat, pairs, pairs_flat a]
theorem keyD_kind (i : Nat) (x : D) : (keyD i x).kind = 6 ∨ (keyD i x).kind = 16 := by unfold keyD; split <;> simp [D.kind]
theorem mk_key (i : Nat) (x : D) : mkV (keyD i x) = some (leafV (keyD i x)) := mkV_leaf (by rcases keyD_kind i x with h | h <;> omega)
theorem mk_cnt (i : Nat) : mkV (cntD i) = some (leafV (cntD i)) := mkV_leaf (by show (11 : Int) < 18; decide)
theorem mkL_append : ∀ (a b : List D) {xs ys : List V}, mkL a = some xs → mkL b = some ys → mkL (a ++ b) = some (xs ++ ys)
  | [], b, xs, ys, h1, h2 => by simp only [mkL, Option.some.injEq] at h1; subst h1; exact h2
  | x :: a, b, xs, ys, h1, h2 => by
    simp only [mkL] at h1
    cases hx : mkV x with
    | none => rw [hx] at h1; cases h1
    | some y =>
      rw [hx] at h1
      cases ha : mkL a with
      | none => rw [ha] at h1; cases h1
      | some zs =>
        rw [ha] at h1
        injection h1 with h1
        subst h1
        simp only [List.cons_append, mkL, hx, mkL_append a b ha h2]
theorem mkL_fwd (f : Nat → D) : ∀ n, mkL (fwdP f n) = some (flat (entF f n))
  | 0 => rfl
  | n + 1 => by
    have := mkL_append (fwdP f n) [keyD n (f n), cntD n] (mkL_fwd f n) (show _ = some [leafV (keyD n (f n)), leafV (cntD n)] by simp only [mkL, mk_key, mk_cnt])
    simp only [fwdP, entF, flat_append, this, flat]
theorem mkL_bck (f : Nat → D) : ∀ n, mkL (bckP f n) = some (flat (entB f n))
  | 0 => rfl
  | n + 1 => by simp only [bckP, entB, mkL, mk_key, mk_cnt, mkL_bck f n, flat]
/-- What is counted of a list's parts. -/
structure PartsFine (ps : List D) (n : Nat) (T : Int) : Prop where
  size : sizeL ps = 2 * n
  text : textL ps = T
  depth : depthL ps ≤ 1
  kind : allL kindB ps = true
  form : allL formB ps = true
  keys : keysL ps = true
  len : ps.length = 2 * n
theorem leaf_props {d : D} (h : d.kind = 6 ∨ d.kind = 11 ∨ d.kind = 16) (ht : d.type = ⟨#[]⟩) : sizeD d = 1 ∧ depthD d = 1 ∧ allD kindB d = true ∧ allD formB d = true := by
  have hg : greatK d.kind = false := by simp [greatK]; omega
  have hp : partsOf d = [] := by unfold partsOf; rw [hg]; rfl
  have e18 : ¬ d.kind = 18 := by omega
  have e21 : ¬ d.kind = 21 := by omega
  have e22 : ¬ d.kind = 22 := by omega
  refine ⟨?_, ?_, ?_, ?_⟩
  · cases d with | mk k t b i x n p h' => simp only [D.kind] at hg; simp [sizeD, hg]
  · cases d with | mk k t b i x n p h' => simp only [D.kind] at hg; simp [depthD, hg]
  · rw [allD_eq, hp]; simp only [kindB, allL, Bool.and_true, decide_eq_true_eq]; omega
  · rw [allD_eq, hp]
    simp [formB, ht, typed_empty, e18, e21, e22, allL]
theorem keyD_type (i : Nat) (x : D) : (keyD i x).type = ⟨#[]⟩ := by unfold keyD; split <;> rfl
theorem key_props (i : Nat) (x : D) : sizeD (keyD i x) = 1 ∧ depthD (keyD i x) = 1 ∧ allD kindB (keyD i x) = true ∧ allD formB (keyD i x) = true := leaf_props (d := keyD i x) (by rcases keyD_kind i x with h | h <;> omega) (keyD_type i x)
theorem cnt_props (i : Nat) : sizeD (cntD i) = 1 ∧ depthD (cntD i) = 1 ∧ allD kindB (cntD i) = true ∧ allD formB (cntD i) = true := leaf_props (d := cntD i) (.inr (.inl rfl)) rfl
theorem textD_nn : ∀ d : D, 0 ≤ textD d := by
  refine D.induct_d fun d ih => ?_
  cases d with
  | mk k t b i x n p h' =>
    have hl : ∀ l : List D, (∀ y ∈ l, 0 ≤ textD y) → 0 ≤ textL l := by
      intro l
      induction l with
      | nil => intro _; simp [textL]
      | cons y l ihl => intro h; simp only [textL]; have := h y (by simp); omega
    have := hl p ih
    simp only [textD]
    split <;> (try split) <;> omega
theorem cnt_text (i : Nat) : textD (cntD i) = 0 := by
  have : ((⟨#[]⟩ : ByteArray).size : Int) = 0 := rfl
  simp [cntD, textD, greatK, this]
theorem sizeL_append : ∀ a b : List D, sizeL (a ++ b) = sizeL a + sizeL b
  | [], b => by simp [sizeL]
  | x :: a, b => by simp only [List.cons_append, sizeL, sizeL_append a b]; omega
theorem depthL_append : ∀ a b : List D, depthL (a ++ b) = max (depthL a) (depthL b)
  | [], b => by simp [depthL]
  | x :: a, b => by simp only [List.cons_append, depthL, depthL_append a b]; omega
theorem textL_append : ∀ a b : List D, textL (a ++ b) = max (textL a) (textL b)
  | [], b => by
    have : 0 ≤ textL b := by
      induction b with
      | nil => simp [textL]
      | cons y l ihl => simp only [textL]; omega
    simp only [List.nil_append, textL]; omega
  | x :: a, b => by simp only [List.cons_append, textL, textL_append a b]; omega
theorem allL_append (g : D → Bool) : ∀ a b : List D, allL g (a ++ b) = (allL g a && allL g b)
  | [], b => by simp [allL]
  | x :: a, b => by simp only [List.cons_append, allL, allL_append g a b, Bool.and_assoc]
theorem keysL_append : ∀ (n : Nat) (a b : List D), a.length = 2 * n → keysL (a ++ b) = (keysL a && keysL b)
  | 0, a, b, h => by
    obtain rfl := List.eq_nil_of_length_eq_zero (by omega : a.length = 0)
    simp [keysL]
  | n + 1, x :: y :: a, b, h => by
    simp only [List.cons_append, keysL, keysL_append n a b (by simp at h; omega), Bool.and_assoc]
theorem keyK_key (i : Nat) (x : D) : keyK (keyD i x).kind = true := by rcases keyD_kind i x with h | h <;> (rw [h]; decide)
def maxT (f : Nat → D) : Nat → Int
  | 0 => 0
  | n + 1 => max (maxT f n) (textD (keyD n (f n)))
theorem maxT_nn (f : Nat → D) : ∀ n, 0 ≤ maxT f n
  | 0 => Int.le_refl _
  | n + 1 => by have := maxT_nn f n; simp only [maxT]; omega
theorem two_fine (f : Nat → D) (n : Nat) : PartsFine [keyD n (f n), cntD n] 1 (textD (keyD n (f n))) := by
  obtain ⟨a1, a2, a3, a4⟩ := key_props n (f n)
  obtain ⟨b1, b2, b3, b4⟩ := cnt_props n
  have := textD_nn (keyD n (f n))
  exact ⟨by simp only [sizeL, a1, b1], by simp only [textL, cnt_text]; omega, by simp only [depthL, a2, b2]; omega, by simp only [allL, a3, b3]; rfl, by simp only [allL, a4, b4]; rfl, by simp only [keysL, keyK_key]; rfl, rfl⟩
theorem PartsFine.app {a b : List D} {n m : Nat} {T U : Int} (h : PartsFine a n T) (h' : PartsFine b m U) : PartsFine (a ++ b) (n + m) (max T U) :=
  ⟨by rw [sizeL_append, h.size, h'.size]; omega, by rw [textL_append, h.text, h'.text], by rw [depthL_append]; have := h.depth; have := h'.depth; omega,
    by rw [allL_append, h.kind, h'.kind]; rfl, by rw [allL_append, h.form, h'.form]; rfl, by rw [keysL_append n a b h.len, h.keys, h'.keys]; rfl, by rw [List.length_append, h.len, h'.len]; omega⟩
theorem fwd_fine (f : Nat → D) : ∀ n, PartsFine (fwdP f n) n (maxT f n)
  | 0 => ⟨rfl, rfl, Nat.zero_le _, rfl, rfl, rfl, rfl⟩
  | n + 1 => (fwd_fine f n).app (two_fine f n)
theorem bck_fine (f : Nat → D) : ∀ n, PartsFine (bckP f n) n (maxT f n)
  | 0 => ⟨rfl, rfl, Nat.zero_le _, rfl, rfl, rfl, rfl⟩
  | n + 1 => by
    have := (two_fine f n).app (bck_fine f n)
    rw [Nat.add_comm 1 n, Int.max_comm] at this
    exact this
theorem map_err {ps : List D} {n : Nat} {T : Int} (h : PartsFine ps n T) (hT : 0 ≤ T) (hn : n ≤ 12) : errD (mapD ps) = if 1024 < T then 2 else if mkV (mapD ps) = none then 5 else 0 := by
  rw [errD_is]
  have e0 : ((⟨#[]⟩ : ByteArray).size : Int) = 0 := rfl
  have q1 : sizeD (mapD ps) = 1 + 2 * n := by simp only [mapD, sizeD, greatK, h.size]; simp; omega
  have q2 : textD (mapD ps) = T := by simp only [mapD, textD, greatK, h.text]; simp; omega
  have q3 : depthD (mapD ps) ≤ 2 := by simp only [mapD, depthD, greatK]; have := h.depth; simp; omega
  have q4 : allD kindB (mapD ps) = true := by simp [mapD, allD, greatK, kindB, D.kind, h.kind]
  have q5 : allD formB (mapD ps) = true := by simp [mapD, allD, greatK, formB, D.kind, D.type, D.parts, typed_empty, h.form, h.keys, h.len]
  rw [q1, q2, q4, q5]
  simp only [Bool.true_eq_false, if_false]
  by_cases ht : 1024 < T
  · rw [if_pos ht, if_pos (by omega)]
  · rw [if_neg ht, if_neg (by omega), if_neg (by omega)]
def keyBase (i : Nat) : B := if i % 2 = 1 then ⟨6, ⟨#[]⟩, 0⟩ else ⟨16, ⟨#[]⟩, 0⟩
theorem leaf_key (i : Nat) (x : D) : leafV (keyD i x) = if i % 2 = 1 then .leaf (.int ⟨6, ⟨#[]⟩, 0⟩ (sgnN 64 x.bits)) else .leaf (.text ⟨16, ⟨#[]⟩, 0⟩ x.type) := by
  unfold keyD
  split
  · rfl
  · rfl
theorem key_is (i : Nat) (x : D) : KeyV (leafV (keyD i x)) := by
  rw [leaf_key]
  split
  · exact ⟨_, rfl, by show (2 : Int) ≤ 6 ∧ (6 : Int) ≤ 6; omega⟩
  · exact ⟨_, rfl, by show (16 : Int) = 16; rfl⟩
theorem u64_sgn {x : Int} (h : U64 x) : u64of (sgnN 64 x) = x := by
  obtain ⟨h0, h1⟩ := h
  have e : modN 64 = 18446744073709551616 := by decide
  unfold u64of sgnN
  rw [e]
  split <;> omega
theorem raw_key {i : Nat} {x : D} (h : U64 x.bits) : rawV (leafV (keyD i x)) = keyD i x := by
  rw [leaf_key]
  unfold keyD
  split
  · simp only [rawV, rawLeaf, u64_sgn h]
  · simp only [rawV, rawLeaf]
theorem key_err {i : Nat} {x : D} (h : textD (keyD i x) ≤ 1024) : errD (keyD i x) = 0 := by
  obtain ⟨a1, a2, a3, a4⟩ := key_props i x
  rw [errD_is, a1, a2, a3, a4, mk_key]
  rw [if_neg (by omega)]
  simp
theorem entF_keyd (f : Nat → D) : ∀ n, Keyd (entF f n)
  | 0 => fun a h => by cases h
  | n + 1 => fun a h => by
    rcases List.mem_append.1 h with h | h
    · exact entF_keyd f n a h
    · simp at h; subst h; exact key_is _ _
theorem entF_mem (f : Nat → D) : ∀ n a, a ∈ entF f n → ∃ i, i < n ∧ a = (leafV (keyD i (f i)), leafV (cntD i))
  | 0, a, h => by cases h
  | n + 1, a, h => by
    rcases List.mem_append.1 h with h | h
    · obtain ⟨i, hi, e⟩ := entF_mem f n a h
      exact ⟨i, by omega, e⟩
    · simp at h; exact ⟨n, by omega, h⟩
theorem maxT_le (f : Nat → D) : ∀ n i, i < n → textD (keyD i (f i)) ≤ maxT f n
  | n + 1, i, h => by
    simp only [maxT]
    by_cases e : i = n
    · subst e; omega
    · have := maxT_le f n i (by omega); omega
theorem map_of {ps : List D} {es : List (V × V)} (h : mkL ps = some (flat es)) : mkV (mapD ps) = if Apart es then some (.great .map ⟨21, ⟨#[]⟩, 0⟩ 0 [] (flat (sortP es))) else none := by
  rw [mkV_great (by show (18 : Int) ≤ 21; decide)]
  show (mkL ps).bind _ = _
  rw [h]
  show greatV (mapD ps) (flat es) = _
  unfold greatV
  rw [if_neg (by show ¬ (21 : Int) = 18; decide), if_pos (by rfl), pairs_flat]
  rfl
theorem map_fwd (f : Nat → D) (n : Nat) : mkV (mapD (fwdP f n)) = if Apart (entF f n) then some (.great .map ⟨21, ⟨#[]⟩, 0⟩ 0 [] (flat (sortP (entF f n)))) else none := map_of (mkL_fwd f n)
theorem map_bck (f : Nat → D) (n : Nat) : mkV (mapD (bckP f n)) = mkV (mapD (fwdP f n)) := by
  rw [map_fwd, map_of (mkL_bck f n)]
  have hk := entF_keyd f n
  have hp := ent_perm f n
  have hkB : Keyd (entB f n) := fun a h => hk a (hp.mem_iff.1 h)
  by_cases ha : Apart (entF f n)
  · have hb := apart_perm hp.symm hk ha
    rw [if_pos ha, if_pos hb]
    have hs := sortP_sorted hkB hb
    have := (sorted_is ((sortP_perm _).trans hp) hk hs).2
    rw [this]
  · rw [if_neg ha, if_neg (fun hb => ha (apart_perm hp hkB hb))]
theorem bytes_vals : ∀ a b : List UInt8, Lib.compareBytes a b = -1 ∨ Lib.compareBytes a b = 0 ∨ Lib.compareBytes a b = 1
  | [], [] => .inr (.inl rfl)
  | [], _ :: _ => .inl rfl
  | _ :: _, [] => .inr (.inr rfl)
  | a :: l, b :: m => by
    unfold Lib.compareBytes
    split
    · exact .inl rfl
    · split
      · exact .inr (.inr rfl)
      · exact bytes_vals l m
theorem name_vals {c : Int} {a b : V} (h : c = -1 ∨ c = 0 ∨ c = 1) : andThenName c a b = -1 ∨ andThenName c a b = 0 ∨ andThenName c a b = 1 := by
  unfold andThenName
  split
  · exact bytes_vals _ _
  · exact h
theorem cmpI_vals (x y : Int) : cmpI x y = -1 ∨ cmpI x y = 0 ∨ cmpI x y = 1 := by
  unfold cmpI
  split
  · exact .inl rfl
  · split
    · exact .inr (.inr rfl)
    · exact .inr (.inl rfl)
theorem ordV_vals (a b : V) : ordV a b = -1 ∨ ordV a b = 0 ∨ ordV a b = 1 := by
  unfold ordV
  split
  · exact cmpI_vals _ _
  · split
    · refine name_vals ?_
      split
      · exact .inr (.inl rfl)
      · split
        · exact .inl rfl
        · exact .inr (.inr rfl)
    · exact name_vals (cmpI_vals _ _)
    · exact name_vals (cmpI_vals _ _)
    · exact name_vals (bytes_vals _ _)
    · exact .inr (.inl rfl)
/-- The keys of the built map rise. -/
theorem maps_rise (f : Nat → D) (n : Nat) (hu : ∀ i, i < n → U64 (f i).bits) (hA : Apart (entF f n)) :
    (sortP (entF f n)).length = n ∧ ∀ k (h : k + 1 < (sortP (entF f n)).length), ∃ i j, i < n ∧ j < n ∧ (sortP (entF f n))[k].1 = leafV (keyD i (f i)) ∧ (sortP (entF f n))[k + 1].1 = leafV (keyD j (f j)) ∧
      rawV (sortP (entF f n))[k].1 = keyD i (f i) ∧ rawV (sortP (entF f n))[k + 1].1 = keyD j (f j) ∧ ordV (leafV (keyD i (f i))) (leafV (keyD j (f j))) = -1 := by
  have hs := sortP_sorted (entF_keyd f n) hA
  have hp := sortP_perm (entF f n)
  refine ⟨by rw [hp.length_eq, entF_length], fun k h => ?_⟩
  obtain ⟨i, hi, e1⟩ := entF_mem f n _ (hp.mem_iff.1 (List.getElem_mem (by omega : k < (sortP (entF f n)).length)))
  obtain ⟨j, hj, e2⟩ := entF_mem f n _ (hp.mem_iff.1 (List.getElem_mem h))
  have ho := List.pairwise_iff_getElem.1 hs k (k + 1) (by omega) h (by omega)
  unfold ordP at ho
  rw [e1, e2] at ho
  refine ⟨i, j, hi, hj, by rw [e1], by rw [e2], by rw [e1]; exact raw_key (hu i hi), by rw [e2]; exact raw_key (hu j hj), ?_⟩
  have := ordV_vals (leafV (keyD i (f i))) (leafV (keyD j (f j)))
  simp only at ho
  omega
theorem rawL_getQ : ∀ (l : List V) (i : Nat), (rawL l)[i]? = l[i]?.map rawV
  | [], i => by simp [rawL]
  | x :: l, 0 => by simp [rawL]
  | x :: l, i + 1 => by simp [rawL, rawL_getQ l i]
/-- The parts of the built map, read back. -/
theorem raw_parts (s : List (V × V)) (k : Nat) (h : k < s.length) : (rawL (flat s))[k * 2]? = some (rawV s[k].1) := by
  rw [rawL_getQ, (flat_get s k h).1]; rfl
end Go.Proofs.Ythpgnhmikffcpaa

/- The program's Size and Deep; how great and how deep a built value is. Condition: the argument is a value, not too great. -/
namespace Go.Proofs.Ythpgnhmikffcpaa
set_option linter.unusedVariables false
set_option linter.unusedSimpArgs false
open Go.RowKit

mutual
def sizeV : V → Nat
  | .great _ _ _ _ l => sizeVL l + 1
  | _ => 1
def sizeVL : List V → Nat
  | [] => 0
  | x :: l => sizeV x + sizeVL l
end
mutual
def deepV : V → Nat
  | .great _ _ _ _ l => deepVL l + 1
  | _ => 1
def deepVL : List V → Nat
  | [] => 0
  | x :: l => max (deepV x) (deepVL l)
end
theorem sizeV_eq (x : V) : sizeV x = sizeVL (kids x) + 1 := by cases x <;> simp [sizeV, kids, sizeVL]
theorem deepV_eq (x : V) : deepV x = deepVL (kids x) + 1 := by cases x <;> simp [deepV, kids, deepVL]
theorem sizeV_pos (x : V) : 1 ≤ sizeV x := by rw [sizeV_eq]; omega
mutual
theorem deep_size : ∀ x, deepV x ≤ sizeV x
  | .nil => by simp [deepV, sizeV]
  | .leaf _ => by simp [deepV, sizeV]
  | .great _ _ _ _ l => by have := deep_sizeL l; simp only [deepV, sizeV]; omega
theorem deep_sizeL : ∀ l, deepVL l ≤ sizeVL l
  | [] => by simp [deepVL, sizeVL]
  | x :: l => by have := deep_size x; have := deep_sizeL l; simp only [deepVL, sizeVL]; omega
end
mutual
theorem whole_raw : ∀ x, wholeD (rawV x) = sizeV x
  | .nil => by simp [rawV, zeroD, wholeD, wholeL, sizeV]
  | .leaf l => by cases l <;> simp [rawV, rawLeaf, wholeD, wholeL, sizeV]
  | .great _ _ _ _ l => by simp only [rawV, wholeD, sizeV, whole_rawL l]
theorem whole_rawL : ∀ l, wholeL (rawL l) = sizeVL l
  | [] => by simp [rawL, wholeL, sizeVL]
  | x :: l => by simp only [rawL, wholeL, sizeVL, whole_raw x, whole_rawL l]
end
mutual
theorem deep_raw : ∀ x, deepD (rawV x) = deepV x
  | .nil => by simp [rawV, zeroD, deepD, deepL, deepV]
  | .leaf l => by cases l <;> simp [rawV, rawLeaf, deepD, deepL, deepV]
  | .great _ _ _ _ l => by simp only [rawV, deepD, deepV, deep_rawL l]
theorem deep_rawL : ∀ l, deepL (rawL l) = deepVL l
  | [] => by simp [rawL, deepL, deepVL]
  | x :: l => by simp only [rawL, deepL, deepVL, deep_raw x, deep_rawL l]
end
theorem sizeVL_append : ∀ a b : List V, sizeVL (a ++ b) = sizeVL a + sizeVL b
  | [], b => by simp [sizeVL]
  | x :: a, b => by simp only [List.cons_append, sizeVL, sizeVL_append a b]; omega
theorem sizeVL_perm {a b : List V} (h : a.Perm b) : sizeVL a = sizeVL b := by
  induction h with
  | nil => rfl
  | cons x _ ih => simp only [sizeVL, ih]
  | swap x y l => simp only [sizeVL]; omega
  | trans _ _ h1 h2 => rw [h1, h2]
theorem flat_perm {a b : List (V × V)} (h : a.Perm b) : (flat a).Perm (flat b) := by
  induction h with
  | nil => exact .refl _
  | cons x _ ih => obtain ⟨x, y⟩ := x; exact (ih.cons y).cons x
  | swap x y l =>
    obtain ⟨a, b⟩ := x
    obtain ⟨c, d⟩ := y
    simp only [flat]
    have h1 : ([c, d] ++ ([a, b] ++ flat l)).Perm ([a, b] ++ ([c, d] ++ flat l)) := by
      rw [← List.append_assoc, ← List.append_assoc]
      exact List.Perm.append_right _ List.perm_append_comm
    exact h1
  | trans _ _ h1 h2 => exact h1.trans h2
theorem size_leaf (d : D) : sizeV (leafV d) = 1 := by
  unfold leafV
  repeat' split
  all_goals rfl
theorem mkL_size : ∀ (l : List D) {ys : List V}, mkL l = some ys → (∀ x ∈ l, ∀ y, mkV x = some y → sizeV y ≤ sizeD x) → sizeVL ys ≤ sizeL l
  | [], ys, h, _ => by simp only [mkL, Option.some.injEq] at h; subst h; simp [sizeVL]
  | x :: l, ys, h, hx => by
    unfold mkL at h
    cases ha : mkV x with
    | none => rw [ha] at h; cases h
    | some b =>
      rw [ha] at h
      cases hl : mkL l with
      | none => rw [hl] at h; cases h
      | some bs =>
        rw [hl] at h
        injection h with h
        subst h
        have h1 := hx x (by simp) b ha
        have h2 := mkL_size l hl (fun y hy => hx y (by simp [hy]))
        simp only [sizeVL, sizeL]
        omega
/-- A built value is no greater than its descriptor. -/
theorem mk_size : ∀ d : D, allD kindB d = true → allD formB d = true → ∀ x, mkV d = some x → sizeV x ≤ sizeD d := by
  refine D.induct_d fun d ih hk hf x hx => ?_
  rw [allD_eq, Bool.and_eq_true, allL_iff] at hk hf
  have hk1 : 0 ≤ d.kind ∧ d.kind ≤ 22 := by simpa [kindB] using hk.1
  by_cases h18 : d.kind < 18
  · rw [mkV_leaf h18] at hx
    injection hx with hx
    rw [← hx, size_leaf]
    exact sizeD_pos d
  · have hp : partsOf d = d.parts := by unfold partsOf; rw [show greatK d.kind = true by simp [greatK]; omega]; rfl
    rw [hp] at hk hf
    rw [sizeD_eq, hp]
    cases hm : mkL d.parts with
    | none => rw [mkV_great (by omega), hm] at hx; cases hx
    | some l =>
      have hl := mkL_size d.parts hm fun p hpm y hy => ih p hpm (hk.2 p hpm) (hf.2 p hpm) y hy
      have hlen := mkL_length _ hm
      rw [mkV_great (by omega), hm, Option.bind_some] at hx
      unfold greatV at hx
      split at hx
      · split at hx
        · injection hx with hx; subst hx; simp only [sizeV]; omega
        · cases hx
      · rename_i k18
        split at hx
        · rename_i k21
          split at hx
          · injection hx with hx
            subst hx
            have hf1 := hf.1
            unfold formB at hf1
            rw [if_neg k18, if_pos k21] at hf1
            simp only [Bool.and_eq_true, decide_eq_true_eq] at hf1
            have hfl := flat_pairs (l.length / 2) l (by omega)
            have := sizeVL_perm (flat_perm (sortP_perm (pairs l)))
            rw [hfl] at this
            simp only [sizeV, this]
            omega
          · cases hx
        · split at hx
          · injection hx with hx; subst hx; simp only [sizeV]; omega
          · injection hx with hx; subst hx; simp only [sizeV]; omega
theorem kid_size {x : V} {l : List V} (h : x ∈ l) : sizeV x ≤ sizeVL l := by
  induction l with
  | nil => cases h
  | cons y l ih =>
    rw [sizeVL]
    rcases List.mem_cons.1 h with rfl | h
    · omega
    · have := ih h; omega
theorem induct_k {P : V → Prop} (h : ∀ x, (∀ y ∈ kids x, P y) → P x) : ∀ x, P x :=
  V.induct_v (h _ fun y hy => by cases hy) (fun l => h _ fun y hy => by cases hy) (fun t b a n l hl => h _ hl)
set_option maxHeartbeats 2000000 in
theorem size_any : ∀ (x : V), sizeV x ≤ 1000 → ∀ (w : World) (v : Value), IsV w v x → Calls Try.prog 26 #[v] w fun e w' => e = .returned (.int .i64 (sizeV x : Int)) ∧ Below w.heap.size w w' := by
  refine induct_k fun x ih hs w v h => ?_
  have IH := Lib.hid ih
  have HV := Lib.hid h
  have HE := Lib.hid (sizeV_eq x)
  have hkl : sizeVL (kids x) ≤ 999 := by have := HE.out; omega
  clear ih h
  go_enter Try.func26, Try.ntmps26
  go_wp2_with fail
  refine (inner_any (Below.refl _ _) HV.out).mono ?_
  rintro e w1 ⟨hB1, al, cl, bb, oo, vs, rfl, hK⟩
  have HB1 := Lib.hid hB1
  have HK := Lib.hid hK
  clear hB1 hK
  obtain ⟨ks, hks⟩ : ∃ ks, kids x = ks := ⟨_, rfl⟩
  rw [hks] at HK HE hkl IH ⊢
  clear hks
  have hll : ks.length < 1000 := HK.out.len
  go_wp2_with fail
  go_loopw [3, 5, 9] (fun m _ k wr => ∃ (i M : Nat), i ≤ ks.length ∧ m = .int .i64 (M : Int) ∧ k = .int .i64 (i : Int) ∧ M + sizeVL (ks.drop i) ≤ 1000 ∧ Hid (sizeVL ks + 1 = M + sizeVL (ks.drop i)) ∧ Hid (Below w1.heap.size w1 wr)) (fun _ _ k _ => ks.length - (intOf k).toNat)
  case atStart => exact ⟨0, 1, Nat.zero_le _, rfl, rfl, by rw [List.drop_zero]; omega, by show _ = _; rw [List.drop_zero]; omega, Below.refl _ _⟩
  case round =>
    obtain ⟨i, M, hi, rfl, rfl, hM, HRec, HB⟩ := hrel
    by_cases hin : i < ks.length
    · obtain rfl := HK.out.adr (by omega)
      have hc := cell_below HB.out (HK.out.cell i hin)
      have hv := HK.out.val i hin
      obtain ⟨s, z, e⟩ := HK.out.ifc i hin
      rw [e] at hc hv
      have hrc := HRec.out
      rw [drop_cons hin, sizeVL] at hrc hM
      have HRec2 := Lib.hid hrc
      have HIH := Lib.hid (IH.out ks[i] (List.getElem_mem _) (by omega))
      have HVV := Lib.hid hv
      clear hrc e hv
      obtain ⟨y, hy⟩ : ∃ y, ks[i] = y := ⟨_, rfl⟩
      rw [hy] at HIH HRec2 hM HVV
      clear hy
      go_wp2_with fail
      refine (HIH.out _ _ (HVV.out.later (HB1.out.next HB.out))).mono ?_
      rintro e w3 ⟨rfl, hB3⟩
      have HB3 := Lib.hid (HB.out.next hB3)
      obtain ⟨q, hq⟩ : ∃ q, sizeV y = q := ⟨_, rfl⟩
      rw [hq] at HRec2 hM ⊢
      clear hq hB3 hc HIH
      go_wp2_with fail
      go_roundw
      case rel => exact ⟨i + 1, M + q, by omega, by go_num, by go_num, by omega, by show _ = _; rw [HRec2.out]; omega, HB3.out⟩
      case measure => simp [intOf]; omega
    · go_wp2_with fail
      go_ret
      have h3 := HRec.out
      rw [List.drop_of_length_le (by omega), sizeVL] at h3
      refine ⟨?_, HB1.out.next HB.out⟩
      have := HE.out
      rw [show sizeV x = M by omega]
      rfl
set_option maxHeartbeats 2000000 in
theorem deep_any : ∀ (x : V), deepV x ≤ 1000 → ∀ (w : World) (v : Value), IsV w v x → Calls Try.prog 30 #[v] w fun e w' => e = .returned (.int .i64 (deepV x : Int)) ∧ Below w.heap.size w w' := by
  refine induct_k fun x ih hs w v h => ?_
  have IH := Lib.hid ih
  have HV := Lib.hid h
  have HE := Lib.hid (deepV_eq x)
  have hkl : deepVL (kids x) ≤ 999 := by have := HE.out; omega
  clear ih h
  go_enter Try.func30, Try.ntmps30
  go_wp2_with fail
  refine (inner_any (Below.refl _ _) HV.out).mono ?_
  rintro e w1 ⟨hB1, al, cl, bb, oo, vs, rfl, hK⟩
  have HB1 := Lib.hid hB1
  have HK := Lib.hid hK
  clear hB1 hK
  obtain ⟨ks, hks⟩ : ∃ ks, kids x = ks := ⟨_, rfl⟩
  rw [hks] at HK HE hkl IH ⊢
  clear hks
  have hll : ks.length < 1000 := HK.out.len
  go_wp2_with fail
  go_loopw [3, 5, 9] (fun m _ k wr => ∃ (i M : Nat), i ≤ ks.length ∧ m = .int .i64 (M : Int) ∧ k = .int .i64 (i : Int) ∧ M ≤ 999 ∧ Hid (deepVL ks = max M (deepVL (ks.drop i))) ∧ Hid (Below w1.heap.size w1 wr)) (fun _ _ k _ => ks.length - (intOf k).toNat)
  case atStart => exact ⟨0, 0, Nat.zero_le _, rfl, rfl, by omega, by show _ = _; rw [List.drop_zero]; omega, Below.refl _ _⟩
  case round =>
    obtain ⟨i, M, hi, rfl, rfl, hM, HRec, HB⟩ := hrel
    by_cases hin : i < ks.length
    · obtain rfl := HK.out.adr (by omega)
      have hc := cell_below HB.out (HK.out.cell i hin)
      have hv := HK.out.val i hin
      obtain ⟨s, z, e⟩ := HK.out.ifc i hin
      rw [e] at hc hv
      have hrc := HRec.out
      rw [drop_cons hin, deepVL] at hrc
      have hdy : deepV ks[i] ≤ 999 := by omega
      have HRec2 := Lib.hid hrc
      have HIH := Lib.hid (IH.out ks[i] (List.getElem_mem _) (by omega))
      have HVV := Lib.hid hv
      clear hrc e hv
      obtain ⟨y, hy⟩ : ∃ y, ks[i] = y := ⟨_, rfl⟩
      rw [hy] at HIH HRec2 hdy HVV
      clear hy
      go_wp2_with fail
      refine (HIH.out _ _ (HVV.out.later (HB1.out.next HB.out))).mono ?_
      rintro e w3 ⟨rfl, hB3⟩
      have HB3 := Lib.hid (HB.out.next hB3)
      obtain ⟨q, hq⟩ : ∃ q, deepV y = q := ⟨_, rfl⟩
      rw [hq] at HRec2 hdy ⊢
      clear hq hB3 hc HIH
      by_cases hxq : M < q
      · have hxq' : (M : Int) < (q : Int) := by omega
        go_wp2_with fail
        go_roundw
        case rel => exact ⟨i + 1, q, by omega, rfl, by go_num, by omega, by show _ = _; rw [HRec2.out]; omega, HB3.out⟩
        case measure => simp [intOf]; omega
      · have hxq' : ¬ (M : Int) < (q : Int) := by omega
        go_wp2_with fail
        go_roundw
        case rel => exact ⟨i + 1, M, by omega, rfl, by go_num, by omega, by show _ = _; rw [HRec2.out]; omega, HB3.out⟩
        case measure => simp [intOf]; omega
    · go_wp2_with fail
      go_ret
      have h3 := HRec.out
      rw [List.drop_of_length_le (by omega), deepVL] at h3
      refine ⟨?_, HB1.out.next HB.out⟩
      have := HE.out
      rw [show deepV x = M + 1 by omega]
      rfl
end Go.Proofs.Ythpgnhmikffcpaa

/- A value's descriptor is built as the same value: plain part. No condition. -/
namespace Go.Proofs.Ythpgnhmikffcpaa
set_option linter.unusedVariables false
set_option linter.unusedSimpArgs false
open Go.RowKit

theorem sgn_again (n : Int) (b : Int) : sgnN n (u64of (sgnN n b)) = sgnN n b := by
  rcases modN_cases n with h | h | h | h <;> (unfold u64of sgnN; rw [h]; split <;> split <;> omega)
theorem uns_again (n : Int) (b : Int) : unsN n (unsN n b) = unsN n b := by
  rcases modN_cases n with h | h | h | h <;> (unfold unsN; rw [h]; omega)
theorem leafV_mk (k : Int) (t : ByteArray) (b i : Int) (x : ByteArray) (n : List ByteArray) (p : List D) (h : Int) : leafV (.mk k t b i x n p h) =
  if k = 0 then .nil else if k = 1 then .leaf (.bool ⟨k, t, h⟩ (b % 2 == 1))
  else if k ≤ 6 then .leaf (.int ⟨k, t, h⟩ (sgnN (widthK k) b)) else if k ≤ 11 then .leaf (.uint ⟨k, t, h⟩ (unsN (widthK k) b))
  else if k = 12 then .leaf (.float ⟨k, t, h⟩ (b % 4294967296) 32) else if k = 13 then .leaf (.float ⟨k, t, h⟩ b 64)
  else if k = 14 then .leaf (.cplx ⟨k, t, h⟩ (b % 4294967296) (i % 4294967296) 64) else if k = 15 then .leaf (.cplx ⟨k, t, h⟩ b i 128)
  else if k = 16 then .leaf (.text ⟨k, t, h⟩ x) else .leaf (.bytes ⟨k, t, h⟩ x) := rfl
theorem leaf_again {d : D} (h0 : 0 ≤ d.kind) (h17 : d.kind ≤ 17) : leafV (rawV (leafV d)) = leafV d ∧ (rawV (leafV d)).kind = d.kind ∧ (d.kind ≠ 0 → (rawV (leafV d)).type = d.type) ∧ ((rawV (leafV d)).text = d.text ∨ (rawV (leafV d)).text = ⟨#[]⟩) := by
  cases d with
  | mk k t b i x n p h =>
    simp only [D.kind] at h0 h17
    show leafV (rawV (leafV (.mk k t b i x n p h))) = leafV (.mk k t b i x n p h) ∧ (rawV (leafV (.mk k t b i x n p h))).kind = k ∧ (k ≠ 0 → (rawV (leafV (.mk k t b i x n p h))).type = t) ∧ ((rawV (leafV (.mk k t b i x n p h))).text = x ∨ (rawV (leafV (.mk k t b i x n p h))).text = ⟨#[]⟩)
    rw [leafV_mk]
    by_cases k0 : k = 0
    · rw [if_pos k0]
      exact ⟨rfl, k0.symm, fun h => absurd k0 h, .inr rfl⟩
    rw [if_neg k0]
    by_cases k1 : k = 1
    · rw [if_pos k1]
      refine ⟨?_, rfl, fun _ => rfl, .inr rfl⟩
      simp only [rawV, rawLeaf, leafV_mk]
      rw [if_neg k0, if_pos k1]
      by_cases hb : (b % 2 == 1) = true
      · rw [hb]; rfl
      · rw [show (b % 2 == 1) = false by simpa using hb]; rfl
    rw [if_neg k1]
    by_cases k6 : k ≤ 6
    · rw [if_pos k6]
      refine ⟨?_, rfl, fun _ => rfl, .inr rfl⟩
      simp only [rawV, rawLeaf, leafV_mk]
      rw [if_neg k0, if_neg k1, if_pos k6, sgn_again]
    rw [if_neg k6]
    by_cases k11 : k ≤ 11
    · rw [if_pos k11]
      refine ⟨?_, rfl, fun _ => rfl, .inr rfl⟩
      simp only [rawV, rawLeaf, leafV_mk]
      rw [if_neg k0, if_neg k1, if_neg k6, if_pos k11, uns_again]
    rw [if_neg k11]
    by_cases k12 : k = 12
    · rw [if_pos k12]
      refine ⟨?_, rfl, fun _ => rfl, .inr rfl⟩
      simp only [rawV, rawLeaf, leafV_mk]
      rw [if_neg k0, if_neg k1, if_neg k6, if_neg k11, if_pos k12, show b % 4294967296 % 4294967296 = b % 4294967296 by omega]
    rw [if_neg k12]
    by_cases k13 : k = 13
    · rw [if_pos k13]
      refine ⟨?_, rfl, fun _ => rfl, .inr rfl⟩
      simp only [rawV, rawLeaf, leafV_mk]
      rw [if_neg k0, if_neg k1, if_neg k6, if_neg k11, if_neg k12, if_pos k13]
    rw [if_neg k13]
    by_cases k14 : k = 14
    · rw [if_pos k14]
      refine ⟨?_, rfl, fun _ => rfl, .inr rfl⟩
      simp only [rawV, rawLeaf, leafV_mk]
      rw [if_neg k0, if_neg k1, if_neg k6, if_neg k11, if_neg k12, if_neg k13, if_pos k14, show b % 4294967296 % 4294967296 = b % 4294967296 by omega, show i % 4294967296 % 4294967296 = i % 4294967296 by omega]
    rw [if_neg k14]
    by_cases k15 : k = 15
    · rw [if_pos k15]
      refine ⟨?_, rfl, fun _ => rfl, .inr rfl⟩
      simp only [rawV, rawLeaf, leafV_mk]
      rw [if_neg k0, if_neg k1, if_neg k6, if_neg k11, if_neg k12, if_neg k13, if_neg k14, if_pos k15]
    rw [if_neg k15]
    by_cases k16 : k = 16
    · rw [if_pos k16]
      refine ⟨?_, rfl, fun _ => rfl, .inl rfl⟩
      simp only [rawV, rawLeaf, leafV_mk]
      rw [if_neg k0, if_neg k1, if_neg k6, if_neg k11, if_neg k12, if_neg k13, if_neg k14, if_neg k15, if_pos k16]
    · rw [if_neg k16]
      refine ⟨?_, rfl, fun _ => rfl, .inl rfl⟩
      simp only [rawV, rawLeaf, leafV_mk]
      rw [if_neg k0, if_neg k1, if_neg k6, if_neg k11, if_neg k12, if_neg k13, if_neg k14, if_neg k15, if_neg k16]
/-- What is kept of a descriptor that was built and read. -/
structure Kept (d : D) (x : V) : Prop where
  mkx : mkV (rawV x) = some x
  size : sizeD (rawV x) ≤ sizeD d
  text : textD d ≤ 1024 → textD (rawV x) ≤ 1024
  depth : ∀ n, depthD d ≤ n → depthD (rawV x) ≤ n
  kind : allD kindB (rawV x) = true
  form : allD formB (rawV x) = true
theorem kept_leaf {d : D} (h0 : 0 ≤ d.kind) (h17 : d.kind ≤ 17) (hf : formB d = true) : Kept d (leafV d) := by
  obtain ⟨h1, h2, h3, h4⟩ := leaf_again h0 h17
  have hg : greatK (rawV (leafV d)).kind = false := by rw [h2]; simp [greatK]; omega
  have hp : partsOf (rawV (leafV d)) = [] := by unfold partsOf; rw [hg]; rfl
  have hty : typedB (rawV (leafV d)).type = true ∨ d.kind = 0 := by
    by_cases e : d.kind = 0
    · exact .inr e
    · left
      rw [h3 e]
      unfold formB at hf
      simp only [Bool.and_eq_true, Bool.or_eq_true, decide_eq_true_eq] at hf
      rcases hf.1 with h | h
      · exact absurd h e
      · exact h
  refine ⟨by rw [mkV_leaf (by omega), h1], by rw [sizeD_eq, hp]; have := sizeD_pos d; simp only [sizeL]; omega, fun ht => ?_, fun n hn => ?_, ?_, ?_⟩
  · rw [textD_eq] at ht ⊢
    rw [hp, h2]
    rcases h4 with h4 | h4
    · rw [h4]
      have := textL_nonneg (partsOf d)
      simp only [textL]
      omega
    · rw [h4]
      have e0 : ((⟨#[]⟩ : ByteArray).size : Int) = 0 := rfl
      simp only [textL, e0]
      split <;> omega
  · rw [depthD_eq, hp]
    rw [depthD_eq] at hn
    simp only [depthL]
    omega
  · rw [allD_eq, hp]
    simp only [allL, Bool.and_true, kindB, h2, decide_eq_true_eq]
    omega
  · rw [allD_eq, hp]
    simp only [allL, Bool.and_true]
    unfold formB
    rw [h2, if_neg (by omega), if_neg (by omega), if_neg (by omega)]
    rcases hty with h | h
    · rw [h]; simp
    · rw [h]; simp

/-- What is kept of one part. -/
def KeptE (ps : List D) (y : V) : Prop := mkV (rawV y) = some y ∧ (textL ps ≤ 1024 → textD (rawV y) ≤ 1024) ∧ (∀ n, depthL ps ≤ n → depthD (rawV y) ≤ n) ∧ allD kindB (rawV y) = true ∧ allD formB (rawV y) = true
theorem kept_list : ∀ (ps : List D) {l : List V}, mkL ps = some l → (∀ p ∈ ps, ∀ x, mkV p = some x → Kept p x) → sizeL (rawL l) ≤ sizeL ps ∧ ∀ y ∈ l, KeptE ps y
  | [], l, h, _ => by
    simp only [mkL, Option.some.injEq] at h
    subst h
    exact ⟨Nat.le_refl _, fun y hy => by cases hy⟩
  | p :: ps, l, h, hk => by
    unfold mkL at h
    cases ha : mkV p with
    | none => rw [ha] at h; cases h
    | some b =>
      rw [ha] at h
      cases hl : mkL ps with
      | none => rw [hl] at h; cases h
      | some bs =>
        rw [hl] at h
        injection h with h
        subst h
        have kb := hk p (by simp) b ha
        obtain ⟨h1, h2⟩ := kept_list ps hl fun q hq => hk q (by simp [hq])
        refine ⟨?_, ?_⟩
        · have := kb.size
          simp only [rawL, sizeL]
          omega
        · intro y hy
          rcases List.mem_cons.1 hy with rfl | hy
          · refine ⟨kb.mkx, fun ht => kb.text ?_, fun n hn => kb.depth n ?_, kb.kind, kb.form⟩
            · simp only [textL] at ht; omega
            · simp only [depthL] at hn; omega
          · obtain ⟨e1, e2, e3, e4, e5⟩ := h2 y hy
            refine ⟨e1, fun ht => e2 ?_, fun n hn => e3 n ?_, e4, e5⟩
            · simp only [textL] at ht; omega
            · simp only [depthL] at hn; omega
theorem kept_join (ps : List D) : ∀ s : List V, (∀ y ∈ s, KeptE ps y) → mkL (rawL s) = some s ∧ (textL ps ≤ 1024 → textL (rawL s) ≤ 1024) ∧ (∀ n, depthL ps ≤ n → depthL (rawL s) ≤ n) ∧ allL kindB (rawL s) = true ∧ allL formB (rawL s) = true
  | [], _ => ⟨rfl, fun _ => by simp only [rawL, textL]; omega, fun n _ => by simp only [rawL, depthL]; omega, rfl, rfl⟩
  | y :: s, h => by
    obtain ⟨e1, e2, e3, e4, e5⟩ := h y (by simp)
    obtain ⟨f1, f2, f3, f4, f5⟩ := kept_join ps s fun z hz => h z (by simp [hz])
    refine ⟨?_, fun ht => ?_, fun n hn => ?_, ?_, ?_⟩
    · simp only [rawL, mkL, e1, f1]
    · have := e2 ht
      have := f2 ht
      simp only [rawL, textL]
      omega
    · have := e3 n hn
      have := f3 n hn
      simp only [rawL, depthL]
      omega
    · simp only [rawL, allL, e4, f4, Bool.and_self]
    · simp only [rawL, allL, e5, f5, Bool.and_self]
theorem sizeRL_perm {a b : List V} (h : a.Perm b) : sizeL (rawL a) = sizeL (rawL b) := by
  induction h with
  | nil => rfl
  | cons x _ ih => simp only [rawL, sizeL, ih]
  | swap x y l => simp only [rawL, sizeL]; omega
  | trans _ _ h1 h2 => rw [h1, h2]
theorem keys_flat : ∀ s : List (V × V), (∀ a ∈ s, keyK (rawV a.1).kind = true) → keysL (rawL (flat s)) = true
  | [], _ => rfl
  | a :: s, h => by
    simp only [flat, rawL, keysL, h a (by simp), Bool.true_and]
    exact keys_flat s fun b hb => h b (by simp [hb])
theorem flat_len : ∀ s : List (V × V), (flat s).length = 2 * s.length
  | [] => rfl
  | a :: s => by simp only [flat, List.length_cons, flat_len s]; omega
theorem key_mk_kind {ps : List D} {l : List V} (hm : mkL ps = some l) (hk : keysL ps = true) (h2 : ps.length % 2 = 0) : ∀ a ∈ pairs l, keyK (rawV a.1).kind = true := by
  intro a ha
  have h1 : a.1 ∈ (pairs l).map (·.1) := List.mem_map.2 ⟨a, ha, rfl⟩
  rw [pairs_keys l (by rw [mkL_length _ hm]; exact h2), evens_mk ps hm hk] at h1
  obtain ⟨x, hx, e⟩ := List.mem_map.1 h1
  rw [keys_evens, List.all_eq_true] at hk
  have h3 := hk x hx
  have h4 : (1 ≤ x.kind ∧ x.kind ≤ 11) ∨ x.kind = 16 := by simpa [keyK] using h3
  rw [← e, (leaf_again (d := x) (by omega) (by omega)).2.1]
  exact h3
/-- The great kinds: the parts are kept, the rest is the descriptor's. -/
theorem kept_great {d : D} {g : Tag} {n : Int} {nm : List ByteArray} {s : List V} (hg : 18 ≤ d.kind) (hg' : d.kind ≤ 22) (hf : (decide (d.kind = 0) || typedB d.type) = true)
    (hs : ∀ y ∈ s, KeptE d.parts y) (hsz : sizeL (rawL s) ≤ sizeL d.parts) (hv : greatV (rawV (.great g d.base n nm s)) s = some (.great g d.base n nm s))
    (hF : (if d.kind = 18 then decide (nm.length = (rawL s).length) && nm.all namedB else if d.kind = 21 then keysL (rawL s) && decide ((rawL s).length % 2 = 0) else if d.kind = 22 then decide ((rawL s).length ≤ 1) else true) = true) :
    Kept d (.great g d.base n nm s) := by
  obtain ⟨j1, j2, j3, j4, j5⟩ := kept_join d.parts s hs
  have hgk : greatK d.kind = true := by simp [greatK]; omega
  have hp : partsOf d = d.parts := by unfold partsOf; rw [hgk]; rfl
  have hp' : partsOf (rawV (.great g d.base n nm s)) = rawL s := by unfold partsOf; rw [show greatK (rawV (.great g d.base n nm s)).kind = true from hgk]; rfl
  refine ⟨?_, ?_, fun ht => ?_, fun k hk => ?_, ?_, ?_⟩
  · rw [mkV_great (show 18 ≤ (rawV (.great g d.base n nm s)).kind from hg), show (rawV (.great g d.base n nm s)).parts = rawL s from rfl, j1]
    exact hv
  · rw [sizeD_eq, sizeD_eq d, hp, hp']; omega
  · rw [textD_eq, hp', show (rawV (.great g d.base n nm s)).kind = d.kind from rfl]
    rw [textD_eq, hp] at ht
    have := j2 (by omega)
    rw [if_neg (by omega)]
    omega
  · rw [depthD_eq, hp'] 
    rw [depthD_eq, hp] at hk
    have := j3 (k - 1) (by omega)
    omega
  · rw [allD_eq, hp', j4, Bool.and_true]
    show decide (0 ≤ d.kind ∧ d.kind ≤ 22) = true
    exact decide_eq_true (by omega)
  · rw [allD_eq, hp', j5, Bool.and_true]
    show ((decide (d.kind = 0) || typedB d.type) && _) = true
    rw [hf, Bool.true_and]
    exact hF
theorem kept_any : ∀ d : D, allD kindB d = true → allD formB d = true → ∀ x, mkV d = some x → Kept d x := by
  refine D.induct_d fun d ih hk hf x hx => ?_
  rw [allD_eq, Bool.and_eq_true, allL_iff] at hk hf
  have hk1 : 0 ≤ d.kind ∧ d.kind ≤ 22 := by simpa [kindB] using hk.1
  by_cases h18 : d.kind < 18
  · rw [mkV_leaf h18] at hx
    injection hx with hx
    rw [← hx]
    exact kept_leaf hk1.1 (by omega) hf.1
  · have hp : partsOf d = d.parts := by unfold partsOf; rw [show greatK d.kind = true by simp [greatK]; omega]; rfl
    rw [hp] at hk hf
    cases hm : mkL d.parts with
    | none => rw [mkV_great (by omega), hm] at hx; cases hx
    | some l =>
      obtain ⟨hsz, hE⟩ := kept_list d.parts hm fun p hpm y hy => ih p hpm (hk.2 p hpm) (hf.2 p hpm) y hy
      have hlen := mkL_length _ hm
      rw [mkV_great (by omega), hm, Option.bind_some] at hx
      have hf1 := hf.1
      unfold formB at hf1
      rw [Bool.and_eq_true] at hf1
      obtain ⟨hty, hfm⟩ := hf1
      unfold greatV at hx
      split at hx
      · rename_i k18
        split at hx
        · rename_i hnd
          injection hx with hx
          subst hx
          refine kept_great (by omega) (by omega) hty hE hsz ?_ ?_
          · unfold greatV
            rw [if_pos (show (rawV (.great .struct d.base 0 d.names l)).kind = 18 from k18), if_pos (show (rawV (.great .struct d.base 0 d.names l)).names.Nodup from hnd)]
            rfl
          · rw [if_pos k18] at hfm ⊢
            rw [rawL_length, hlen]
            exact hfm
        · cases hx
      · rename_i k18
        split at hx
        · rename_i k21
          split at hx
          · rename_i hap
            injection hx with hx
            subst hx
            rw [if_neg k18, if_pos k21] at hfm
            simp only [Bool.and_eq_true, decide_eq_true_eq] at hfm
            obtain ⟨hky, he⟩ := hfm
            have hfl := flat_pairs (l.length / 2) l (by omega)
            have hperm : (flat (sortP (pairs l))).Perm l := by
              have := flat_perm (sortP_perm (pairs l))
              rwa [hfl] at this
            have hkd := keyd_mk hm hky he
            have hap' : Apart (sortP (pairs l)) := apart_perm (sortP_perm (pairs l)).symm hkd hap
            have hkd' : Keyd (sortP (pairs l)) := fun a ha => hkd a ((sortP_perm (pairs l)).mem_iff.1 ha)
            have hss : sortP (sortP (pairs l)) = sortP (pairs l) := (sorted_is (.refl _) hkd' (sortP_sorted hkd hap)).2.symm
            refine kept_great (by omega) (by omega) hty (fun y hy => hE y (hperm.mem_iff.1 hy)) (by rw [sizeRL_perm hperm]; exact hsz) ?_ ?_
            · unfold greatV
              rw [if_neg (show ¬ (rawV (.great .map d.base 0 [] (flat (sortP (pairs l))))).kind = 18 from k18), if_pos (show (rawV (.great .map d.base 0 [] (flat (sortP (pairs l))))).kind = 21 from k21), pairs_flat, if_pos hap', hss]
              rfl
            · rw [if_neg k18, if_pos k21, rawL_length, flat_len]
              rw [keys_flat _ fun a ha => key_mk_kind hm hky he a ((sortP_perm (pairs l)).mem_iff.1 ha)]
              simp
          · cases hx
        · rename_i k21
          split at hx
          · rename_i k22
            injection hx with hx
            subst hx
            refine kept_great (by omega) (by omega) hty hE hsz ?_ ?_
            · unfold greatV
              rw [if_neg (show ¬ (rawV (.great .ptr d.base d.bits [] l)).kind = 18 from k18), if_neg (show ¬ (rawV (.great .ptr d.base d.bits [] l)).kind = 21 from k21), if_pos (show (rawV (.great .ptr d.base d.bits [] l)).kind = 22 from k22)]
              rfl
            · rw [if_neg k18, if_neg k21, if_pos k22] at hfm ⊢
              rw [rawL_length, hlen]
              exact hfm
          · rename_i k22
            injection hx with hx
            subst hx
            refine kept_great (by omega) (by omega) hty hE hsz ?_ ?_
            · unfold greatV
              rw [if_neg (show ¬ (rawV (.great .list d.base 0 [] l)).kind = 18 from k18), if_neg (show ¬ (rawV (.great .list d.base 0 [] l)).kind = 21 from k21), if_neg (show ¬ (rawV (.great .list d.base 0 [] l)).kind = 22 from k22)]
              rfl
            · rw [if_neg k18, if_neg k21, if_neg k22]
/-- A built value's descriptor is built as that value. -/
theorem again {d : D} {x : V} (h0 : errD d = 0) (hx : mkV d = some x) : errD (rawV x) = 0 ∧ mkV (rawV x) = some x := by
  rw [errD_is] at h0
  by_cases c1 : 64 < sizeD d ∨ 1024 < textD d
  · rw [if_pos c1] at h0; cases h0
  rw [if_neg c1] at h0
  by_cases c2 : 8 < depthD d
  · rw [if_pos c2] at h0; cases h0
  rw [if_neg c2] at h0
  by_cases c3 : allD kindB d = false
  · rw [if_pos c3] at h0; cases h0
  rw [if_neg c3] at h0
  by_cases c4 : allD formB d = false
  · rw [if_pos c4] at h0; cases h0
  have K := kept_any d (by simpa using c3) (by simpa using c4) x hx
  have k1 := K.size
  have k2 := K.text (by omega)
  have k3 := K.depth 8 (by omega)
  refine ⟨?_, K.mkx⟩
  rw [errD_is, if_neg (by omega), if_neg (by omega), if_neg (by rw [K.kind]; simp), if_neg (by rw [K.form]; simp), if_neg (by rw [K.mkx]; simp)]
end Go.Proofs.Ythpgnhmikffcpaa
