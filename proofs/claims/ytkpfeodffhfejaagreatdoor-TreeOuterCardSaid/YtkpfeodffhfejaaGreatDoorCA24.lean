/- What the reference's order, its sorting and its test for what is there twice say of values: plain part. No condition. -/
import Derived.Test.YtkpfeodffhfejaaGreatDoorCA21
import Derived.Test.YtkpfeodffhfejaaGreatDoorCA23
import Derived.Test.YtkpfeodffhfejaaGreatDoorCA11
import Derived.Test.YtkpfeodffhfejaaGreatDoorCA06
namespace Go.Proofs.YtkpfeodffhfejaaGreatDoor
set_option linter.unusedVariables false
set_option maxRecDepth 1000000
set_option linter.unusedSimpArgs false
open Go.RowKit

theorem wrap_u64of {x : Int} (h : I64 x) : wrap64 (u64of x) = x := by
  obtain ⟨h0, h1⟩ := h
  unfold wrap64 u64of
  omega
theorem cmpI_bit (x y : Bool) : cmpI (if x then 1 else 0) (if y then 1 else 0) = if x = y then 0 else if y then -1 else 1 := by cases x <;> cases y <;> rfl
theorem rawV_kind (x : V) : (rawV x).kind = x.base.kind := by
  cases x with
  | nil => rfl
  | leaf l => cases l <;> rfl
  | great => simp only [rawV, D.kind, V.base]
theorem rawV_type (x : V) : (rawV x).type = x.base.name := by
  cases x with
  | nil => rfl
  | leaf l => cases l <;> rfl
  | great => simp only [rawV, D.type, V.base]
/-- Kinds that are compared. -/
def cmpKK (k : Int) : Prop := k = 1 ∨ (2 ≤ k ∧ k ≤ 11) ∨ k = 16
theorem cmpD_none {a b : D} (he : a.kind = b.kind) (h : ¬ cmpKK a.kind) : cmpD a b = 0 := by
  unfold cmpKK at h
  unfold cmpD
  rw [if_neg (by omega), if_neg (by omega), if_neg (by omega), if_neg (by omega)]
theorem ordV_none {a b : V} (he : a.base.kind = b.base.kind) (oa : a.ok) (h : ¬ cmpKK a.base.kind) : ordV a b = 0 := by
  unfold cmpKK at h
  unfold ordV
  rw [if_neg (by omega)]
  split
  all_goals first | rfl | (exfalso; simp only [V.ok, V.base, Leaf.base] at oa h; omega)
theorem cmpD_u {a b : D} (he : a.kind = b.kind) (h : a.kind = 1 ∨ 7 ≤ a.kind ∧ a.kind ≤ 11) : cmpD a b = if cmpI a.bits b.bits = 0 then cmpS a.type b.type else cmpI a.bits b.bits := by
  unfold cmpD
  rw [if_neg (by omega), if_pos h]
theorem cmpD_s {a b : D} (he : a.kind = b.kind) (h : 2 ≤ a.kind ∧ a.kind ≤ 6) : cmpD a b = if cmpI (wrap64 a.bits) (wrap64 b.bits) = 0 then cmpS a.type b.type else cmpI (wrap64 a.bits) (wrap64 b.bits) := by
  unfold cmpD
  rw [if_neg (by omega), if_neg (by omega), if_pos h]
theorem cmpD_t {a b : D} (he : a.kind = b.kind) (h : a.kind = 16) : cmpD a b = if cmpS a.text b.text = 0 then cmpS a.type b.type else cmpS a.text b.text := by
  unfold cmpD
  rw [if_neg (by omega), if_neg (by omega), if_neg (by omega), if_pos h]
/-- The reference's order of descriptors in form is the order of values. -/
theorem cmp_raw {x y : V} (ox : x.ok) (oy : y.ok) (rx : VR x) (ry : VR y) : cmpD (rawV x) (rawV y) = ordV x y := by
  by_cases hk : x.base.kind = y.base.kind
  · by_cases hc : cmpKK x.base.kind
    · have he : (rawV x).kind = (rawV y).kind := by rw [rawV_kind, rawV_kind, hk]
      have kx := rawV_kind x
      unfold ordV
      rw [if_neg (by omega)]
      cases x with
      | nil => simp [V.base, cmpKK] at hc
      | great t b a n l => cases t <;> (simp only [V.ok, V.base, cmpKK] at ox hc; exfalso; omega)
      | leaf l =>
        cases y with
        | nil => simp [V.base] at hk; rw [show (V.leaf l).base.kind = 0 from hk] at hc; simp [cmpKK] at hc
        | great t b a n l' => exfalso; cases t <;> (simp only [V.ok, V.base, cmpKK] at oy hc hk; omega)
        | leaf m =>
          cases rx with
          | leaf _ rx => cases ry with
            | leaf _ ry =>
              cases l <;> cases m <;> simp only [V.ok, V.base, Leaf.base, cmpKK] at ox oy hc hk kx <;> first | (exfalso; omega) | skip
              · rename_i b v b' v'
                rw [cmpD_u he (by omega)]
                show (if cmpI (if v then 1 else 0) (if v' then 1 else 0) = 0 then _ else cmpI (if v then 1 else 0) (if v' then 1 else 0)) = _
                rw [show cmpI (if v then 1 else 0) (if v' then 1 else 0) = _ from cmpI_bit v v']
                rfl
              · rename_i b v b' v'
                rw [cmpD_s he (by omega)]
                show (if cmpI (wrap64 (u64of v)) (wrap64 (u64of v')) = 0 then _ else cmpI (wrap64 (u64of v)) (wrap64 (u64of v'))) = _
                rw [wrap_u64of rx.2, wrap_u64of ry.2]
                rfl
              · rw [cmpD_u he (by omega)]
                rfl
              · rw [cmpD_t he (by omega)]
                rfl
    · rw [ordV_none hk ox hc]
      exact cmpD_none (by rw [rawV_kind, rawV_kind, hk]) (by rw [rawV_kind]; exact hc)
  · have h1 := rawV_kind x
    have h2 := rawV_kind y
    unfold cmpD ordV
    rw [h1, h2, if_pos hk, if_pos hk]

/-- An entry is put in its place. -/
def insD (e : D × D) : List (D × D) → List (D × D)
  | [] => [e]
  | x :: l => if cmpD e.1 x.1 < 0 then e :: x :: l else x :: insD e l
def sortD : List (D × D) → List (D × D) → List (D × D)
  | acc, [] => acc
  | acc, e :: l => sortD (insD e acc) l
def rawE (e : V × V) : D × D := (rawV e.1, rawV e.2)
def KeyR (x : V) : Prop := KeyV x ∧ VR x
theorem KeyV.ok {x : V} (h : KeyV x) : x.ok := by obtain ⟨l, rfl, h⟩ := h; exact h
theorem ins_raw {e : V × V} (he : KeyR e.1) : ∀ l : List (V × V), (∀ x ∈ l, KeyR x.1) → insD (rawE e) (l.map rawE) = (insP e l).map rawE
  | [], _ => rfl
  | x :: l, hl => by
    have hx := hl x (by simp)
    simp only [List.map_cons, insD, insP]
    have : cmpD (rawE e).1 (rawE x).1 = ordV e.1 x.1 := cmp_raw he.1.ok hx.1.ok he.2 hx.2
    rw [this]
    split
    · rfl
    · rw [List.map_cons, ins_raw he l (fun y hy => hl y (by simp [hy]))]
def insF : List (V × V) → List (V × V) → List (V × V)
  | acc, [] => acc
  | acc, e :: l => insF (insP e acc) l
theorem sort_raw : ∀ (l acc : List (V × V)), (∀ x ∈ acc, KeyR x.1) → (∀ x ∈ l, KeyR x.1) → sortD (acc.map rawE) (l.map rawE) = (insF acc l).map rawE
  | [], acc, _, _ => rfl
  | e :: l, acc, ha, hl => by
    simp only [List.map_cons, sortD, insF]
    rw [ins_raw (hl e (by simp)) acc ha]
    refine sort_raw l _ (fun x hx => ?_) (fun x hx => hl x (by simp [hx]))
    rcases List.mem_cons.1 ((insP_perm e acc).mem_iff.1 hx) with rfl | hx
    · exact hl _ (by simp)
    · exact ha x hx
theorem insF_perm : ∀ (l acc : List (V × V)), (insF acc l).Perm (acc ++ l)
  | [], acc => by simp [insF]
  | e :: l, acc => by
    simp only [insF]
    refine (insF_perm l _).trans (((insP_perm e acc).append_right l).trans ?_)
    rw [List.cons_append]
    exact List.perm_middle.symm
theorem insF_sorted : ∀ (l acc : List (V × V)), Keyd (acc ++ l) → acc.Pairwise (ordP · · < 0) → Apart (acc ++ l) → (insF acc l).Pairwise (ordP · · < 0)
  | [], acc, _, h, _ => h
  | e :: l, acc, hk, hs, ha => by
    simp only [insF]
    have hp : (insP e acc ++ l).Perm (acc ++ e :: l) := ((insP_perm e acc).append_right l).trans (by rw [List.cons_append]; exact List.perm_middle.symm)
    refine insF_sorted l _ (fun a h => hk a (hp.mem_iff.1 h)) ?_ (apart_perm hp.symm hk ha)
    refine insP_sorted (fun a h => hk a ?_) hs (fun x hx => ?_)
    · rcases List.mem_cons.1 h with rfl | h
      · simp
      · simp [h]
    · have hxe := (List.pairwise_append.1 ha).2.2 x hx e (by simp)
      have := ordP_anti (hk x (by simp [hx])) (hk e (by simp))
      unfold ordP at this ⊢
      intro h0
      rw [h0] at this
      omega
/-- The reference's sorting gives the sorted entries. -/
theorem sorted_raw {l : List (V × V)} (hk : Keyd l) (hr : ∀ x ∈ l, VR x.1) (ha : Apart l) : sortD [] (l.map rawE) = (sortP l).map rawE := by
  have h1 := sort_raw l [] (fun x h => by cases h) (fun x hx => ⟨hk x hx, hr x hx⟩)
  simp only [List.map_nil] at h1
  rw [h1]
  have hp := insF_perm l []
  rw [List.nil_append] at hp
  rw [(sorted_is hp hk (insF_sorted l [] (by simpa using hk) List.Pairwise.nil (by simpa using ha))).2]
/-- Keys and values by turns. -/
def flatD : List (D × D) → List D
  | [] => []
  | (a, b) :: l => a :: b :: flatD l
theorem flatD_raw : ∀ l : List (V × V), flatD (l.map rawE) = rawL (flat l)
  | [] => rfl
  | (a, b) :: l => by simp only [List.map_cons, rawE, flatD, flat, rawL, flatD_raw l]
theorem flat_pairs : ∀ (n : Nat) (l : List V), l.length = 2 * n → flat (pairs l) = l
  | 0, l, h => by
    obtain rfl := List.eq_nil_of_length_eq_zero (by omega : l.length = 0)
    rfl
  | n + 1, a :: b :: l, h => by
    simp only [pairs, flat]
    rw [flat_pairs n l (by simp at h; omega)]
/-- The keys. -/
def evens {α : Type} : List α → List α
  | [] => []
  | [x] => [x]
  | x :: _ :: l => x :: evens l
theorem pairs_keys : ∀ (l : List V), l.length % 2 = 0 → (pairs l).map (·.1) = evens l
  | [], _ => rfl
  | [x], h => by simp at h
  | x :: y :: l, h => by simp only [pairs, List.map_cons, evens]; rw [pairs_keys l (by simp at h; omega)]
theorem evens_map {α β : Type} (f : α → β) : ∀ l : List α, evens (l.map f) = (evens l).map f
  | [] => rfl
  | [x] => rfl
  | x :: y :: l => by simp only [List.map_cons, evens, evens_map f l]
theorem evens_mem {α : Type} : ∀ (l : List α) (x : α), x ∈ evens l → x ∈ l
  | [], x, h => h
  | [y], x, h => h
  | y :: z :: l, x, h => by
    simp only [evens, List.mem_cons] at h ⊢
    rcases h with h | h
    · exact .inl h
    · exact .inr (.inr (evens_mem l x h))
theorem keys_evens : ∀ l : List D, keysL l = (evens l).all fun x => keyK x.kind
  | [] => rfl
  | [x] => by simp [keysL, evens]
  | x :: y :: l => by simp only [keysL, evens, List.all_cons, keys_evens l]
theorem key_leaf {x : D} (h : keyK x.kind = true) : mkV x = some (leafV x) ∧ KeyV (leafV x) := by
  have hk : (1 ≤ x.kind ∧ x.kind ≤ 11) ∨ x.kind = 16 := by simpa [keyK] using h
  refine ⟨mkV_leaf (by omega), ?_⟩
  have := leafV_ok x (by omega) (by omega)
  revert this
  unfold leafV
  rw [if_neg (by omega)]
  repeat' split
  all_goals exact fun h => ⟨_, rfl, h⟩
theorem evens_mk : ∀ (l : List D) {ys : List V}, mkL l = some ys → keysL l = true → evens ys = (evens l).map leafV
  | [], ys, h, _ => by simp only [mkL, Option.some.injEq] at h; subst h; rfl
  | [x], ys, h, hk => by
    have := (key_leaf (by simpa [keysL] using hk)).1
    simp only [mkL, this, Option.some.injEq] at h
    subst h
    rfl
  | x :: y :: l, ys, h, hk => by
    simp only [keysL, Bool.and_eq_true] at hk
    have hx := (key_leaf hk.1).1
    simp only [mkL, hx] at h
    cases hy : mkV y with
    | none => rw [hy] at h; cases h
    | some y' =>
      rw [hy] at h
      cases hl : mkL l with
      | none => rw [hl] at h; cases h
      | some ys' =>
        rw [hl] at h
        injection h with h
        subst h
        simp only [evens, List.map_cons, evens_mk l hl hk.2]
/-- The keys of a map's descriptor are keys. -/
theorem keyd_mk {ps : List D} {l : List V} (hm : mkL ps = some l) (hk : keysL ps = true) (h2 : ps.length % 2 = 0) : Keyd (pairs l) := by
  intro a ha
  have h1 : a.1 ∈ (pairs l).map (·.1) := List.mem_map.2 ⟨a, ha, rfl⟩
  rw [pairs_keys l (by rw [mkL_length _ hm]; exact h2), evens_mk ps hm hk] at h1
  obtain ⟨x, hx, e⟩ := List.mem_map.1 h1
  rw [keys_evens, List.all_eq_true] at hk
  rw [← e]
  exact (key_leaf (hk x hx)).2
/-- Is something there twice? -/
def twB (d : D) : Bool :=
  if d.kind = 18 then !decide d.names.Nodup else if d.kind = 21 then !decide (((evens d.parts).map leafV).Pairwise fun a b => ordV a b ≠ 0) else false
theorem apart_keys {l : List (V × V)} : Apart l ↔ (l.map (·.1)).Pairwise fun a b => ordV a b ≠ 0 := by
  unfold Apart
  rw [List.pairwise_map]
theorem great_some {d : D} {l : List V} (hf : formB d = true) (hm : mkL d.parts = some l) : greatV d l = none ↔ twB d = true := by
  unfold greatV twB
  by_cases h18 : d.kind = 18
  · rw [if_pos h18, if_pos h18]
    by_cases hn : d.names.Nodup <;> simp [hn]
  · rw [if_neg h18, if_neg h18]
    by_cases h21 : d.kind = 21
    · rw [if_pos h21, if_pos h21]
      have hf2 : keysL d.parts = true ∧ d.parts.length % 2 = 0 := by
        unfold formB at hf
        rw [if_neg h18, if_pos h21] at hf
        simp only [Bool.and_eq_true, decide_eq_true_eq] at hf
        exact hf.2
      have e : Apart (pairs l) ↔ ((evens d.parts).map leafV).Pairwise fun a b => ordV a b ≠ 0 := by
        rw [apart_keys, pairs_keys l (by rw [mkL_length _ hm]; exact hf2.2), evens_mk _ hm hf2.1]
      by_cases ha : Apart (pairs l)
      · rw [if_pos ha, decide_eq_true (e.1 ha)]; simp
      · rw [if_neg ha, decide_eq_false (fun h => ha (e.2 h))]; simp
    · rw [if_neg h21, if_neg h21]
      by_cases h22 : d.kind = 22
      · rw [if_pos h22]; simp
      · rw [if_neg h22]; simp
theorem mkL_some : ∀ l : List D, (∃ ys, mkL l = some ys) ↔ ∀ x ∈ l, mkV x ≠ none
  | [] => by simp [mkL]
  | x :: l => by
    have := mkL_some l
    simp only [mkL, List.mem_cons, forall_eq_or_imp, ← this]
    cases hx : mkV x with
    | none => simp
    | some y =>
      cases hl : mkL l with
      | none => simp
      | some ys => simp
theorem twice_is : ∀ d : D, allD kindB d = true → allD formB d = true → (mkV d = none ↔ allD (fun x => !twB x) d = false) := by
  refine D.induct_d fun d ih hk hf => ?_
  rw [allD_eq, Bool.and_eq_true, allL_iff] at hk hf
  have hk1 : 0 ≤ d.kind ∧ d.kind ≤ 22 := by simpa [kindB] using hk.1
  by_cases h18 : d.kind < 18
  · have hp : partsOf d = [] := by unfold partsOf; rw [show greatK d.kind = false by simp [greatK]; omega]; rfl
    rw [allD_eq, hp, mkV_leaf h18]
    have : twB d = false := by unfold twB; rw [if_neg (by omega), if_neg (by omega)]
    simp [this, allL]
  · have hp : partsOf d = d.parts := by unfold partsOf; rw [show greatK d.kind = true by simp [greatK]; omega]; rfl
    rw [hp] at hk hf
    rw [allD_eq, hp, mkV_great (by omega)]
    have ih2 : ∀ x ∈ d.parts, (mkV x ≠ none ↔ allD (fun x => !twB x) x = true) := fun x hx => by
      have := ih x hx (hk.2 x hx) (hf.2 x hx)
      rw [ne_eq, this]; simp
    by_cases ha : ∃ l, mkL d.parts = some l
    · obtain ⟨l, hl⟩ := ha
      have h1 : allL (fun x => !twB x) d.parts = true := (allL_iff _ _).2 fun x hx => (ih2 x hx).1 ((mkL_some _).1 ⟨l, hl⟩ x hx)
      rw [hl, h1, Bool.and_true, Option.bind_some, great_some hf.1 hl]
      simp
    · have hn : mkL d.parts = none := by
        cases h : mkL d.parts with
        | none => rfl
        | some l => exact absurd ⟨l, h⟩ ha
      have h1 : allL (fun x => !twB x) d.parts = false := by
        cases h : allL (fun x => !twB x) d.parts with
        | false => rfl
        | true => exact absurd ((mkL_some _).2 fun x hx => (ih2 x hx).2 ((allL_iff _ _).1 h x hx)) ha
      rw [hn, h1, Bool.and_false]
      simp
end Go.Proofs.YtkpfeodffhfejaaGreatDoor

/- What the reference's list of all descriptors that are looked at says of a descriptor: plain part. No condition. -/
namespace Go.Proofs.YtkpfeodffhfejaaGreatDoor
set_option linter.unusedVariables false
set_option maxRecDepth 1000000
set_option linter.unusedSimpArgs false
open Go.RowKit

/-- The list q of descriptors, each with how deep it stands, of which the first i are looked into. -/
structure QSt (d : D) (q : List (D × Nat)) (i : Nat) : Prop where
  len : q.length ≤ 64
  idx : i ≤ q.length
  size : i + sizeL ((q.drop i).map (·.1)) = sizeD d
  all : ∀ g, allD g d = ((q.take i).all (fun p => g p.1) && allL g ((q.drop i).map (·.1)))
  deep : depthD d ≤ 8 ↔ (∀ p ∈ q.take i, p.2 ≤ 7) ∧ ∀ p ∈ q.drop i, p.2 + depthD p.1 ≤ 8
  low : ∀ p ∈ q, p.2 ≤ i
theorem QSt.start (d : D) : QSt d [(d, 0)] 0 := by
  refine ⟨by simp, Nat.zero_le _, by simp [sizeL], fun g => by simp [allL], by simp, by simp⟩
theorem sizeL_app : ∀ a b : List D, sizeL (a ++ b) = sizeL a + sizeL b
  | [], b => by simp [sizeL]
  | x :: a, b => by simp only [List.cons_append, sizeL, sizeL_app a b]; omega
theorem allL_app (g : D → Bool) : ∀ a b : List D, allL g (a ++ b) = (allL g a && allL g b)
  | [], b => by simp [allL]
  | x :: a, b => by simp only [List.cons_append, allL, allL_app g a b, Bool.and_assoc]
theorem depthL_all : ∀ (l : List D) (n : Nat), depthL l ≤ n ↔ ∀ x ∈ l, depthD x ≤ n
  | [], n => by simp [depthL]
  | x :: l, n => by
    have := depthL_all l n
    simp only [depthL, List.mem_cons, forall_eq_or_imp, ← this]
    omega
theorem sizeD_pos (d : D) : 1 ≤ sizeD d := by rw [sizeD_eq]; omega
/-- One descriptor is looked into: its parts stand behind the others. -/
def more (q : List (D × Nat)) (i : Nat) (h : i < q.length) : List (D × Nat) := q ++ (partsOf q[i].1).map fun x => (x, q[i].2 + 1)
theorem more_take {q : List (D × Nat)} {i : Nat} (h : i < q.length) : (more q i h).take (i + 1) = q.take i ++ [q[i]] := by
  unfold more
  rw [List.take_append_of_le_length (by omega), List.take_succ_eq_append_getElem h]
theorem more_drop {q : List (D × Nat)} {i : Nat} (h : i < q.length) : (more q i h).drop (i + 1) = q.drop (i + 1) ++ (partsOf q[i].1).map fun x => (x, q[i].2 + 1) := by
  unfold more
  rw [List.drop_append_of_le_length (by omega)]
theorem QSt.size_more {d : D} {q : List (D × Nat)} {i : Nat} (h : QSt d q i) (hi : i < q.length) : i + 1 + sizeL (((more q i hi).drop (i + 1)).map (·.1)) = sizeD d := by
  have h3 := h.size
  rw [List.drop_eq_getElem_cons hi, List.map_cons, sizeL, sizeD_eq] at h3
  rw [more_drop, List.map_append, sizeL_app, List.map_map]
  have e : ((fun p : D × Nat => p.1) ∘ fun x => (x, q[i].2 + 1)) = id := rfl
  rw [e, List.map_id]
  omega
theorem QSt.big {d : D} {q : List (D × Nat)} {i : Nat} (h : QSt d q i) (hi : i < q.length) (hb : 64 < (more q i hi).length) : 65 ≤ sizeD d := by
  have h1 := h.size_more hi
  have h2 := sizeL_len (((more q i hi).drop (i + 1)).map (·.1))
  simp only [List.length_map, List.length_drop] at h2
  omega
theorem QSt.step {d : D} {q : List (D × Nat)} {i : Nat} (h : QSt d q i) (hi : i < q.length) (hb : (more q i hi).length ≤ 64) : QSt d (more q i hi) (i + 1) := by
  have hm : q.length ≤ (more q i hi).length := by unfold more; simp
  refine ⟨hb, by omega, h.size_more hi, fun g => ?_, ?_, fun p hp => ?_⟩
  · rw [h.all g, more_take, more_drop, List.drop_eq_getElem_cons hi, List.map_cons, allL, allD_eq, List.all_append, List.map_append, allL_app, List.map_map]
    have e : ((fun p : D × Nat => p.1) ∘ fun x => (x, q[i].2 + 1)) = id := rfl
    rw [e, List.map_id]
    simp only [List.all_cons, List.all_nil, Bool.and_true]
    generalize (q.take i).all _ = a
    generalize g q[i].1 = b
    generalize allL g (partsOf q[i].1) = c
    generalize allL g _ = e
    cases a <;> cases b <;> cases c <;> cases e <;> rfl
  · rw [h.deep, more_take, more_drop, List.drop_eq_getElem_cons hi]
    have hd := depthL_all (partsOf q[i].1) (7 - q[i].2)
    constructor
    · rintro ⟨h1, h2⟩
      have h0 := h2 q[i] List.mem_cons_self
      rw [depthD_eq] at h0
      refine ⟨fun p hp => ?_, fun p hp => ?_⟩
      · rcases List.mem_append.1 hp with hp | hp
        · exact h1 p hp
        · simp at hp; subst hp; omega
      · rcases List.mem_append.1 hp with hp | hp
        · exact h2 p (List.mem_cons_of_mem _ hp)
        · obtain ⟨x, hx, rfl⟩ := List.mem_map.1 hp
          have := hd.1 (by omega) x hx
          simp only
          omega
    · rintro ⟨h1, h2⟩
      refine ⟨fun p hp => h1 p (List.mem_append_left _ hp), fun p hp => ?_⟩
      rcases List.mem_cons.1 hp with hp | hp
      · subst hp
        have h0 := h1 q[i] (List.mem_append_right _ (List.mem_singleton_self _))
        have := hd.2 fun x hx => by
          have := h2 (x, q[i].2 + 1) (List.mem_append.2 (.inr (List.mem_map.2 ⟨x, hx, rfl⟩)))
          simp only at this
          omega
        rw [depthD_eq]
        omega
      · exact h2 p (List.mem_append_left _ hp)
  · unfold more at hp
    rcases List.mem_append.1 hp with hp | hp
    · have := h.low p hp; omega
    · obtain ⟨x, hx, rfl⟩ := List.mem_map.1 hp
      have := h.low q[i] (List.getElem_mem _)
      simp only
      omega
/-- What the finished list says. -/
def AllIs (d : D) (q : List (D × Nat)) : Prop :=
  (q.length = 65 ∧ 65 ≤ sizeD d) ∨ (q.length ≤ 64 ∧ sizeD d ≤ 64 ∧ (∀ g, allD g d = q.all fun p => g p.1) ∧ (depthD d ≤ 8 ↔ ∀ p ∈ q, p.2 ≤ 7))
theorem QSt.done {d : D} {q : List (D × Nat)} {i : Nat} (h : QSt d q i) (hi : ¬ i < q.length) : AllIs d q := by
  have e : i = q.length := by have := h.idx; omega
  subst e
  have h3 := h.size
  have h4 := h.all
  have h5 := h.deep
  rw [List.drop_length] at h3 h5
  simp only [List.drop_length, List.take_length, List.map_nil, allL, Bool.and_true, sizeL] at h3 h4 h5
  refine .inr ⟨h.len, by have := h.len; omega, h4, ?_⟩
  rw [h5]
  simp
/-- A text's length is asked of each that is looked at. -/
def textB (d : D) : Bool := decide ((d.kind = 16 ∨ d.kind = 17) → d.text.size ≤ 1024)
theorem textL_all : ∀ (l : List D), textL l ≤ 1024 ↔ ∀ x ∈ l, textD x ≤ 1024
  | [] => by simp [textL]
  | x :: l => by
    have := textL_all l
    simp only [textL, List.mem_cons, forall_eq_or_imp, ← this]
    omega
theorem text_all : ∀ d : D, textD d ≤ 1024 ↔ allD textB d = true := by
  refine D.induct_d fun d ih => ?_
  have hl := textL_all (partsOf d)
  rw [textD_eq, allD_eq, Bool.and_eq_true, allL_iff]
  have h2 : (∀ x ∈ partsOf d, textD x ≤ 1024) ↔ ∀ x ∈ partsOf d, allD textB x = true := ⟨fun h x hx => (ih x (partsOf_mem hx)).1 (h x hx), fun h x hx => (ih x (partsOf_mem hx)).2 (h x hx)⟩
  rw [← h2, ← hl]
  unfold textB
  by_cases h : d.kind = 16 ∨ d.kind = 17
  · rw [if_pos h]; simp only [h, true_implies, decide_eq_true_eq]; omega
  · have hn := textL_nonneg (partsOf d)
    rw [if_neg h, decide_eq_true (fun h' => absurd h' h)]
    exact ⟨fun _ => ⟨rfl, by omega⟩, fun ⟨_, _⟩ => by omega⟩
end Go.Proofs.YtkpfeodffhfejaaGreatDoor

/- The values that stand directly in a value: inner. Condition: the argument is a value. -/
namespace Go.Proofs.YtkpfeodffhfejaaGreatDoor
set_option linter.unusedVariables false
set_option maxRecDepth 1000000
set_option linter.unusedSimpArgs false
open Go.RowKit

def kids : V → List V
  | .great _ _ _ _ l => l
  | _ => []
end Go.Proofs.YtkpfeodffhfejaaGreatDoor
