/- What the reference's order, its sorting and its test for what is there twice say of values: plain part. No condition. -/
import Derived.Test.YthpgnhmikffcpaaZL1
import Derived.Test.YthpgnhmikffcpaaZQ5
import Derived.Test.YthpgnhmikffcpaaZQD
namespace Go.Proofs.Ythpgnhmikffcpaa
set_option linter.unusedVariables false
set_option linter.unusedSimpArgs false
open Go.RowKit

theorem wrap_u64of {x : Int} (h : I64 x) : wrap64 (u64of x) = x := by
  obtain ⟨h0, h1⟩ := h
  unfold wrap64 u64of
  omega
theorem cmpI_bit (x y : Bool) : cmpI (if x then 1 else 0) (if y then 1 else 0) = if x = y then 0 else if y then -1 else 1 := by cases x <;> cases y <;> rfl
theorem rawV_kind (x : V) : (rawV x).kind = x.base.kind := by
  cases x with
  | nil => rfl
  | leaf l => cases l <;> rfl
  | great => simp only [rawV, D.kind, V.base]
theorem rawV_type (x : V) : (rawV x).type = x.base.name := by
  cases x with
  | nil => rfl
  | leaf l => cases l <;> rfl
  | great => simp only [rawV, D.type, V.base]
/-- Kinds that are compared. -/
def cmpKK (k : Int) : Prop := k = 1 ∨ (2 ≤ k ∧ k ≤ 11) ∨ k = 16
theorem cmpD_none {a b : D} (he : a.kind = b.kind) (h : ¬ cmpKK a.kind) : cmpD a b = 0 := by
  unfold cmpKK at h
  unfold cmpD
  rw [if_neg (by omega), if_neg (by omega), if_neg (by omega), if_neg (by omega)]
theorem ordV_none {a b : V} (he : a.base.kind = b.base.kind) (oa : a.ok) (h : ¬ cmpKK a.base.kind) : ordV a b = 0 := by
  unfold cmpKK at h
  unfold ordV
  rw [if_neg (by omega)]
  split
  all_goals first | rfl | (exfalso; simp only [V.ok, V.base, Leaf.base] at oa h; omega)
theorem cmpD_u {a b : D} (he : a.kind = b.kind) (h : a.kind = 1 ∨ 7 ≤ a.kind ∧ a.kind ≤ 11) : cmpD a b = if cmpI a.bits b.bits = 0 then cmpS a.type b.type else cmpI a.bits b.bits := by
  unfold cmpD
  rw [if_neg (by omega), if_pos h]
theorem cmpD_s {a b : D} (he : a.kind = b.kind) (h : 2 ≤ a.kind ∧ a.kind ≤ 6) : cmpD a b = if cmpI (wrap64 a.bits) (wrap64 b.bits) = 0 then cmpS a.type b.type else cmpI (wrap64 a.bits) (wrap64 b.bits) := by
  unfold cmpD
  rw [if_neg (by omega), if_neg (by omega), if_pos h]
theorem cmpD_t {a b : D} (he : a.kind = b.kind) (h : a.kind = 16) : cmpD a b = if cmpS a.text b.text = 0 then cmpS a.type b.type else cmpS a.text b.text := by
  unfold cmpD
  rw [if_neg (by omega), if_neg (by omega), if_neg (by omega), if_pos h]
/-- The reference's order of descriptors in form is the order of values. -/
theorem cmp_raw {x y : V} (ox : x.ok) (oy : y.ok) (rx : VR x) (ry : VR y) : cmpD (rawV x) (rawV y) = ordV x y := by
  by_cases hk : x.base.kind = y.base.kind
  · by_cases hc : cmpKK x.base.kind
    · have he : (rawV x).kind = (rawV y).kind := by rw [rawV_kind, rawV_kind, hk]
      have kx := rawV_kind x
      unfold ordV
      rw [if_neg (by omega)]
      cases x with
      | nil => simp [V.base, cmpKK] at hc
      | great t b a n l => cases t <;> (simp only [V.ok, V.base, cmpKK] at ox hc; exfalso; omega)
      | leaf l =>
        cases y with
        | nil => simp [V.base] at hk; rw [show (V.leaf l).base.kind = 0 from hk] at hc; simp [cmpKK] at hc
        | great t b a n l' => exfalso; cases t <;> (simp only [V.ok, V.base, cmpKK] at oy hc hk; omega)
        | leaf m =>
          cases rx with
          | leaf _ rx => cases ry with
            | leaf _ ry =>
              cases l <;> cases m <;> simp only [V.ok, V.base, Leaf.base, cmpKK] at ox oy hc hk kx <;> first | (exfalso; omega) | skip
              · rename_i b v b' v'
                rw [cmpD_u he (by omega)]
                show (if cmpI (if v then 1 else 0) (if v' then 1 else 0) = 0 then _ else cmpI (if v then 1 else 0) (if v' then 1 else 0)) = _
                rw [show cmpI (if v then 1 else 0) (if v' then 1 else 0) = _ from cmpI_bit v v']
                rfl
              · rename_i b v b' v'
                rw [cmpD_s he (by omega)]
                show (if cmpI (wrap64 (u64of v)) (wrap64 (u64of v')) = 0 then _ else cmpI (wrap64 (u64of v)) (wrap64 (u64of v'))) = _
                rw [wrap_u64of rx.2, wrap_u64of ry.2]
                rfl
              · rw [cmpD_u he (by omega)]
                rfl
              · rw [cmpD_t he (by omega)]
                rfl
    · rw [ordV_none hk ox hc]
      exact cmpD_none (by rw [rawV_kind, rawV_kind, hk]) (by rw [rawV_kind]; exact hc)
  · have h1 := rawV_kind x
    have h2 := rawV_kind y
    unfold cmpD ordV
    rw [h1, h2, if_pos hk, if_pos hk]

/-- An entry is put in its place. -/
def insD (e : D × D) : List (D × D) → List (D × D)
  | [] => [e]
  | x :: l => if cmpD e.1 x.1 < 0 then e :: x :: l else x :: insD e l
def sortD : List (D × D) → List (D × D) → List (D × D)
  | acc, [] => acc
  | acc, e :: l => sortD (insD e acc) l
def rawE (e : V × V) : D × D := (rawV e.1, rawV e.2)
def KeyR (x : V) : Prop := KeyV x ∧ VR x
theorem KeyV.ok {x : V} (h : KeyV x) : x.ok := by obtain ⟨l, rfl, h⟩ := h; exact h
theorem ins_raw {e : V × V} (he : KeyR e.1) : ∀ l : List (V × V), (∀ x ∈ l, KeyR x.1) → insD (rawE e) (l.map rawE) = (insP e l).map rawE
  | [], _ => rfl
  | x :: l, hl => by
    have hx := hl x (by simp)
    simp only [List.map_cons, insD, insP]
    have : cmpD (rawE e).1 (rawE x).1 = ordV e.1 x.1 := cmp_raw he.1.ok hx.1.ok he.2 hx.2
    rw [this]
    split
    · rfl
    · rw [List.map_cons, ins_raw he l (fun y hy => hl y (by simp [hy]))]
def insF : List (V × V) → List (V × V) → List (V × V)
  | acc, [] => acc
  | acc, e :: l => insF (insP e acc) l
theorem sort_raw : ∀ (l acc : List (V × V)), (∀ x ∈ acc, KeyR x.1) → (∀ x ∈ l, KeyR x.1) → sortD (acc.map rawE) (l.map rawE) = (insF acc l).map rawE
  | [], acc, _, _ => rfl
  | e :: l, acc, ha, hl => by
    simp only [List.map_cons, sortD, insF]
    rw [ins_raw (hl e (by simp)) acc ha]
    refine sort_raw l _ (fun x hx => ?_) (fun x hx => hl x (by simp [hx]))
    rcases List.mem_cons.1 ((insP_perm e acc).mem_iff.1 hx) with rfl | hx
    · exact hl _ (by simp)
    · exact ha x hx
theorem insF_perm : ∀ (l acc : List (V × V)), (insF acc l).Perm (acc ++ l)
  | [], acc => by simp [insF]
  | e :: l, acc => by
    simp only [insF]
    refine (insF_perm l _).trans (((insP_perm e acc).append_right l).trans ?_)
    rw [List.cons_append]
    exact List.perm_middle.symm
theorem insF_sorted : ∀ (l acc : List (V × V)), Keyd (acc ++ l) → acc.Pairwise (ordP · · < 0) → Apart (acc ++ l) → (insF acc l).Pairwise (ordP · · < 0)
  | [], acc, _, h, _ => h
  | e :: l, acc, hk, hs, ha => by
    simp only [insF]
    have hp : (insP e acc ++ l).Perm (acc ++ e :: l) := ((insP_perm e acc).append_right l).trans (by rw [List.cons_append]; exact List.perm_middle.symm)
    refine insF_sorted l _ (fun a h => hk a (hp.mem_iff.1 h)) ?_ (apart_perm hp.symm hk ha)
    refine insP_sorted (fun a h => hk a ?_) hs (fun x hx => ?_)
    · rcases List.mem_cons.1 h with rfl | h
      · simp
      · simp [h]
    · have hxe := (List.pairwise_append.1 ha).2.2 x hx e (by simp)
      have := ordP_anti (hk x (by simp [hx])) (hk e (by simp))
      unfold ordP at this ⊢
      intro h0
      rw [h0] at this
      omega
/-- The reference's sorting gives the sorted entries. -/
theorem sorted_raw {l : List (V × V)} (hk : Keyd l) (hr : ∀ x ∈ l, VR x.1) (ha : Apart l) : sortD [] (l.map rawE) = (sortP l).map rawE := by
  have h1 := sort_raw l [] (fun x h => by cases h) (fun x hx => ⟨hk x hx, hr x hx⟩)
  simp only [List.map_nil] at h1
  rw [h1]
  have hp := insF_perm l []
  rw [List.nil_append] at hp
  rw [(sorted_is hp hk (insF_sorted l [] (by simpa using hk) List.Pairwise.nil (by simpa using ha))).2]
/-- Keys and values by turns. -/
def flatD : List (D × D) → List D
  | [] => []
  | (a, b) :: l => a :: b :: flatD l
theorem flatD_raw : ∀ l : List (V × V), flatD (l.map rawE) = rawL (flat l)
  | [] => rfl
  | (a, b) :: l => by simp only [List.map_cons, rawE, flatD, flat, rawL, flatD_raw l]
theorem flat_pairs : ∀ (n : Nat) (l : List V), l.length = 2 * n → flat (pairs l) = l
  | 0, l, h => by
    obtain rfl := List.eq_nil_of_length_eq_zero (by omega : l.length = 0)
    rfl
  | n + 1, a :: b :: l, h => by
    simp only [pairs, flat]
    rw [flat_pairs n l (by simp at h; omega)]
/-- The keys. -/
def evens {α : Type} : List α → List α
  | [] => []
  | [x] => [x]
  | x :: _ :: l => x :: evens l
theorem pairs_keys : ∀ (l : List V), l.length % 2 = 0 → (pairs l).map (·.1) = evens l
  | [], _ => rfl
  | [x], h => by simp at h
  | x :: y :: l, h => by simp only [pairs, List.map_cons, evens]; rw [pairs_keys l (by simp at h; omega)]
theorem evens_map {α β : Type} (f : α → β) : ∀ l : List α, evens (l.map f) = (evens l).map f
  | [] => rfl
  | [x] => rfl
  | x :: y :: l => by simp only [List.map_cons, evens, evens_map f l]
theorem evens_mem {α : Type} : ∀ (l : List α) (x : α), x ∈ evens l → x ∈ l
  | [], x, h => h
  | [y], x, h => h
  | y :: z :: l, x, h => by
    simp only [evens, List.mem_cons] at h ⊢
    rcases h with h | h
    · exact .inl h
    · exact .inr (.inr (evens_mem l x h))
theorem keys_evens : ∀ l : List D, keysL l = (evens l).all fun x => keyK x.kind
  | [] => rfl
  | [x] => by simp [keysL, evens]
  | x :: y :: l => by simp only [keysL, evens, List.all_cons, keys_evens l]
theorem key_leaf {x : D} (h : keyK x.kind = true) : mkV x = some (leafV x) ∧ KeyV (leafV x) := by
  have hk : (1 ≤ x.kind ∧ x.kind ≤ 11) ∨ x.kind = 16 := by simpa [keyK] using h
  refine ⟨mkV_leaf (by omega), ?_⟩
  have := leafV_ok x (by omega) (by omega)
  revert this
  unfold leafV
  rw [if_neg (by omega)]
  repeat' split
  all_goals exact fun h => ⟨_, rfl, h⟩
theorem evens_mk : ∀ (l : List D) {ys : List V}, mkL l = some ys → keysL l = true → evens ys = (evens l).map leafV
  | [], ys, h, _ => by simp only [mkL, Option.some.injEq] at h; subst h; rfl
  | [x], ys, h, hk => by
    have := (key_leaf (by simpa [keysL] using hk)).1
    simp only [mkL, this, Option.some.injEq] at h
    subst h
    rfl
  | x :: y :: l, ys, h, hk => by
    simp only [keysL, Bool.and_eq_true] at hk
    have hx := (key_leaf hk.1).1
    simp only [mkL, hx] at h
    cases hy : mkV y with
    | none => rw [hy] at h; cases h
    | some y' =>
      rw [hy] at h
      cases hl : mkL l with
      | none => rw [hl] at h; cases h
      | some ys' =>
        rw [hl] at h
        injection h with h
        subst h
        simp only [evens, List.map_cons, evens_mk l hl hk.2]
/-- The keys of a map's descriptor are keys. -/
theorem keyd_mk {ps : List D} {l : List V} (hm : mkL ps = some l) (hk : keysL ps = true) (h2 : ps.length % 2 = 0) : Keyd (pairs l) := by
  intro a ha
  have h1 : a.1 ∈ (pairs l).map (·.1) := List.mem_map.2 ⟨a, ha, rfl⟩
  rw [pairs_keys l (by rw [mkL_length _ hm]; exact h2), evens_mk ps hm hk] at h1
  obtain ⟨x, hx, e⟩ := List.mem_map.1 h1
  rw [keys_evens, List.all_eq_true] at hk
  rw [← e]
  exact (key_leaf (hk x hx)).2
/-- Is something there twice? -/
def twB (d : D) : Bool :=
  if d.kind = 18 then !decide d.names.Nodup else if d.kind = 21 then !decide (((evens d.parts).map leafV).Pairwise fun a b => ordV a b ≠ 0) else false
theorem apart_keys {l : List (V × V)} : Apart l ↔ (l.map (·.1)).Pairwise fun a b => ordV a b ≠ 0 := by
  unfold Apart
  rw [List.pairwise_map]
theorem great_some {d : D} {l : List V} (hf : formB d = true) (hm : mkL d.parts = some l) : greatV d l = none ↔ twB d = true := by
  unfold greatV twB
  by_cases h18 : d.kind = 18
  · rw [if_pos h18, if_pos h18]
    by_cases hn : d.names.Nodup <;> simp [hn]
  · rw [if_neg h18, if_neg h18]
    by_cases h21 : d.kind = 21
    · rw [if_pos h21, if_pos h21]
      have hf2 : keysL d.parts = true ∧ d.parts.length % 2 = 0 := by
        unfold formB at hf
        rw [if_neg h18, if_pos h21] at hf
        simp only [Bool.and_eq_true, decide_eq_true_eq] at hf
        exact hf.2
      have e : Apart (pairs l) ↔ ((evens d.parts).map leafV).Pairwise fun a b => ordV a b ≠ 0 := by
        rw [apart_keys, pairs_keys l (by rw [mkL_length _ hm]; exact hf2.2), evens_mk _ hm hf2.1]
      by_cases ha : Apart (pairs l)
      · rw [if_pos ha, decide_eq_true (e.1 ha)]; simp
      · rw [if_neg ha, decide_eq_false (fun h => ha (e.2 h))]; simp
    · rw [if_neg h21, if_neg h21]
      by_cases h22 : d.kind = 22
      · rw [if_pos h22]; simp
      · rw [if_neg h22]; simp
theorem mkL_some : ∀ l : List D, (∃ ys, mkL l = some ys) ↔ ∀ x ∈ l, mkV x ≠ none
  | [] => by simp [mkL]
  | x :: l => by
    have := mkL_some l
    simp only [mkL, List.mem_cons, forall_eq_or_imp, ← this]
    cases hx : mkV x with
    | none => simp
    | some y =>
      cases hl : mkL l with
      | none => simp
      | some ys => simp
theorem twice_is : ∀ d : D, allD kindB d = true → allD formB d = true → (mkV d = none ↔ allD (fun x => !twB x) d = false) := by
  refine D.induct_d fun d ih hk hf => ?_
  rw [allD_eq, Bool.and_eq_true, allL_iff] at hk hf
  have hk1 : 0 ≤ d.kind ∧ d.kind ≤ 22 := by simpa [kindB] using hk.1
  by_cases h18 : d.kind < 18
  · have hp : partsOf d = [] := by unfold partsOf; rw [show greatK d.kind = false by simp [greatK]; omega]; rfl
    rw [allD_eq, hp, mkV_leaf h18]
    have : twB d = false := by unfold twB; rw [if_neg (by omega), if_neg (by omega)]
    simp [this, allL]
  · have hp : partsOf d = d.parts := by unfold partsOf; rw [show greatK d.kind = true by simp [greatK]; omega]; rfl
    rw [hp] at hk hf
    rw [allD_eq, hp, mkV_great (by omega)]
    have ih2 : ∀ x ∈ d.parts, (mkV x ≠ none ↔ allD (fun x => !twB x) x = true) := fun x hx => by
      have := ih x hx (hk.2 x hx) (hf.2 x hx)
      rw [ne_eq, this]; simp
    by_cases ha : ∃ l, mkL d.parts = some l
    · obtain ⟨l, hl⟩ := ha
      have h1 : allL (fun x => !twB x) d.parts = true := (allL_iff _ _).2 fun x hx => (ih2 x hx).1 ((mkL_some _).1 ⟨l, hl⟩ x hx)
      rw [hl, h1, Bool.and_true, Option.bind_some, great_some hf.1 hl]
      simp
    · have hn : mkL d.parts = none := by
        cases h : mkL d.parts with
        | none => rfl
        | some l => exact absurd ⟨l, h⟩ ha
      have h1 : allL (fun x => !twB x) d.parts = false := by
        cases h : allL (fun x => !twB x) d.parts with
        | false => rfl
        | true => exact absurd ((mkL_some _).2 fun x hx => (ih2 x hx).2 ((allL_iff _ _).1 h x hx)) ha
      rw [hn, h1, Bool.and_false]
      simp
end Go.Proofs.Ythpgnhmikffcpaa

/- A row of descriptors, keys and values by turns, behind the reference's sorting. No condition. -/
namespace Go.Proofs.Ythpgnhmikffcpaa
set_option linter.unusedVariables false
set_option linter.unusedSimpArgs false
open Go.RowKit

theorem ins_des {α : Type} (des : α → D) (e : α × α) : ∀ l, (insG des e l).map (fun p => (des p.1, des p.2)) = insD (des e.1, des e.2) (l.map fun p => (des p.1, des p.2))
  | [] => rfl
  | x :: l => by
    unfold insG
    simp only [List.map_cons, insD]
    split
    · rfl
    · rw [List.map_cons, ins_des des e l]
theorem sort_des {α : Type} (des : α → D) : ∀ l acc, (sortG des acc l).map (fun p => (des p.1, des p.2)) = sortD (acc.map fun p => (des p.1, des p.2)) (l.map fun p => (des p.1, des p.2))
  | [], acc => rfl
  | e :: l, acc => by simp only [List.map_cons, sortG, sortD]; rw [sort_des des l, ins_des]
theorem flat_des {α : Type} (des : α → D) : ∀ l : List (α × α), (flatG l).map des = flatD (l.map fun p => (des p.1, des p.2))
  | [] => rfl
  | (a, b) :: l => by simp only [flatG, List.map_cons, flatD, flat_des des l]
/-- By twos. -/
def pairsG {α : Type} : List α → List (α × α)
  | a :: b :: l => (a, b) :: pairsG l
  | _ => []
theorem flat_pairsG {α : Type} : ∀ (n : Nat) (l : List α), l.length = 2 * n → flatG (pairsG l) = l ∧ (pairsG l).length = n
  | 0, l, h => by
    obtain rfl := List.eq_nil_of_length_eq_zero (by omega : l.length = 0)
    exact ⟨rfl, rfl⟩
  | n + 1, a :: b :: l, h => by
    have := flat_pairsG n l (by simp at h; omega)
    simp only [pairsG, flatG, List.length_cons]
    exact ⟨by rw [this.1], by rw [this.2]⟩
theorem pairsG_map {α β : Type} (f : α → β) : ∀ l : List α, pairsG (l.map f) = (pairsG l).map fun p => (f p.1, f p.2)
  | [] => rfl
  | [x] => rfl
  | a :: b :: l => by simp only [List.map_cons, pairsG, pairsG_map f l]
theorem pairsG_raw : ∀ l : List V, pairsG (rawL l) = (pairs l).map rawE
  | [] => rfl
  | [x] => rfl
  | a :: b :: l => by simp only [rawL, pairsG, pairs, List.map_cons, rawE, pairsG_raw l]
theorem own_mono {w : World} {lo lo' : Nat} {e : TypeId} {size : Nat} {v : Value} {n : Nat} {xs : List Value} (h : w.ownsRow lo e size v n xs) (hl : lo' ≤ lo) : w.ownsRow lo' e size v n xs := by
  obtain ⟨h1, h2⟩ := h
  refine ⟨h1, ?_⟩
  rcases h2 with h2 | ⟨g, cap, cur, e1, e2, e3⟩
  · exact .inl h2
  · exact .inr ⟨g, cap, cur, e1, by omega, e3⟩
/-- An item of a row: its value, its descriptor, its blocks. -/
abbrev It := Value × D × (Nat → Prop)
/-- The row's items. -/
theorem DRow.items {lo : Nat} {vn v : Value} {us : List Value} {ds : List D} {w : World} (h : DRow lo vn v us ds w) :
    ∃ its : List It, its.map (·.1) = us ∧ its.map (·.2.1) = ds ∧ (∀ x ∈ its, IsDF w x.2.2 x.1 x.2.1 ∧ ∀ k, x.2.2 k → lo ≤ k ∧ k < w.heap.size ∧ v.ownBlock ≠ some k ∧ vn.ownBlock ≠ some k) ∧ its.Pairwise fun a b => ∀ k, a.2.2 k → ¬ b.2.2 k := by
  obtain ⟨R, r1, r2, r3⟩ := h.ex
  have hl := h.len
  refine ⟨(List.range us.length).map fun i => (us.getD i undef, ds.getD i zeroD, R i), ?_, ?_, ?_, ?_⟩
  · rw [List.map_map]
    refine List.ext_getElem (by simp) fun i h1 h2 => ?_
    simp [List.getElem?_eq_getElem h2]
  · rw [List.map_map]
    refine List.ext_getElem (by simp [hl]) fun i h1 h2 => ?_
    simp [List.getElem?_eq_getElem h2]
  · intro x hx
    obtain ⟨i, hi, rfl⟩ := List.mem_map.1 hx
    rw [List.mem_range] at hi
    have hi' : i < ds.length := by omega
    refine ⟨?_, fun k hk => r2 i k hk⟩
    have := r1 i hi hi'
    simpa [List.getElem?_eq_getElem hi, List.getElem?_eq_getElem hi'] using this
  · rw [List.pairwise_map]
    refine List.Pairwise.imp ?_ (List.nodup_range (n := us.length))
    intro a b hab k
    exact r3 a b k hab
theorem pairwise_perm {its its' : List It} (hp : its'.Perm its) (h : its.Pairwise fun a b => ∀ k, a.2.2 k → ¬ b.2.2 k) : its'.Pairwise fun a b => ∀ k, a.2.2 k → ¬ b.2.2 k :=
  (List.Perm.pairwise_iff (fun {a b} h k hb ha => h k ha hb) hp).2 h
/-- A new row of the same items. -/
theorem DRow.of_items {lo : Nat} {vn v v' : Value} {w w' : World} {its its' : List It} (hp : its'.Perm its)
    (hits : ∀ x ∈ its, IsDF w x.2.2 x.1 x.2.1 ∧ ∀ k, x.2.2 k → lo ≤ k ∧ k < w.heap.size ∧ v.ownBlock ≠ some k ∧ vn.ownBlock ≠ some k) (hpw : its.Pairwise fun a b => ∀ k, a.2.2 k → ¬ b.2.2 k)
    (hb : Below w.heap.size w w') (hlo : lo ≤ w.heap.size) (hvn : ∀ k, vn.ownBlock = some k → k < w.heap.size) (hown : w'.ownsRow w.heap.size 26 8 v' its'.length (flatV8 (its'.map (·.1)))) : DRow lo vn v' (its'.map (·.1)) (its'.map (·.2.1)) w' := by
  have hz := hb.size
  have hmem : ∀ j (h : j < its'.length), its'[j] ∈ its := fun j h => hp.mem_iff.1 (List.getElem_mem h)
  have hlt : ∀ k, v'.ownBlock = some k → w.heap.size ≤ k := fun k hk => (hown.lt k hk).1
  refine ⟨by rw [List.length_map]; exact own_mono hown hlo, by simp, fun u hu => ?_, ⟨fun j k => ∃ h : j < its'.length, its'[j].2.2 k, fun j hj hj' => ?_, fun j k hk => ?_, fun i j k hij h1 h2 => ?_⟩, fun k hk e => ?_⟩
  · obtain ⟨x, hx, rfl⟩ := List.mem_map.1 hu
    exact (hits x (hp.mem_iff.1 hx)).1.isD.eight
  · have hj2 : j < its'.length := by simpa using hj
    rw [List.getElem_map, List.getElem_map]
    exact ((hits _ (hmem j hj2)).1.later hb).mono fun k hk => ⟨hj2, hk⟩
  · obtain ⟨hj, hk⟩ := hk
    have q := (hits _ (hmem j hj)).2 k hk
    exact ⟨q.1, by omega, fun e => by have := hlt k e; omega, q.2.2.2⟩
  · obtain ⟨hi, hki⟩ := h1
    obtain ⟨hj, hkj⟩ := h2
    have hpw' := List.pairwise_iff_getElem.1 (pairwise_perm hp hpw)
    rcases Nat.lt_or_ge i j with h | h
    · exact hpw' i j hi hj h k hki hkj
    · exact hpw' j i hj hi (by omega) k hkj hki
  · have h1 := hlt k hk
    have h2 := hvn k e
    omega
end Go.Proofs.Ythpgnhmikffcpaa
