/- A row of descriptors, keys and values by turns, behind the reference's sorting. No condition. -/
import Derived.Test.YtkpfeodffhfejaaGreatDoorCA24
import Derived.Test.YtkpfeodffhfejaaGreatDoorCA27
import Derived.Test.YtkpfeodffhfejaaGreatDoorCA25
import Derived.Deep.DeepCutAuto
import Derived.OrdersHeld
import Derived.RegionTactic
namespace Go.Proofs.YtkpfeodffhfejaaGreatDoor
set_option linter.unusedVariables false
set_option maxRecDepth 1000000
set_option linter.unusedSimpArgs false
open Go.RowKit

theorem ins_des {α : Type} (des : α → D) (e : α × α) : ∀ l, (insG des e l).map (fun p => (des p.1, des p.2)) = insD (des e.1, des e.2) (l.map fun p => (des p.1, des p.2))
  | [] => rfl
  | x :: l => by
    unfold insG
    simp only [List.map_cons, insD]
    split
    · rfl
    · rw [List.map_cons, ins_des des e l]
theorem sort_des {α : Type} (des : α → D) : ∀ l acc, (sortG des acc l).map (fun p => (des p.1, des p.2)) = sortD (acc.map fun p => (des p.1, des p.2)) (l.map fun p => (des p.1, des p.2))
  | [], acc => rfl
  | e :: l, acc => by simp only [List.map_cons, sortG, sortD]; rw [sort_des des l, ins_des]
theorem flat_des {α : Type} (des : α → D) : ∀ l : List (α × α), (flatG l).map des = flatD (l.map fun p => (des p.1, des p.2))
  | [] => rfl
  | (a, b) :: l => by simp only [flatG, List.map_cons, flatD, flat_des des l]
/-- By twos. -/
def pairsG {α : Type} : List α → List (α × α)
  | a :: b :: l => (a, b) :: pairsG l
  | _ => []
theorem flat_pairsG {α : Type} : ∀ (n : Nat) (l : List α), l.length = 2 * n → flatG (pairsG l) = l ∧ (pairsG l).length = n
  | 0, l, h => by
    obtain rfl := List.eq_nil_of_length_eq_zero (by omega : l.length = 0)
    exact ⟨rfl, rfl⟩
  | n + 1, a :: b :: l, h => by
    have := flat_pairsG n l (by simp at h; omega)
    simp only [pairsG, flatG, List.length_cons]
    exact ⟨by rw [this.1], by rw [this.2]⟩
theorem pairsG_map {α β : Type} (f : α → β) : ∀ l : List α, pairsG (l.map f) = (pairsG l).map fun p => (f p.1, f p.2)
  | [] => rfl
  | [x] => rfl
  | a :: b :: l => by simp only [List.map_cons, pairsG, pairsG_map f l]
theorem pairsG_raw : ∀ l : List V, pairsG (rawL l) = (pairs l).map rawE
  | [] => rfl
  | [x] => rfl
  | a :: b :: l => by simp only [rawL, pairsG, pairs, List.map_cons, rawE, pairsG_raw l]
theorem own_mono {w : World} {lo lo' : Nat} {e : TypeId} {size : Nat} {v : Value} {n : Nat} {xs : List Value} (h : w.ownsRow lo e size v n xs) (hl : lo' ≤ lo) : w.ownsRow lo' e size v n xs := by
  obtain ⟨h1, h2⟩ := h
  refine ⟨h1, ?_⟩
  rcases h2 with h2 | ⟨g, cap, cur, e1, e2, e3⟩
  · exact .inl h2
  · exact .inr ⟨g, cap, cur, e1, by omega, e3⟩
/-- An item of a row: its value, its descriptor, its blocks. -/
abbrev It := Value × D × (Nat → Prop)
/-- The row's items. -/
theorem DRow.items {lo : Nat} {vn v : Value} {us : List Value} {ds : List D} {w : World} (h : DRow lo vn v us ds w) :
    ∃ its : List It, its.map (·.1) = us ∧ its.map (·.2.1) = ds ∧ (∀ x ∈ its, IsDF w x.2.2 x.1 x.2.1 ∧ ∀ k, x.2.2 k → lo ≤ k ∧ k < w.heap.size ∧ v.ownBlock ≠ some k ∧ vn.ownBlock ≠ some k) ∧ its.Pairwise fun a b => ∀ k, a.2.2 k → ¬ b.2.2 k := by
  obtain ⟨R, r1, r2, r3⟩ := h.ex
  have hl := h.len
  refine ⟨(List.range us.length).map fun i => (us.getD i undef, ds.getD i zeroD, R i), ?_, ?_, ?_, ?_⟩
  · rw [List.map_map]
    refine List.ext_getElem (by simp) fun i h1 h2 => ?_
    simp [List.getElem?_eq_getElem h2]
  · rw [List.map_map]
    refine List.ext_getElem (by simp [hl]) fun i h1 h2 => ?_
    simp [List.getElem?_eq_getElem h2]
  · intro x hx
    obtain ⟨i, hi, rfl⟩ := List.mem_map.1 hx
    rw [List.mem_range] at hi
    have hi' : i < ds.length := by omega
    refine ⟨?_, fun k hk => r2 i k hk⟩
    have := r1 i hi hi'
    simpa [List.getElem?_eq_getElem hi, List.getElem?_eq_getElem hi'] using this
  · rw [List.pairwise_map]
    refine List.Pairwise.imp ?_ (List.nodup_range (n := us.length))
    intro a b hab k
    exact r3 a b k hab
theorem pairwise_perm {its its' : List It} (hp : its'.Perm its) (h : its.Pairwise fun a b => ∀ k, a.2.2 k → ¬ b.2.2 k) : its'.Pairwise fun a b => ∀ k, a.2.2 k → ¬ b.2.2 k :=
  (List.Perm.pairwise_iff (fun {a b} h k hb ha => h k ha hb) hp).2 h
/-- A new row of the same items. -/
theorem DRow.of_items {lo : Nat} {vn v v' : Value} {w w' : World} {its its' : List It} (hp : its'.Perm its)
    (hits : ∀ x ∈ its, IsDF w x.2.2 x.1 x.2.1 ∧ ∀ k, x.2.2 k → lo ≤ k ∧ k < w.heap.size ∧ v.ownBlock ≠ some k ∧ vn.ownBlock ≠ some k) (hpw : its.Pairwise fun a b => ∀ k, a.2.2 k → ¬ b.2.2 k)
    (hb : Below w.heap.size w w') (hlo : lo ≤ w.heap.size) (hvn : ∀ k, vn.ownBlock = some k → k < w.heap.size) (hown : w'.ownsRow w.heap.size 26 8 v' its'.length (flatV8 (its'.map (·.1)))) : DRow lo vn v' (its'.map (·.1)) (its'.map (·.2.1)) w' := by
  have hz := hb.size
  have hmem : ∀ j (h : j < its'.length), its'[j] ∈ its := fun j h => hp.mem_iff.1 (List.getElem_mem h)
  have hlt : ∀ k, v'.ownBlock = some k → w.heap.size ≤ k := fun k hk => (hown.lt k hk).1
  refine ⟨by rw [List.length_map]; exact own_mono hown hlo, by simp, fun u hu => ?_, ⟨fun j k => ∃ h : j < its'.length, its'[j].2.2 k, fun j hj hj' => ?_, fun j k hk => ?_, fun i j k hij h1 h2 => ?_⟩, fun k hk e => ?_⟩
  · obtain ⟨x, hx, rfl⟩ := List.mem_map.1 hu
    exact (hits x (hp.mem_iff.1 hx)).1.isD.eight
  · have hj2 : j < its'.length := by simpa using hj
    rw [List.getElem_map, List.getElem_map]
    exact ((hits _ (hmem j hj2)).1.later hb).mono fun k hk => ⟨hj2, hk⟩
  · obtain ⟨hj, hk⟩ := hk
    have q := (hits _ (hmem j hj)).2 k hk
    exact ⟨q.1, by omega, fun e => by have := hlt k e; omega, q.2.2.2⟩
  · obtain ⟨hi, hki⟩ := h1
    obtain ⟨hj, hkj⟩ := h2
    have hpw' := List.pairwise_iff_getElem.1 (pairwise_perm hp hpw)
    rcases Nat.lt_or_ge i j with h | h
    · exact hpw' i j hi hj h k hki hkj
    · exact hpw' j i hj hi (by omega) k hkj hki
  · have h1 := hlt k hk
    have h2 := hvn k e
    omega
end Go.Proofs.YtkpfeodffhfejaaGreatDoor

/- The descriptor of a list, of a map: raw. Condition: the values' numbers are in range. -/
namespace Go.Proofs.YtkpfeodffhfejaaGreatDoor
set_option linter.unusedVariables false
set_option maxRecDepth 1000000
set_option linter.unusedSimpArgs false
open Go.RowKit

theorem grown_below {w0 w w' : World} {p : Nat} (h : w0.grownBy w (some p)) (hb : Below w.heap.size w w') : w0.grownBy w' (some p) :=
  ⟨hb.os.trans h.os, hb.tape.trans h.tape, hb.output.trans h.output, Nat.le_trans h.size hb.size, fun k hk hp => (hb.block k (by have := h.size; omega)).trans (h.block k hk hp)⟩
theorem grown_row {w0 w w' : World} {p : Nat} {row : Option Nat} (h : w0.grownBy w (some p)) (hg : w.grownBy w' row) (hr : ∀ k, row = some k → w0.heap.size ≤ k) : w0.grownBy w' (some p) :=
  ⟨hg.os.trans h.os, hg.tape.trans h.tape, hg.output.trans h.output, Nat.le_trans h.size hg.size, fun k hk hp => (hg.block k (by have := h.size; omega) (fun e => by have := hr k e.symm; omega)).trans (h.block k hk hp)⟩
theorem grown_put {w0 w : World} {p : Nat} (h : w0.grownBy w (some p)) (i : Nat) (u : Value) : w0.grownBy (w.setCell ⟨p, i, none⟩ u) (some p) := by
  have hb := (Below.refl 0 w).setCell (p := ⟨p, i, none⟩) (Nat.zero_le _) u
  exact ⟨hb.os.trans h.os, hb.tape.trans h.tape, hb.output.trans h.output, Nat.le_trans h.size hb.size, fun k hk hp => (Below.heap_setCell w ⟨p, i, none⟩ u k (by intro e; exact hp (by rw [e]))).trans (h.block k hk hp)⟩
theorem grown_to_below {w w0 w' : World} {p : Nat} (h : Below w.heap.size w w0) (hg : w0.grownBy w' (some p)) (hp : w.heap.size ≤ p) : Below w.heap.size w w' :=
  h.grown hg h.size (fun k hk => by injection hk with hk; omega)
theorem ne_of_iface {W : World} {p bb o : Nat} {k : Int} {n : ByteArray} {b i : Int} {x : ByteArray} {a5 : Option Addr} {n5 c5 : Nat} {a6 : Option Addr} {n6 c6 : Nat} {h : Int} {t : TypeId} {y : Value}
    (hp : W.heap[p]? = some (.cells #[.int .i64 k, .string n, .int .u64 b, .int .u64 i, .string x, .slice a5 n5 c5, .slice a6 n6 c6, .int .i64 h] 26 (0, 0))) (hc : W.cell? ⟨bb, o, none⟩ = some (.iface t y)) : bb ≠ p := by
  intro e
  subst e
  simp only [World.cell?, hp] at hc
  match o, hc with
  | 0, hc => simp at hc
  | 1, hc => simp at hc
  | 2, hc => simp at hc
  | 3, hc => simp at hc
  | 4, hc => simp at hc
  | 5, hc => simp at hc
  | 6, hc => simp at hc
  | 7, hc => simp at hc
  | o + 8, hc => simp at hc
theorem isDF_row {w w' : World} {S : Nat → Prop} {g o : Nat} {d : D} (h : IsDF w S (rowD w g o) d) (hg : w'.heap[g]? = w.heap[g]?) (hs : ∀ k, k < w.heap.size → S k → w'.heap[k]? = w.heap[k]?) : IsDF w' S (rowD w' g o) d := by
  obtain ⟨x5, y5, x6, y6, hr, _⟩ := h.isD.row
  have hr' : RowD w' g o d x5 y5 x6 y6 := ⟨cell_block hg hr.k0, cell_block hg hr.k1, cell_block hg hr.k2, cell_block hg hr.k3, cell_block hg hr.k4, cell_block hg hr.k5, cell_block hg hr.k6, cell_block hg hr.k7⟩
  have := h.keep hs
  rw [hr.eq] at this
  rw [hr'.eq]; exact this
/-- A descriptor's value with its eight cells open. -/
def RawOpen (W : World) (x : V) (e : Ending) (w' : World) : Prop := Below W.heap.size W w' ∧ ∃ k0 ty b0 i0 tx a5 n5 c5 a6 n6 c6 h0, e = .returned (.agg #[.int .i64 k0, .string ty, .int .u64 b0, .int .u64 i0, .string tx, .slice a5 n5 c5, .slice a6 n6 c6, .int .i64 h0]) ∧
  IsDF w' (W.heap.size ≤ ·) (.agg #[.int .i64 k0, .string ty, .int .u64 b0, .int .u64 i0, .string tx, .slice a5 n5 c5, .slice a6 n6 c6, .int .i64 h0]) (rawV x)
theorem raw_open {W : World} {x : V} {e : Ending} {w' : World} (h : RawPost W x e w') : RawOpen W x e w' := by
  obtain ⟨h1, v, h2, h3⟩ := h
  refine ⟨h1, ?_⟩
  generalize hd : rawV x = d at h3 ⊢
  have h4 := h3
  cases h3 with
  | mk S d a5 c5 a6 c6 b5 o5 b6 o6 P hk hb hi hh ht hx n1 n2 n3 n4 n5 p1 p2 p3 p4 p5 p6 p7 p8 => exact ⟨_, _, _, _, _, _, _, _, _, _, _, _, h2, h4⟩
theorem Blk.keep {w w' : World} {b : Nat} {v0 v1 v2 v3 v4 v5 v6 v7 : Value} (hb : w'.heap[b]? = w.heap[b]?) (h : Blk w b v0 v1 v2 v3 v4 v5 v6 v7) : Blk w' b v0 v1 v2 v3 v4 v5 v6 v7 :=
  ⟨cell_block hb h.c0, cell_block hb h.c1, cell_block hb h.c2, cell_block hb h.c3, cell_block hb h.c4, cell_block hb h.c5, cell_block hb h.c6, cell_block hb h.c7, fun j => by rw [frozen_blk hb]; exact h.f j⟩
theorem Blk.put6 {w : World} {b : Nat} {v0 v1 v2 v3 v4 v5 v6 v7 : Value} (h : Blk w b v0 v1 v2 v3 v4 v5 v6 v7) (u : Value) : Blk (w.setCell ⟨b, 6, none⟩ u) b v0 v1 v2 v3 v4 v5 u v7 :=
  ⟨vput_other h.c0 (by decide), vput_other h.c1 (by decide), vput_other h.c2 (by decide), vput_other h.c3 (by decide), vput_other h.c4 (by decide), vput_other h.c5 (by decide), vput_same h.c6, vput_other h.c7 (by decide), fun j => by simpa using h.f j⟩
theorem Blk.put5 {w : World} {b : Nat} {v0 v1 v2 v3 v4 v5 v6 v7 : Value} (h : Blk w b v0 v1 v2 v3 v4 v5 v6 v7) (u : Value) : Blk (w.setCell ⟨b, 5, none⟩ u) b v0 v1 v2 v3 v4 u v6 v7 :=
  ⟨vput_other h.c0 (by decide), vput_other h.c1 (by decide), vput_other h.c2 (by decide), vput_other h.c3 (by decide), vput_other h.c4 (by decide), vput_same h.c5, vput_other h.c6 (by decide), vput_other h.c7 (by decide), fun j => by simpa using h.f j⟩
end Go.Proofs.YtkpfeodffhfejaaGreatDoor

/- A region that draws its order: an operation that yields what it yields while a condition on the world holds may be taken first, though late operations, that wait for it, break the condition. No condition. -/
namespace Go.Proofs.YtkpfeodffhfejaaGreatDoor
set_option linter.unusedVariables false
open Go

section
variable {P : Program} {ops : Array Oper} {Q : Exit → Act → World → Prop} {md : Region.Mode} {S T : World → Prop} {late : List Nat}

/-- No late operation has come up. -/
def quietB (late : List Nat) (listed : Array Bool) : Bool := late.all fun j => !(listed.getD j false)
theorem quiet_set {i : Nat} (h : i ∉ late) (listed : Array Bool) : quietB late (listed.setIfInBounds i true) = quietB late listed := by
  unfold quietB
  rw [Bool.eq_iff_iff, List.all_eq_true, List.all_eq_true]
  have key : ∀ j ∈ late, (listed.setIfInBounds i true).getD j false = listed.getD j false := by
    intro j hj
    have hij : i ≠ j := fun e => h (e ▸ hj)
    simp only [Array.getD_eq_getD_getElem?, Array.getElem?_setIfInBounds, if_neg hij]
  exact ⟨fun q j hj => by rw [← key j hj]; exact q j hj, fun q j hj => by rw [key j hj]; exact q j hj⟩
/-- Any order from here on; T holds behind each operation, S too as long as no late one has come up. -/
def AnyLate (P : Program) (md : Region.Mode) (ops : Array Oper) (Q : Exit → Act → World → Prop) (late : List Nat) (S T : World → Prop) : Nat → Array Bool → Act → World → Prop
  | 0, listed, a, w => Region.ready md ops listed = [] ∧ Q .normal a w
  | n + 1, listed, a, w =>
    (Region.ready md ops listed = [] → Q .normal a w) ∧
      ∀ i ∈ Region.ready md ops listed, wpOp P ops Q i (fun a' w' => ((quietB late (listed.setIfInBounds i true) = true → S w') ∧ T w') ∧ AnyLate P md ops Q late S T n (listed.setIfInBounds i true) a' w') a w
theorem any_of_late : ∀ (n : Nat) (listed : Array Bool) (a : Act) (w : World), AnyLate P md ops Q late S T n listed a w → wpAny P md ops Q n listed a w
  | 0, _, _, _, h => h
  | n + 1, _, _, _, h => ⟨h.1, fun i hi => wpOp_mono (fun a' w' h' => any_of_late n _ a' w' h'.2) (h.2 i hi)⟩
/-- All late operations wait for operation i. -/
def waitB (md : Region.Mode) (ops : Array Oper) (late : List Nat) (i : Nat) : Bool :=
  late.all fun j => match ops[j]? with
    | some o => o.after.any fun e => Region.binds md e && e.on == i
    | none => true
theorem late_first {i : Nat} {oi : Oper} {v : Value} (hi : ops[i]? = some oi) (hsel : ∀ (j : Nat) (o : Oper) cs b, ops[j]? = some o → o.op ≠ .select cs b)
    (hQ : ∀ c a w, Q (.panic c) (a.put oi.dst v) w → Q (.panic c) a w) (hil : i ∉ late) (fl : Bool) (hl : fl = true → waitB md ops late i = true) :
    ∀ (n : Nat) (listed : Array Bool) (a : Act) (w : World),
      (∀ j oj, ops[j]? = some oj → j ≠ i → listed.getD j true = false → (∀ e ∈ oj.after, Region.binds md e = true → e.on ≠ i) → oi.apart ops oj = true) →
      i ∈ Region.ready md ops listed → YieldsIf P ops (fun w => (fl = true → S w) ∧ T w) oi v a → (quietB late listed = true → S w) → T w → (fl = true → quietB late listed = true) →
      AnyLate P md ops Q late S T n (listed.setIfInBounds i true) (a.put oi.dst v) w → AnyLate P md ops Q late S T (n + 1) listed a w := by
  intro n
  induction n with
  | zero =>
    intro listed a w _ hr hy hS hT hq H
    refine ⟨fun h => (by rw [h] at hr; cases hr), fun j hj => ?_⟩
    by_cases hji : j = i
    · subst hji; exact hy.wpOp hi ⟨fun h => hS (hq h), hT⟩ ⟨⟨fun h => hS (by rw [quiet_set hil] at h; exact h), hT⟩, H⟩
    · have := ready_mono hj hji
      rw [H.1] at this
      cases this
  | succ n ih =>
    intro listed a w hfree hr hy hS hT hq H
    refine ⟨fun h => (by rw [h] at hr; cases hr), fun j hj => ?_⟩
    by_cases hji : j = i
    · subst hji; exact hy.wpOp hi ⟨fun h => hS (hq h), hT⟩ ⟨⟨fun h => hS (by rw [quiet_set hil] at h; exact h), hT⟩, H⟩
    · have h1 := H.2 j (ready_mono hj hji)
      obtain ⟨hjun, oj, hoj, hall⟩ := mem_ready.1 hj
      have hnot : ∀ e ∈ oj.after, Region.binds md e = true → e.on ≠ i := fun e he hb heq => by
        have h1 := hall e he hb
        have h0 := (mem_ready.1 hr).1
        rw [heq] at h1
        rcases Nat.lt_or_ge i listed.size with h' | h'
        · simp [h'] at h0 h1; rw [h0] at h1; cases h1
        · simp [Array.getElem?_eq_none h'] at h1
      have hjl : fl = true → j ∉ late := fun hfl hm => by
        have := List.all_eq_true.1 (hl hfl) j hm
        rw [hoj] at this
        simp only [Array.any_eq_true, Bool.and_eq_true, beq_iff_eq] at this
        obtain ⟨k, hk, hb, he⟩ := this
        exact hnot _ (Array.getElem_mem hk) hb he
      have h2 := wpOp_putIf hoj (hfree j oj hoj hji hjun hnot) (fun cs b => hsel i oi cs b hi) (fun cs b => hsel j oj cs b hoj) hQ hy h1
      have hfree' : ∀ k ok, ops[k]? = some ok → k ≠ i → (listed.setIfInBounds j true).getD k true = false →
          (∀ e ∈ ok.after, Region.binds md e = true → e.on ≠ i) → oi.apart ops ok = true := fun k ok hk hki hun hno => by
        refine hfree k ok hk hki ?_ hno
        by_cases hjk : j = k
        · subst hjk; exact hjun
        · rw [getD_set_ne true hjk] at hun; exact hun
      refine wpOp_mono (fun a' w' h3 => ?_) h2
      obtain ⟨h3y, ⟨h3s, h3t⟩, h3a⟩ := h3
      rw [Array.setIfInBounds_comm _ _ (Ne.symm hji), quiet_set hil] at h3s
      refine ⟨⟨h3s, h3t⟩, ih (listed.setIfInBounds j true) a' w' hfree' (ready_mono hr (Ne.symm hji)) h3y h3s h3t (fun h => by rw [quiet_set (hjl h)]; exact hq h) ?_⟩
      rw [Array.setIfInBounds_comm _ _ hji]
      exact h3a
/-- Take number i first. -/
theorem late_take {i : Nat} {oi : Oper} (v : Value) (fl : Bool) {n : Nat} {listed : Array Bool} {a : Act} {w : World} (hi : ops[i]? = some oi)
    (hs : Region.noSelect ops = true) (hf : Region.free md ops listed i = true) (hr : (Region.ready md ops listed).contains i = true) (hil : late.contains i = false) (hl : fl = true → waitB md ops late i = true)
    (hQ : ∀ c a w, Q (.panic c) (a.put oi.dst v) w → Q (.panic c) a w) (hw : Region.wanted oi (yielded ops a.tmps) = true) (hy : ∀ w, (fl = true → S w) → T w → (execOp a.eval oi).run P w = .ok (.value v) w)
    (hS : quietB late listed = true → S w) (hT : T w) (hq : fl = true → quietB late listed = true)
    (h : AnyLate P md ops Q late S T n (listed.setIfInBounds i true) (a.put oi.dst v) w) : AnyLate P md ops Q late S T (n + 1) listed a w :=
  late_first hi (Region.noSelect_spec hs) hQ (by simpa using hil) fl hl n listed a w (Region.free_spec hi hf) (by simpa using hr) (.inl ⟨hw, fun w h => hy w h.1 h.2⟩) hS hT hq h
/-- One alone may come up. -/
theorem late_one (k : Nat) {o : Oper} {n : Nat} {listed : Array Bool} {a : Act} {w : World} (ho : ops[k]? = some o) (hr : Region.ready md ops listed = [k])
    (h : ∀ K : Act → World → Prop, (∀ a' w', (quietB late (listed.setIfInBounds k true) = true → S w') → T w' → AnyLate P md ops Q late S T n (listed.setIfInBounds k true) a' w' → K a' w') →
      if Region.wanted o (yielded ops a.tmps) = true then Oper.wp P o a w K Q else K (a.put o.dst undef) w) : AnyLate P md ops Q late S T (n + 1) listed a w := by
  refine ⟨(fun h0 => by rw [hr] at h0; cases h0), fun i hi => ?_⟩
  rw [hr] at hi
  obtain rfl := List.mem_singleton.1 hi
  have q := h (fun a' w' => ((quietB late (listed.setIfInBounds i true) = true → S w') ∧ T w') ∧ AnyLate P md ops Q late S T n (listed.setIfInBounds i true) a' w') fun a' w' h1 h2 h3 => ⟨⟨h1, h2⟩, h3⟩
  unfold wpOp
  simp only [ho]
  split
  · rename_i hw
    rw [if_pos hw] at q
    exact .inl q
  · rename_i hw
    rw [if_neg hw] at q
    exact q
theorem late_done {listed : Array Bool} {a : Act} {w : World} (hr : Region.ready md ops listed = []) (h : Q .normal a w) : ∀ n, AnyLate P md ops Q late S T n listed a w
  | 0 => ⟨hr, h⟩
  | _ + 1 => ⟨fun _ => h, by rw [hr]; simp⟩
theorem late_begin (late : List Nat) (S T : World → Prop) {id : Nat} {a : Act} {w : World} (hm : P.follows .mixedOrders = true) (h : AnyLate P .any ops Q late S T ops.size (Array.replicate ops.size false) a w.drew) : (Code.region id ops true).wp P Q a w :=
  wp_region_any hm (any_of_late _ _ _ _ h)
end
section
variable {P : Program} {ops : Array Oper} {Q : Exit → Act → World → Prop} {md : Region.Mode} {S T : World → Prop} {late : List Nat}
/-- An operation that its guard passes over is taken first. -/
theorem late_skip {i : Nat} {oi : Oper} {n : Nat} {listed : Array Bool} {a : Act} {w : World} (hi : ops[i]? = some oi)
    (hs : Region.noSelect ops = true) (hf : Region.free md ops listed i = true) (hr : (Region.ready md ops listed).contains i = true) (hil : late.contains i = false)
    (hQ : ∀ c a w, Q (.panic c) (a.put oi.dst undef) w → Q (.panic c) a w) (hw : Region.wanted oi (yielded ops a.tmps) = false)
    (hS : quietB late listed = true → S w) (hT : T w) (h : AnyLate P md ops Q late S T n (listed.setIfInBounds i true) (a.put oi.dst undef) w) : AnyLate P md ops Q late S T (n + 1) listed a w :=
  late_first hi (Region.noSelect_spec hs) hQ (by simpa using hil) false (fun h => by cases h) n listed a w (Region.free_spec hi hf) (by simpa using hr) (.inr ⟨hw, rfl⟩) hS hT (fun h => by cases h) h
end
end Go.Proofs.YtkpfeodffhfejaaGreatDoor

/- The descriptor of a struct: raw. Condition: the values' numbers are in range. -/
namespace Go.Proofs.YtkpfeodffhfejaaGreatDoor
set_option linter.unusedVariables false
set_option maxRecDepth 1000000
set_option linter.unusedSimpArgs false
open Go.RowKit

theorem names_row {lo : Nat} {vn : Value} {names : List ByteArray} {w : World} (h : w.ownsRow lo 9 1 vn names.length (names.map Value.string)) :
    ∃ a c g, vn = .slice a names.length c ∧ names.length ≤ c ∧ (0 < names.length → a = some ⟨g, 0, none⟩ ∧ lo ≤ g ∧ g < w.heap.size) ∧ (∀ i (h : i < names.length), w.cell? ⟨g, 0 + i, none⟩ = some (.string names[i])) ∧ ∀ i, i < names.length → w.frozen? ⟨g, 0 + i, none⟩ = false := by
  by_cases h0 : 0 < names.length
  · obtain ⟨g, cap, e1, e2, e3, e4, e5, e6⟩ := owns_cell h h0
    refine ⟨_, cap, g, e1, e4, fun _ => ⟨rfl, e2, e3⟩, fun i hi => ?_, fun i hi => ?_⟩
    · rw [Nat.zero_add]; exact e6 i _ (by simp [hi])
    · rcases h.2 with ⟨e, _⟩ | ⟨g', cap', cur, e1', _, e3', _⟩
      · rw [e1] at e; cases e
      · rw [e1] at e1'
        injection e1' with e1' _ _
        injection e1' with e1'
        injection e1' with e1' _ _
        subst e1'
        simp [World.frozen?, e3']
  · have e : names.length = 0 := by omega
    rcases h.2 with ⟨h1, _⟩ | ⟨g, cap, cur, h1, _⟩
    · exact ⟨none, 0, 0, by rw [h1, e], by omega, fun h => absurd h h0, fun i h => by omega, fun i h => by omega⟩
    · exact ⟨_, cap, 0, h1, by omega, fun h => absurd h h0, fun i h => by omega, fun i h => by omega⟩
end Go.Proofs.YtkpfeodffhfejaaGreatDoor
