/- The index of an argument: parse's spoilt, and, index. No condition but the texts' sizes. -/
import Derived.Test.YtnalppgjbllehaaGreatDoorL04
namespace Go.Proofs.YtnalppgjbllehaaGreatDoor
set_option linter.unusedVariables false
set_option linter.unusedSimpArgs false
open Go.RowKit

def spoiltI (x : IdxD) : IdxD := if x.kind = 0 then x else ⟨2, 0⟩
def andI (x y : IdxD) : IdxD := if y.kind = 0 then x else if x.kind = 0 then y else ⟨2, 0⟩
set_option maxHeartbeats 4000000 in
set_option maxRecDepth 1000000 in
theorem spoilt_any (x : IdxD) (w : World) :
    Calls Tryz.prog 75 #[.agg #[.int .i64 x.kind, .int .i64 x.n]] w (Ret w (.agg #[.int .i64 (spoiltI x).kind, .int .i64 (spoiltI x).n])) := by
  by_cases h : x.kind = 0
  · have e : spoiltI x = x := by unfold spoiltI; rw [if_pos h]
    rw [e]
    have e1 : (x.kind == 0) = true := by simp [h]
    clear e h
    go_enter Tryz.func75, Tryz.ntmps75
    go_wp2_with fail
    refine bodyPost_ret (v := .agg #[.int .i64 x.kind, .int .i64 x.n]) (by simp [results, Tryz.f75, go_sem]) rfl ?_
    exact ⟨rfl, (Below.new _).push _⟩
  · have e : spoiltI x = ⟨2, 0⟩ := by unfold spoiltI; rw [if_neg h]
    rw [e]
    have e1 : (x.kind == 0) = false := by simp [h]
    clear e h
    go_enter Tryz.func75, Tryz.ntmps75
    go_wp2_with fail
    refine bodyPost_ret (v := .agg #[.int .i64 2, .int .i64 0]) (by simp [results, Tryz.f75, go_sem]) rfl ?_
    exact ⟨rfl, (Below.new _).push _⟩
set_option maxHeartbeats 4000000 in
set_option maxRecDepth 1000000 in
theorem and_any (x y : IdxD) (w : World) :
    Calls Tryz.prog 76 #[.agg #[.int .i64 x.kind, .int .i64 x.n], .agg #[.int .i64 y.kind, .int .i64 y.n]] w (Ret w (.agg #[.int .i64 (andI x y).kind, .int .i64 (andI x y).n])) := by
  by_cases h : y.kind = 0
  · have e : andI x y = x := by unfold andI; rw [if_pos h]
    rw [e]
    have e1 : (y.kind == 0) = true := by simp [h]
    clear e h
    go_enter Tryz.func76, Tryz.ntmps76
    go_wp2_with fail
    refine bodyPost_ret (v := .agg #[.int .i64 x.kind, .int .i64 x.n]) (by simp [results, Tryz.f76, go_sem]) rfl ?_
    exact ⟨rfl, ((Below.new _).push _).push _⟩
  · by_cases h2 : x.kind = 0
    · have e : andI x y = y := by unfold andI; rw [if_neg h, if_pos h2]
      rw [e]
      have e1 : (y.kind == 0) = false := by simp [h]
      have e2 : (x.kind == 0) = true := by simp [h2]
      clear e h h2
      go_enter Tryz.func76, Tryz.ntmps76
      go_wp2_with fail
      refine bodyPost_ret (v := .agg #[.int .i64 y.kind, .int .i64 y.n]) (by simp [results, Tryz.f76, go_sem]) rfl ?_
      exact ⟨rfl, ((Below.new _).push _).push _⟩
    · have e : andI x y = ⟨2, 0⟩ := by unfold andI; rw [if_neg h, if_neg h2]
      rw [e]
      have e1 : (y.kind == 0) = false := by simp [h]
      have e2 : (x.kind == 0) = false := by simp [h2]
      clear e h h2
      go_enter Tryz.func76, Tryz.ntmps76
      go_wp2_with fail
      refine bodyPost_ret (v := .agg #[.int .i64 2, .int .i64 0]) (by simp [results, Tryz.f76, go_sem]) rfl ?_
      exact ⟨rfl, ((Below.new _).push _).push _⟩
def indexI (t : ByteArray) : IdxD :=
  if bt t 0 = 91 then
    if (digD (drop1 t)).size = 0 ∨ bt (digR (drop1 t)) 0 ≠ 93 then ⟨2, 0⟩
    else if 0 < numB (digD (drop1 t)) 999999999 ∧ (digD (drop1 t)).size ≤ 9 then ⟨1, numB (digD (drop1 t)) 999999999⟩ else ⟨2, 0⟩
  else ⟨0, 0⟩
def indexR (t : ByteArray) : ByteArray :=
  if bt t 0 = 91 then
    if (digD (drop1 t)).size = 0 ∨ bt (digR (drop1 t)) 0 ≠ 93 then drop1 t else drop1 (digR (drop1 t))
  else t
/-- One block that was there is written to; more blocks are allowed. -/
structure One (b : Nat) (w w' : World) : Prop where
  os : w'.os = w.os
  tape : w'.tape = w.tape
  output : w'.output = w.output
  size : w.heap.size ≤ w'.heap.size
  block : ∀ k, k < w.heap.size → k ≠ b → w'.heap[k]? = w.heap[k]?
theorem One.refl (b : Nat) (w : World) : One b w w := ⟨rfl, rfl, rfl, Nat.le_refl _, fun _ _ _ => rfl⟩
theorem One.below {b : Nat} {w w' w'' : World} (h : One b w w') (hb : Below w'.heap.size w' w'') : One b w w'' :=
  ⟨hb.os.trans h.os, hb.tape.trans h.tape, hb.output.trans h.output, Nat.le_trans h.size hb.size, fun k hk hne => (hb.block k (Nat.lt_of_lt_of_le hk h.size)).trans (h.block k hk hne)⟩
theorem One.trans {b : Nat} {w w' w'' : World} (h : One b w w') (h2 : One b w' w'') : One b w w'' :=
  ⟨h2.os.trans h.os, h2.tape.trans h.tape, h2.output.trans h.output, Nat.le_trans h.size h2.size, fun k hk hne => (h2.block k (Nat.lt_of_lt_of_le hk h.size) hne).trans (h.block k hk hne)⟩
theorem One.put {b : Nat} {w w' : World} (h : One b w w') (j : Nat) (v : Value) : One b w (w'.setCell ⟨b, j, none⟩ v) :=
  ⟨h.os, h.tape, h.output, by simpa using h.size, fun k hk hne => (Below.heap_setCell _ _ _ _ hne).trans (h.block k hk hne)⟩
theorem One.push {b : Nat} {w w' : World} (h : One b w w') (o : Obj) : One b w (w'.alloc o) := h.below (Below.new o)
def IndexPost (b bx : Nat) (t : ByteArray) (w : World) (e : Ending) (w' : World) : Prop :=
  e = .returned (.agg #[.int .i64 (indexI t).kind, .int .i64 (indexI t).n]) ∧ Rdr w' b bx (indexR t) ∧ One b w w'
theorem bt_extract (t : ByteArray) (a b i : Nat) (h : i < (t.extract a b).size) : bt (t.extract a b) i = bt t (a + i) := by
  have h2 : a + i < t.size := by rw [ByteArray.size_extract] at h; omega
  unfold bt
  rw [dif_pos h, dif_pos h2, ByteArray.getElem_extract]
theorem digD_dg (t : ByteArray) : ∀ i, i < (digD t).size → isDg (bt (digD t) i) = true := by
  have key : ∀ (n : Nat) (k : Nat), k ≤ digF' n t k ∧ ∀ i, k ≤ i → i < digF' n t k → isDg (bt t i) = true := by
    intro n
    induction n with
    | zero => intro k; exact ⟨Nat.le_refl _, fun i h1 h2 => by simp [digF'] at h2; omega⟩
    | succ n ih =>
      intro k
      simp only [digF']
      split
      · rename_i h
        obtain ⟨a, b⟩ := ih (k + 1)
        refine ⟨by omega, fun i h1 h2 => ?_⟩
        by_cases e : i = k
        · rw [e]; exact h
        · exact b i (by omega) h2
      · exact ⟨Nat.le_refl _, fun i h1 h2 => by omega⟩
  intro i hi
  have h := (key t.size 0).2 i (Nat.zero_le _)
  have hsz : (digD t).size = min (digN t) t.size := by unfold digD; simp
  have h2 := h (by have := hsz; unfold digN at this; omega)
  have hb : bt (digD t) i = bt t i := by
    have := bt_extract t 0 (digN t) i hi
    rw [Nat.zero_add] at this
    exact this
  rw [hb]; exact h2
theorem isEmpty_size (t : ByteArray) (h : t.size = 0) : t.toList.isEmpty = true := by rw [empty_iff]; exact decide_eq_true h
theorem isEmpty_size' (t : ByteArray) (h : ¬ t.size = 0) : t.toList.isEmpty = false := by rw [empty_iff]; exact decide_eq_false h
theorem idx_fin {w W : World} {i b bx : Nat} {u : ByteArray} {x y : Value} {T : TypeId} (hi : W.heap[i]? = some (.cells #[x, y] T (0, 0))) (hw : w.heap.size ≤ i) (hr : Rdr W b bx u) (ho : One b w W) (hb : b < w.heap.size) (hx : bx < w.heap.size) (a c : Value) :
    ((W.setCell ⟨i, 0, none⟩ a).setCell ⟨i, 1, none⟩ c).cell? ⟨i, 0, none⟩ = some a ∧ ((W.setCell ⟨i, 0, none⟩ a).setCell ⟨i, 1, none⟩ c).cell? ⟨i, 1, none⟩ = some c ∧
      Rdr ((W.setCell ⟨i, 0, none⟩ a).setCell ⟨i, 1, none⟩ c) b bx u ∧ One b w ((W.setCell ⟨i, 0, none⟩ a).setCell ⟨i, 1, none⟩ c) := by
  have e := set_block (j := 1) (set_block (j := 0) hi a) c
  have hk : ∀ k, k < w.heap.size → ((W.setCell ⟨i, 0, none⟩ a).setCell ⟨i, 1, none⟩ c).heap[k]? = W.heap[k]? := fun k hk => by
    rw [Below.heap_setCell _ _ _ _ (by show k ≠ i; omega), Below.heap_setCell _ _ _ _ (by show k ≠ i; omega)]
  refine ⟨cell_of_heap' e 0, cell_of_heap' e 1, hr.keep (hk b hb) (hk bx hx), ⟨ho.os, ho.tape, ho.output, by simpa using ho.size, fun k h1 h2 => (hk k h1).trans (ho.block k h1 h2)⟩⟩
theorem numF_le : ∀ (k : Nat) (d : ByteArray) (i : Nat) (n lim : Int), (∀ j, isDg (bt d j) = true ∨ d.size ≤ j) → i + k ≤ d.size → 0 ≤ n → n ≤ lim → -1 ≤ numF k d i n lim ∧ numF k d i n lim ≤ lim
  | 0, d, i, n, lim, _, _, h0, h1 => ⟨by simp only [numF]; omega, h1⟩
  | k + 1, d, i, n, lim, hd, hi, h0, h1 => by
    unfold numF
    split
    · exact ⟨by omega, by omega⟩
    · have hx := hd i
      rcases hx with hx | hx
      · have := of_decide_eq_true hx
        exact numF_le k d (i + 1) _ lim hd (by omega) (by omega) (by omega)
      · omega
set_option maxHeartbeats 4000000 in
set_option maxRecDepth 1000000 in
theorem rindex_any (b bx : Nat) (t : ByteArray) (w : World) (h : Rdr w b bx t) (hs : t.size ≤ 140737488355328) :
    Calls Tryz.prog 74 #[.pointer (some ⟨b, 0, none⟩)] w (IndexPost b bx t w) := by
  have hlt := h.lt
  have HR := Lib.hid h
  unfold IndexPost
  obtain ⟨ri, hri⟩ : ∃ ri, indexI t = ri := ⟨_, rfl⟩
  obtain ⟨rr, hrr⟩ : ∃ rr, indexR t = rr := ⟨_, rfl⟩
  rw [hri, hrr]
  have HRI := Lib.hid hri
  have HRR := Lib.hid hrr
  obtain ⟨hlb, hlx⟩ := hlt
  clear h hri hrr
  go_enter Tryz.func74, Tryz.ntmps74
  go_upto_region 1 with fail
  have HI := Lib.hid (heap_alloc_new w (.cells #[.int .i64 0, .int .i64 0] 63))
  have HO := Lib.hid ((One.refl b w).push (.cells #[.int .i64 0, .int .i64 0] 63))
  have HR1 := Lib.hid (HR.out.below (Below.new (.cells #[.int .i64 0, .int .i64 0] 63)))
  generalize w.alloc (.cells #[.int .i64 0, .int .i64 0] 63) = W1 at HI HO HR1 ⊢
  have i0 : W1.cell? ⟨w.heap.size, 0, none⟩ = some (.int .i64 0) := cell_of_heap' HI.out 0
  have i1 : W1.cell? ⟨w.heap.size, 1, none⟩ = some (.int .i64 0) := cell_of_heap' HI.out 1
  have j0 : W1.frozen? ⟨w.heap.size, 0, none⟩ = false := frozen_of_heap' HI.out 0
  have j1 : W1.frozen? ⟨w.heap.size, 1, none⟩ = false := frozen_of_heap' HI.out 1
  obtain ⟨r0, r1, rx, rf, rne⟩ := HR1.out
  go_wp2_with fail
  refine (peek_any b bx t W1 HR1.out).mono ?_
  rintro e w2 ⟨rfl, rfl⟩
  by_cases hb : bt t 0 = 91
  · have ht : 0 < t.size := by
      unfold bt at hb
      split at hb
      · assumption
      · omega
    have hbi : ((bt t 0 : Nat) : Int) = 91 := by rw [hb]; rfl
    rw [hbi]
    have HB := Lib.hid hb
    clear hb hbi i0 i1 j0 j1
    go_wp2_with fail
    have hd1 : (drop1 t).size ≤ 140737488355328 := by unfold drop1; rw [ByteArray.size_extract]; omega
    refine (rdigits_any b bx (drop1 t) _ (HR1.out.put (drop1 t)) hd1).mono ?_
    rintro e w2 ⟨rfl, hw2⟩
    have HR2 : Hid (Rdr w2 b bx (digR (drop1 t))) := by rw [hw2]; exact Lib.hid ((HR1.out.put (drop1 t)).put _)
    have HO2 : Hid (One b w w2) := by rw [hw2]; exact Lib.hid ((HO.out.put 0 _).put 0 _)
    have HI2 : Hid (w2.heap[w.heap.size]? = some (.cells #[.int .i64 0, .int .i64 0] 63 (0, 0))) := by
      show _ = _
      rw [hw2, Below.heap_setCell _ _ _ _ (by show w.heap.size ≠ b; omega), Below.heap_setCell _ _ _ _ (by show w.heap.size ≠ b; omega)]
      exact HI.out
    have HI3 := Lib.hid (digD_dg (drop1 t))
    clear hw2 r0 r1 rx rf rne
    obtain ⟨d, hd⟩ : ∃ d, digD (drop1 t) = d := ⟨_, rfl⟩
    have hds : d.size ≤ 140737488355328 := by rw [← hd]; unfold digD; rw [ByteArray.size_extract]; omega
    have HD := Lib.hid hd
    rw [hd] at HI3 ⊢
    clear hd
    obtain ⟨r0, r1, rx, rf, rne⟩ := HR2.out
    have i0 : w2.cell? ⟨w.heap.size, 0, none⟩ = some (.int .i64 0) := cell_of_heap' HI2.out 0
    have i1 : w2.cell? ⟨w.heap.size, 1, none⟩ = some (.int .i64 0) := cell_of_heap' HI2.out 1
    have j0 : w2.frozen? ⟨w.heap.size, 0, none⟩ = false := frozen_of_heap' HI2.out 0
    have j1 : w2.frozen? ⟨w.heap.size, 1, none⟩ = false := frozen_of_heap' HI2.out 1
    obtain ⟨bb, hbb⟩ : ∃ bb, decide (d.size = 0 ∨ bt (digR (drop1 t)) 0 ≠ 93) = bb := ⟨_, rfl⟩
    have HBB := Lib.hid hbb
    clear hbb
    go_upto_region 6 with fail
    go_cut [36] (fun v36 wx => v36 = .bool bb ∧ wx = w2)
    case first =>
      by_cases hz : d.size = 0
      · have e1 := isEmpty_size d hz
        obtain rfl : bb = true := by rw [← HBB.out]; simp [hz]
        clear hz
        go_wp2_with fail
        go_meet
        exact ⟨rfl, rfl⟩
      · have e1 := isEmpty_size' d hz
        obtain ⟨c, hc⟩ : ∃ c, bt (digR (drop1 t)) 0 = c := ⟨_, rfl⟩
        have hbb := HBB.out
        rw [hc] at hbb
        clear HBB
        go_wp2_with fail
        refine (peek_any b bx (digR (drop1 t)) w2 HR2.out).mono ?_
        rintro e w3 ⟨rfl, rfl⟩
        rw [hc]
        by_cases hc3 : c = 93
        · subst hc3
          obtain rfl : bb = false := by rw [← hbb]; exact decide_eq_false (fun h => h.elim hz (fun h => h rfl))
          clear hbb hz hc
          go_wp2_with fail
          go_meet
          exact ⟨rfl, rfl⟩
        · obtain rfl : bb = true := by rw [← hbb]; simp [hc3]
          have e2 : ((c : Int) != 93) = true := by simp; omega
          clear hbb hz hc
          go_wp2_with fail
          go_meet
          exact ⟨rfl, rfl⟩
    case rest =>
    obtain ⟨rfl, rfl⟩ := hcut
    apply_assumption
    cases bb with
    | true =>
      have hbb := of_decide_eq_true HBB.out
      have HQ : Hid (ri = ⟨2, 0⟩ ∧ rr = drop1 t) := by
        rw [← HRI.out, ← HRR.out]
        unfold indexI indexR
        rw [HD.out, if_pos HB.out, if_pos HB.out, if_pos hbb, if_pos hbb]
        exact Lib.hid ⟨rfl, rfl⟩
      clear hbb
      have HR3 := Lib.hid (HR2.out.put (drop1 t))
      have HO3 := Lib.hid (HO2.out.put 0 (.string (drop1 t)))
      have HI4 : Hid ((wc.setCell ⟨b, 0, none⟩ (.string (drop1 t))).heap[w.heap.size]? = some (.cells #[.int .i64 0, .int .i64 0] 63 (0, 0))) := by
        show _ = _
        rw [Below.heap_setCell _ _ _ _ (by show w.heap.size ≠ b; omega)]
        exact HI2.out
      go_upto_region 8 with fail
      change Code.wp _ _ _ _ (wc.setCell ⟨b, 0, none⟩ (.string (drop1 t)))
      generalize wc.setCell ⟨b, 0, none⟩ (.string (drop1 t)) = W3 at HR3 HO3 HI4 ⊢
      clear i0 i1 j0 j1
      have i0 : W3.cell? ⟨w.heap.size, 0, none⟩ = some (.int .i64 0) := cell_of_heap' HI4.out 0
      have i1 : W3.cell? ⟨w.heap.size, 1, none⟩ = some (.int .i64 0) := cell_of_heap' HI4.out 1
      have j0 : W3.frozen? ⟨w.heap.size, 0, none⟩ = false := frozen_of_heap' HI4.out 0
      have j1 : W3.frozen? ⟨w.heap.size, 1, none⟩ = false := frozen_of_heap' HI4.out 1
      go_wp2_with fail
      clear i0 i1 j0 j1
      obtain ⟨c0, c1, cr, co⟩ := idx_fin HI4.out (Nat.le_refl _) HR3.out HO3.out hlb hlx (.int .i64 2) (.int .i64 0)
      obtain ⟨rfl, rfl⟩ := HQ.out
      refine bodyPost_ret (v := .agg #[.int .i64 2, .int .i64 0]) (by simp [results, Tryz.f74, go_sem, c0, c1]) rfl ?_
      exact ⟨rfl, cr, co⟩
    | false =>
      have hbb := of_decide_eq_false HBB.out
      obtain ⟨u, hu⟩ : ∃ u, digR (drop1 t) = u := ⟨_, rfl⟩
      obtain ⟨N, hN⟩ : ∃ N, numB d 999999999 = N := ⟨_, rfl⟩
      have HQ : Hid (ri = (if 0 < N ∧ d.size ≤ 9 then ⟨1, N⟩ else ⟨2, 0⟩) ∧ rr = drop1 u) := by
        rw [← HRI.out, ← HRR.out]
        unfold indexI indexR
        rw [HD.out, if_pos HB.out, if_pos HB.out, if_neg hbb, if_neg hbb, hu, hN]
        exact Lib.hid ⟨rfl, rfl⟩
      have ht2 : 0 < u.size := by
        have h93 : bt u 0 = 93 := by
          rw [← hu]
          exact Classical.byContradiction (fun hx => hbb (Or.inr hx))
        unfold bt at h93
        split at h93
        · assumption
        · omega
      rw [hu] at HR2 r0
      have HN := Lib.hid hN
      have hNb : -1 ≤ N ∧ N ≤ 999999999 := by
        rw [← hN]
        refine numF_le d.size d 0 0 999999999 (fun j => ?_) (by omega) (by omega) (by omega)
        rcases Nat.lt_or_ge j d.size with hj | hj
        · exact Or.inl (HI3.out j hj)
        · exact Or.inr hj
      clear hbb hu hN
      have HR3 := Lib.hid (HR2.out.put (drop1 u))
      have HO3 := Lib.hid (HO2.out.put 0 (.string (drop1 u)))
      have HI4 : Hid ((wc.setCell ⟨b, 0, none⟩ (.string (drop1 u))).heap[w.heap.size]? = some (.cells #[.int .i64 0, .int .i64 0] 63 (0, 0))) := by
        show _ = _
        rw [Below.heap_setCell _ _ _ _ (by show w.heap.size ≠ b; omega)]
        exact HI2.out
      go_upto_region 10 with fail
      change Code.wp _ _ _ _ (wc.setCell ⟨b, 0, none⟩ (.string (drop1 u)))
      generalize wc.setCell ⟨b, 0, none⟩ (.string (drop1 u)) = W3 at HR3 HO3 HI4 ⊢
      clear i0 i1 j0 j1 r0 r1 rx rf rne ht2
      go_wp2_with fail
      refine (number_any d 999999999 W3 hds HI3.out (by decide) (by decide)).mono ?_
      rintro e w4 ⟨rfl, hB4⟩
      rw [HN.out]
      have HR4 := Lib.hid (HR3.out.below hB4)
      have HO4 := Lib.hid (HO3.out.below hB4)
      have hsz4 := hB4.size
      have hsz3 := World.block_lt_of_cell? W3 _ (cell_of_heap' HI4.out 0)
      have HI5 : Hid (w4.heap[w.heap.size]? = some (.cells #[.int .i64 0, .int .i64 0] 63 (0, 0))) := Lib.hid ((hB4.block _ hsz3).trans HI4.out)
      clear hB4 hsz4 hsz3
      obtain ⟨cb, hcb⟩ : ∃ cb, decide (0 < N ∧ d.size ≤ 9) = cb := ⟨_, rfl⟩
      have HCB := Lib.hid hcb
      clear hcb
      have i0 : w4.cell? ⟨w.heap.size, 0, none⟩ = some (.int .i64 0) := cell_of_heap' HI5.out 0
      have i1 : w4.cell? ⟨w.heap.size, 1, none⟩ = some (.int .i64 0) := cell_of_heap' HI5.out 1
      have j0 : w4.frozen? ⟨w.heap.size, 0, none⟩ = false := frozen_of_heap' HI5.out 0
      have j1 : w4.frozen? ⟨w.heap.size, 1, none⟩ = false := frozen_of_heap' HI5.out 1
      go_upto_region 11 with fail
      go_cut [58] (fun v58 wx => v58 = .bool cb ∧ wx = w4)
      case first =>
        have hcb := HCB.out
        clear HCB
        by_cases hn : 0 < N
        · obtain ⟨ll, hll⟩ : ∃ ll : Int, (d.size : Int) = ll := ⟨_, rfl⟩
          by_cases hl : d.size ≤ 9
          · obtain rfl : cb = true := by rw [← hcb]; exact decide_eq_true ⟨hn, hl⟩
            have hl2 : (d.size : Int) ≤ 9 := by omega
            clear hcb hl hll
            go_wp2_with fail
            go_meet
            exact ⟨rfl, rfl⟩
          · obtain rfl : cb = false := by rw [← hcb]; exact decide_eq_false (fun h => hl h.2)
            have hl2 : ¬ (d.size : Int) ≤ 9 := by omega
            clear hcb hl hll
            go_wp2_with fail
            go_meet
            exact ⟨rfl, rfl⟩
        · obtain rfl : cb = false := by rw [← hcb]; exact decide_eq_false (fun h => hn h.1)
          clear hcb
          go_wp2_with fail
          go_meet
          exact ⟨rfl, rfl⟩
      case rest =>
      obtain ⟨rfl, rfl⟩ := hcut
      apply_assumption
      cases cb with
      | true =>
        have hcb := of_decide_eq_true HCB.out
        have hq := HQ.out
        rw [if_pos hcb] at hq
        have HQ2 := Lib.hid hq
        clear hq hcb
        go_wp2_with fail
        clear i0 i1 j0 j1
        obtain ⟨c0, c1, cr, co⟩ := idx_fin HI5.out (Nat.le_refl _) HR4.out HO4.out hlb hlx (.int .i64 1) (.int .i64 N)
        obtain ⟨rfl, rfl⟩ := HQ2.out
        refine bodyPost_ret (v := .agg #[.int .i64 1, .int .i64 N]) (by simp [results, Tryz.f74, go_sem, c0, c1]) rfl ?_
        exact ⟨rfl, cr, co⟩
      | false =>
        have hcb := of_decide_eq_false HCB.out
        have hq := HQ.out
        rw [if_neg hcb] at hq
        have HQ2 := Lib.hid hq
        clear hq hcb
        go_wp2_with fail
        clear i0 i1 j0 j1
        obtain ⟨c0, c1, cr, co⟩ := idx_fin HI5.out (Nat.le_refl _) HR4.out HO4.out hlb hlx (.int .i64 2) (.int .i64 0)
        obtain ⟨rfl, rfl⟩ := HQ2.out
        refine bodyPost_ret (v := .agg #[.int .i64 2, .int .i64 0]) (by simp [results, Tryz.f74, go_sem, c0, c1]) rfl ?_
        exact ⟨rfl, cr, co⟩
  · have e1 : ((bt t 0 : Nat) : Int) ≠ 91 := by omega
    obtain ⟨c, hc⟩ : ∃ c, ((bt t 0 : Nat) : Int) = c := ⟨_, rfl⟩
    rw [hc] at e1 ⊢
    have e2 : (c != 91) = true := by simp [e1]
    have HB := Lib.hid hb
    clear hc hb
    go_wp2_with fail
    clear i0 i1 j0 j1
    obtain ⟨c0, c1, cr, co⟩ := idx_fin HI.out (Nat.le_refl _) HR1.out HO.out hlb hlx (.int .i64 0) (.int .i64 0)
    have HQ : Hid (ri = ⟨0, 0⟩ ∧ rr = t) := by
      rw [← HRI.out, ← HRR.out]
      unfold indexI indexR
      rw [if_neg HB.out, if_neg HB.out]
      exact Lib.hid ⟨rfl, rfl⟩
    obtain ⟨rfl, rfl⟩ := HQ.out
    refine bodyPost_ret (v := .agg #[.int .i64 0, .int .i64 0]) (by simp [results, Tryz.f74, go_sem, c0, c1]) rfl ?_
    exact ⟨rfl, cr, co⟩
end Go.Proofs.YtnalppgjbllehaaGreatDoor
