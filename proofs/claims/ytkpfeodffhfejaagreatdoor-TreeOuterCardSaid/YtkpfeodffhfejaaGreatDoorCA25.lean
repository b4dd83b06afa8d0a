/- Descriptors in a row of the call's own. No condition. -/
import Derived.Test.YtkpfeodffhfejaaGreatDoorCA24
import Derived.Test.YtkpfeodffhfejaaGreatDoorCA21
import Derived.Test.YtkpfeodffhfejaaGreatDoorCA12
import Derived.Deep.AppendLies
import Derived.Deep.RegionLaw
namespace Go.Proofs.YtkpfeodffhfejaaGreatDoor
set_option linter.unusedVariables false
set_option maxRecDepth 1000000
open Go.RowKit

theorem vinfo26 : (Tryz.prog.info? 26).map (fun i => (i.zero, i.size, i.bytes)) = some (some (.agg #[.int .i64 0, .string ⟨#[]⟩, .int .u64 0, .int .u64 0, .string ⟨#[]⟩, .slice none 0 0, .slice none 0 0, .int .i64 0]), 8, 112) := by kernel_rfl
theorem vinfo9r : (Tryz.prog.info? 9).map (fun i => (i.zero, i.size, i.bytes)) = some (some (.string ⟨#[]⟩), 1, 16) := by kernel_rfl

/-- The cells of an aggregate. -/
def cellsOfV : Value → List Value
  | .agg cs => cs.toList
  | _ => []
def flatV8 : List Value → List Value
  | [] => []
  | u :: l => cellsOfV u ++ flatV8 l
theorem flatV8_snoc : ∀ (l : List Value) (u : Value), flatV8 (l ++ [u]) = flatV8 l ++ cellsOfV u
  | [], u => by simp [flatV8]
  | x :: l, u => by simp [flatV8, flatV8_snoc l u]
theorem flatV8_get : ∀ (l : List Value), (∀ u ∈ l, (cellsOfV u).length = 8) → ∀ i (h : i < l.length) j, j < 8 → (flatV8 l)[i * 8 + j]? = (cellsOfV l[i])[j]?
  | x :: l, hl, 0, h, j, hj => by
    have h8 := hl x (by simp)
    simp only [flatV8, List.getElem_cons_zero]
    rw [List.getElem?_append_left (by omega), Nat.zero_mul, Nat.zero_add]
  | x :: l, hl, i + 1, h, j, hj => by
    have h8 := hl x (by simp)
    simp only [flatV8, List.getElem_cons_succ]
    rw [List.getElem?_append_right (by omega), h8, show (i + 1) * 8 + j - 8 = i * 8 + j by omega]
    exact flatV8_get l (fun u hu => hl u (by simp [hu])) i (by simpa using h) j hj

/-- The descriptors ds lie in the row v, each in blocks of its own. -/
structure DRow (lo : Nat) (vn v : Value) (us : List Value) (ds : List D) (w : World) : Prop where
  own : w.ownsRow lo 26 8 v us.length (flatV8 us)
  len : ds.length = us.length
  eight : ∀ u ∈ us, (cellsOfV u).length = 8 ∧ ∃ cs, u = .agg cs
  ex : ∃ R : Nat → Nat → Prop, (∀ j (h : j < us.length) (h' : j < ds.length), IsDF w (R j) us[j] ds[j]) ∧ (∀ j k, R j k → lo ≤ k ∧ k < w.heap.size ∧ v.ownBlock ≠ some k ∧ vn.ownBlock ≠ some k) ∧ ∀ i j k, i ≠ j → R i k → ¬ R j k
  sep : ∀ k, v.ownBlock = some k → vn.ownBlock ≠ some k
theorem DRow.start (lo : Nat) (vn : Value) (w : World) : DRow lo vn (.slice none 0 0) [] [] w :=
  ⟨⟨rfl, .inl ⟨rfl, rfl⟩⟩, rfl, (fun u h => by cases h), ⟨fun _ _ => False, (fun j h => by simp at h), fun _ _ h => h.elim, fun _ _ _ _ h => h.elim⟩, fun k h => by simp [Value.ownBlock] at h⟩
/-- The row where other blocks changed. -/
theorem DRow.keep {lo : Nat} {vn v : Value} {us : List Value} {ds : List D} {w w' : World} (h : DRow lo vn v us ds w) (hs : ∀ k, k < w.heap.size → lo ≤ k → vn.ownBlock ≠ some k → w'.heap[k]? = w.heap[k]?) (hz : w.heap.size ≤ w'.heap.size) : DRow lo vn v us ds w' := by
  obtain ⟨R, r1, r2, r3⟩ := h.ex
  refine ⟨owns_blockV h.own (fun g hg => hs g (h.own.lt g hg).2 (h.own.lt g hg).1 (h.sep g hg)), h.len, h.eight, ⟨R, fun j a b => (r1 j a b).keep fun k hk hk' => hs k hk (r2 j k hk').1 (r2 j k hk').2.2.2, fun j k hk => ?_, r3⟩, h.sep⟩
  have := r2 j k hk
  exact ⟨this.1, by omega, this.2.2⟩
/-- Another row's block moved. -/
theorem DRow.rename {lo : Nat} {vn v vn' : Value} {us : List Value} {ds : List D} {w : World} (h : DRow lo vn v us ds w) (hn : ∀ k, vn'.ownBlock = some k → vn.ownBlock = some k ∨ w.heap.size ≤ k) : DRow lo vn' v us ds w := by
  obtain ⟨R, r1, r2, r3⟩ := h.ex
  refine ⟨h.own, h.len, h.eight, ⟨R, r1, fun j k hk => ?_, r3⟩, fun k hk e => ?_⟩
  · have q := r2 j k hk
    refine ⟨q.1, q.2.1, q.2.2.1, fun e => ?_⟩
    rcases hn k e with e | e
    · exact q.2.2.2 e
    · omega
  · rcases hn k e with e | e
    · exact h.sep k hk e
    · have := (h.own.lt k hk).2; omega
theorem DRow.moved {lo : Nat} {vn v vn' : Value} {us : List Value} {ds : List D} {w w' : World} (h : DRow lo vn v us ds w) (hs : ∀ k, k < w.heap.size → lo ≤ k → vn.ownBlock ≠ some k → w'.heap[k]? = w.heap[k]?) (hz : w.heap.size ≤ w'.heap.size)
    (hn : ∀ k, vn'.ownBlock = some k → vn.ownBlock = some k ∨ w.heap.size ≤ k) : DRow lo vn' v us ds w' := by
  obtain ⟨R, r1, r2, r3⟩ := h.ex
  have q := h.rename hn
  refine ⟨owns_blockV h.own (fun g hg => hs g (h.own.lt g hg).2 (h.own.lt g hg).1 (h.sep g hg)), h.len, h.eight, ⟨R, fun j a b => (r1 j a b).keep fun k hk hk' => hs k hk (r2 j k hk').1 (r2 j k hk').2.2.2, fun j k hk => ?_, r3⟩, q.sep⟩
  have t := r2 j k hk
  refine ⟨t.1, by omega, t.2.2.1, fun e => ?_⟩
  rcases hn k e with e | e
  · exact t.2.2.2 e
  · omega
theorem DRow.below {lo : Nat} {vn v : Value} {us : List Value} {ds : List D} {w w' : World} (h : DRow lo vn v us ds w) (hb : Below w.heap.size w w') : DRow lo vn v us ds w' := h.keep (fun k hk _ _ => hb.block k hk) hb.size

/-- One descriptor more: w at the call, w1 behind it, W1 as the append finds it, w2 behind the append. -/
theorem DRow.push {lo : Nat} {vn v : Value} {us : List Value} {ds : List D} {w w1 W1 w2 : World} (h : DRow lo vn v us ds w) (hb : Below w.heap.size w w1) {cs : Array Value} (h8 : cs.size = 8) {d : D} (hd : IsDF w1 (w.heap.size ≤ ·) (.agg cs) d) (hlo : lo ≤ w.heap.size)
    (hb1 : Below w1.heap.size w1 W1) {g cap : Nat} (hown : w2.ownsRow lo 26 8 (.slice (some ⟨g, 0, none⟩) (us.length + 1) cap) (us.length + 1) (flatV8 us ++ cs.toList)) (hg : W1.grownBy w2 v.ownBlock) (hl : v.ownBlock = some g ∨ w1.heap.size ≤ g) (hvn : ∀ k, vn.ownBlock = some k → k < w.heap.size) :
    DRow lo vn (.slice (some ⟨g, 0, none⟩) (us.length + 1) cap) (us ++ [.agg cs]) (ds ++ [d]) w2 := by
  obtain ⟨R, r1, r2, r3⟩ := h.ex
  have hz1 := hb.size
  have hz2 := hb1.size
  have hz3 := hg.size
  have vb : ∀ k, v.ownBlock = some k → lo ≤ k ∧ k < w.heap.size := fun k hk => h.own.lt k hk
  have keep1 : ∀ k, k < w1.heap.size → v.ownBlock ≠ some k → w2.heap[k]? = w1.heap[k]? := fun k hk hv => (hg.block k (by omega) (fun e => hv e.symm)).trans (hb1.block k hk)
  refine ⟨?_, by simp [h.len], ?_, ⟨fun j k => if j = us.length then w.heap.size ≤ k ∧ k < w1.heap.size else R j k, ?_, ?_, ?_⟩, ?_⟩
  · rw [flatV8_snoc, List.length_append, List.length_singleton]; exact hown
  · intro u hu
    rcases List.mem_append.1 hu with hu | hu
    · exact h.eight u hu
    · simp at hu; subst hu; exact ⟨by simpa [cellsOfV] using h8, _, rfl⟩
  · intro j hj hj'
    by_cases e : j < us.length
    · rw [List.getElem_append_left e, List.getElem_append_left (by have := h.len; omega)]
      have e2 : j ≠ us.length := by omega
      have := (r1 j e (by have := h.len; omega)).keep (w' := w2) fun k hk hk' => by
        have q := r2 j k hk'
        exact (keep1 k (by omega) q.2.2.1).trans (hb.block k hk)
      simpa only [e2, if_false] using this
    · have e2 : j = us.length := by simp at hj; omega
      subst e2
      rw [List.getElem_append_right (by omega), List.getElem_append_right (by have := h.len; omega)]
      simp only [Nat.sub_self, List.getElem_cons_zero, h.len, if_true]
      refine hd.clip.keep fun k hk hk' => keep1 k hk (fun e => ?_)
      have q := vb k e
      have := hk'.1
      omega
  · intro j k hk
    by_cases e : j = us.length
    · simp only [e, if_true] at hk
      refine ⟨by omega, by omega, fun q => ?_, fun q => by have := hvn k q; omega⟩
      simp [Value.ownBlock] at q
      subst q
      rcases hl with hl | hl
      · have := vb _ hl; omega
      · omega
    · simp only [e, if_false] at hk
      have q := r2 j k hk
      refine ⟨q.1, by omega, fun q' => ?_, q.2.2.2⟩
      simp [Value.ownBlock] at q'
      subst q'
      rcases hl with hl | hl
      · exact q.2.2.1 hl
      · omega
  · intro i j k hij hi hj
    by_cases e1 : i = us.length
    · by_cases e2 : j = us.length
      · omega
      · simp only [e1, if_true] at hi
        simp only [e2, if_false] at hj
        have := r2 j k hj
        omega
    · simp only [e1, if_false] at hi
      by_cases e2 : j = us.length
      · simp only [e2, if_true] at hj
        have := r2 i k hi
        omega
      · simp only [e2, if_false] at hj
        exact r3 i j k hij hi hj
  · intro k hk e
    simp [Value.ownBlock] at hk
    subst hk
    rcases hl with hl | hl
    · exact h.sep _ hl e
    · have := hvn _ e; omega

/-- The row read as the parts of a descriptor. -/
theorem DRow.parts {lo : Nat} {vn v : Value} {us : List Value} {ds : List D} {w : World} (h : DRow lo vn v us ds w) :
    ∃ a c g, v = .slice a ds.length c ∧ ds.length ≤ c ∧ (0 < ds.length → a = some ⟨g, 0, none⟩ ∧ lo ≤ g ∧ g < w.heap.size) ∧ (∀ i, i < ds.length → ∀ j, j < 8 → w.frozen? ⟨g, 0 + i * 8 + j, none⟩ = false) ∧
      (∃ R : Nat → Nat → Prop, (∀ i (h : i < ds.length), IsDF w (R i) (rowD w g (0 + i * 8)) ds[i]) ∧ (∀ i k, R i k → lo ≤ k ∧ k < w.heap.size ∧ (0 < ds.length → k ≠ g) ∧ vn.ownBlock ≠ some k) ∧ ∀ i j k, i ≠ j → R i k → ¬ R j k) ∧ (0 < ds.length → vn.ownBlock ≠ some g) := by
  obtain ⟨R, r1, r2, r3⟩ := h.ex
  by_cases h0 : 0 < us.length
  · obtain ⟨g, cap, e1, e2, e3, e4, e5, e6⟩ := owns_cell h.own h0
    subst e1
    refine ⟨_, cap, g, by rw [h.len], by rw [h.len]; exact e4, fun _ => ⟨rfl, e2, e3⟩, fun i _ j _ => ?_, ⟨R, fun i hi => ?_, fun i k hk => ⟨(r2 i k hk).1, (r2 i k hk).2.1, fun _ e => (r2 i k hk).2.2.1 (by rw [e]; rfl), (r2 i k hk).2.2.2⟩, r3⟩, fun _ => h.sep g rfl⟩
    · rcases h.own.2 with ⟨e, _⟩ | ⟨g', cap', cur, e1, _, e3', _⟩
      · cases e
      · injection e1 with e1 _ _
        injection e1 with e1
        injection e1 with e1 _ _
        subst e1
        simp [World.frozen?, e3']
    · have hlt : i < us.length := by have := h.len; omega
      obtain ⟨h8, cs, hcs⟩ := h.eight us[i] (List.getElem_mem _)
      have hr := r1 i hlt hi
      have hrow : rowD w g (0 + i * 8) = us[i] := by
        have get : ∀ j u, j < 8 → (cellsOfV us[i])[j]? = some u → w.cell? ⟨g, i * 8 + j, none⟩ = some u := fun j u hj hu => by
          apply e6
          rw [flatV8_get us (fun u hu => (h.eight u hu).1) i hlt j hj, hu]
        generalize us[i] = ui at hcs get h8
        subst hcs
        obtain ⟨l⟩ := cs
        simp only [cellsOfV] at get h8
        match l, h8 with
        | [x0, x1, x2, x3, x4, x5, x6, x7], _ =>
          have g0 := get 0 x0 (by decide) rfl
          have g1 := get 1 x1 (by decide) rfl
          have g2 := get 2 x2 (by decide) rfl
          have g3 := get 3 x3 (by decide) rfl
          have g4 := get 4 x4 (by decide) rfl
          have g5 := get 5 x5 (by decide) rfl
          have g6 := get 6 x6 (by decide) rfl
          have g7 := get 7 x7 (by decide) rfl
          simp only [Nat.add_zero] at g0
          simp [rowD, g0, g1, g2, g3, g4, g5, g6, g7]
      rw [hrow]
      exact hr
  · have e : us = [] := List.eq_nil_of_length_eq_zero (by omega)
    have e' : ds = [] := List.eq_nil_of_length_eq_zero (by have := h.len; omega)
    subst e e'
    rcases h.own.2 with ⟨h1, _⟩ | ⟨g, cap, cur, h1, _⟩
    · exact ⟨none, 0, 0, h1, Nat.zero_le _, fun h => by simp at h, fun i h => by simp at h, ⟨fun _ _ => False, fun i h => by simp at h, fun _ _ h => h.elim, fun _ _ _ _ h => h.elim⟩, fun h => by simp at h⟩
    · exact ⟨_, cap, 0, h1, Nat.zero_le _, fun h => by simp at h, fun i h => by simp at h, ⟨fun _ _ => False, fun i h => by simp at h, fun _ _ h => h.elim, fun _ _ _ _ h => h.elim⟩, fun h => by simp at h⟩
end Go.Proofs.YtkpfeodffhfejaaGreatDoor
