/- The descriptor of any value: raw, Raw; how a value is told again: Type, Hook, Size, Deep, Cmp. Condition: the values' numbers are in range. -/
import Derived.Test.YtkpfeodffhfejaaGreatDoorCA06
import Derived.Test.YtkpfeodffhfejaaGreatDoorCA20
import Derived.RegionTactic
import Derived.Deep.DeepCutAuto
namespace Go.Proofs.YtkpfeodffhfejaaGreatDoor
set_option linter.unusedVariables false
set_option maxRecDepth 1000000
set_option linter.unusedSimpArgs false
open Go.RowKit

namespace V
mutual
theorem induct_v {P : V → Prop} (hn : P .nil) (hl : ∀ l, P (.leaf l)) (h : ∀ t b a n l, (∀ x ∈ l, P x) → P (.great t b a n l)) : ∀ x, P x
  | .nil => hn
  | .leaf l => hl l
  | .great t b a n l => h t b a n l (induct_w hn hl h l)
theorem induct_w {P : V → Prop} (hn : P .nil) (hl : ∀ l, P (.leaf l)) (h : ∀ t b a n l, (∀ x ∈ l, P x) → P (.great t b a n l)) : ∀ l : List V, ∀ x ∈ l, P x
  | [], _, hx => by cases hx
  | y :: l, x, hx => by
    rcases List.mem_cons.1 hx with e | hx
    · rw [e]; exact induct_v hn hl h y
    · exact induct_w hn hl h l x hx
end
end V
end Go.Proofs.YtkpfeodffhfejaaGreatDoor

/- The descriptor of a value without parts: raw. No condition but that numbers are in range. -/
namespace Go.Proofs.YtkpfeodffhfejaaGreatDoor
set_option linter.unusedVariables false
set_option maxRecDepth 1000000
set_option linter.unusedSimpArgs false
open Go.RowKit

theorem U64_0 : U64 0 := ⟨by decide, by decide⟩
theorem U64_1 : U64 1 := ⟨by decide, by decide⟩
theorem cap_0 : (⟨#[]⟩ : ByteArray).size ≤ cap47 := by unfold cap47; decide
theorem U64_of (x : Int) : U64 (u64of x) := by unfold u64of; constructor <;> omega
theorem I64_0 : I64 0 := ⟨by decide, by decide⟩
/-- The zero descriptor's block. -/
def zeroBlk : Obj := .cells #[.int .i64 0, .string ⟨#[]⟩, .int .u64 0, .int .u64 0, .string ⟨#[]⟩, .slice none 0 0, .slice none 0 0, .int .i64 0] 26
/-- A block of eight cells that may be written. -/
structure Blk (w : World) (b : Nat) (v0 v1 v2 v3 v4 v5 v6 v7 : Value) : Prop where
  c0 : w.cell? ⟨b, 0, none⟩ = some v0
  c1 : w.cell? ⟨b, 1, none⟩ = some v1
  c2 : w.cell? ⟨b, 2, none⟩ = some v2
  c3 : w.cell? ⟨b, 3, none⟩ = some v3
  c4 : w.cell? ⟨b, 4, none⟩ = some v4
  c5 : w.cell? ⟨b, 5, none⟩ = some v5
  c6 : w.cell? ⟨b, 6, none⟩ = some v6
  c7 : w.cell? ⟨b, 7, none⟩ = some v7
  f : ∀ j, w.frozen? ⟨b, j, none⟩ = false
theorem Blk.of {w : World} {b : Nat} {v0 v1 v2 v3 v4 v5 v6 v7 : Value} {t : TypeId} (h : w.heap[b]? = some (.cells #[v0, v1, v2, v3, v4, v5, v6, v7] t (0, 0))) : Blk w b v0 v1 v2 v3 v4 v5 v6 v7 := by
  constructor <;> simp [World.cell?, World.frozen?, h]
theorem Blk.below {w w' : World} {b : Nat} {v0 v1 v2 v3 v4 v5 v6 v7 : Value} (hb : Below w.heap.size w w') (h : Blk w b v0 v1 v2 v3 v4 v5 v6 v7) : Blk w' b v0 v1 v2 v3 v4 v5 v6 v7 :=
  have hlt := World.block_lt_of_cell? w _ h.c0
  ⟨cell_below hb h.c0, cell_below hb h.c1, cell_below hb h.c2, cell_below hb h.c3, cell_below hb h.c4, cell_below hb h.c5, cell_below hb h.c6, cell_below hb h.c7, fun j => by rw [hb.frozen (p := ⟨b, j, none⟩) hlt]; exact h.f j⟩
/-- Eight stores. -/
def st8 (w : World) (b : Nat) (u0 u1 u2 u3 u4 u5 u6 u7 : Value) : World := (((((((w.setCell ⟨b, 0, none⟩ u0).setCell ⟨b, 1, none⟩ u1).setCell ⟨b, 2, none⟩ u2).setCell ⟨b, 3, none⟩ u3).setCell ⟨b, 4, none⟩ u4).setCell ⟨b, 5, none⟩ u5).setCell ⟨b, 6, none⟩ u6).setCell ⟨b, 7, none⟩ u7
theorem st8_below {B : Nat} {a w : World} (h : Below B a w) {b : Nat} (hb : B ≤ b) (u0 u1 u2 u3 u4 u5 u6 u7 : Value) : Below B a (st8 w b u0 u1 u2 u3 u4 u5 u6 u7) :=
  (((((((h.setCell (p := ⟨b, 0, none⟩) hb _).setCell (p := ⟨b, 1, none⟩) hb _).setCell (p := ⟨b, 2, none⟩) hb _).setCell (p := ⟨b, 3, none⟩) hb _).setCell (p := ⟨b, 4, none⟩) hb _).setCell (p := ⟨b, 5, none⟩) hb _).setCell (p := ⟨b, 6, none⟩) hb _).setCell (p := ⟨b, 7, none⟩) hb _
theorem st8_other {w : World} {b : Nat} {u0 u1 u2 u3 u4 u5 u6 u7 : Value} {k : Nat} (h : k ≠ b) : (st8 w b u0 u1 u2 u3 u4 u5 u6 u7).heap[k]? = w.heap[k]? := by
  unfold st8
  repeat rw [Below.heap_setCell _ _ _ _ h]
theorem st8_size {w : World} {b : Nat} {u0 u1 u2 u3 u4 u5 u6 u7 : Value} : (st8 w b u0 u1 u2 u3 u4 u5 u6 u7).heap.size = w.heap.size := by simp [st8]
theorem vput_same {w : World} {b i : Nat} {u v : Value} (h : w.cell? ⟨b, i, none⟩ = some v) : (w.setCell ⟨b, i, none⟩ u).cell? ⟨b, i, none⟩ = some u := World.cell?_setCell_same' w _ _ (by rw [h]; rfl)
theorem vput_other {w : World} {b i j : Nat} {u v : Value} (h : w.cell? ⟨b, j, none⟩ = some v) (hij : j ≠ i) : (w.setCell ⟨b, i, none⟩ u).cell? ⟨b, j, none⟩ = some v := by
  rw [World.cell?_setCell_other _ _ _ _ (by intro e; injection e; omega)]; exact h
theorem Blk.put (w : World) (b : Nat) {v0 v1 v2 v3 v4 v5 v6 v7 : Value} (h : Blk w b v0 v1 v2 v3 v4 v5 v6 v7) (u0 u1 u2 u3 u4 u5 u6 u7 : Value) : Blk (st8 w b u0 u1 u2 u3 u4 u5 u6 u7) b u0 u1 u2 u3 u4 u5 u6 u7 := by
  have a0 := vput_same (u := u0) h.c0
  have a1 := vput_other (i := 0) (u := u0) h.c1 (by decide)
  have a2 := vput_other (i := 0) (u := u0) h.c2 (by decide)
  have a3 := vput_other (i := 0) (u := u0) h.c3 (by decide)
  have a4 := vput_other (i := 0) (u := u0) h.c4 (by decide)
  have a5 := vput_other (i := 0) (u := u0) h.c5 (by decide)
  have a6 := vput_other (i := 0) (u := u0) h.c6 (by decide)
  have a7 := vput_other (i := 0) (u := u0) h.c7 (by decide)
  have b0 := vput_other (i := 1) (u := u1) a0 (by decide)
  have b1 := vput_same (u := u1) a1
  have b2 := vput_other (i := 1) (u := u1) a2 (by decide)
  have b3 := vput_other (i := 1) (u := u1) a3 (by decide)
  have b4 := vput_other (i := 1) (u := u1) a4 (by decide)
  have b5 := vput_other (i := 1) (u := u1) a5 (by decide)
  have b6 := vput_other (i := 1) (u := u1) a6 (by decide)
  have b7 := vput_other (i := 1) (u := u1) a7 (by decide)
  have c0 := vput_other (i := 2) (u := u2) b0 (by decide)
  have c1 := vput_other (i := 2) (u := u2) b1 (by decide)
  have c2 := vput_same (u := u2) b2
  have c3 := vput_other (i := 2) (u := u2) b3 (by decide)
  have c4 := vput_other (i := 2) (u := u2) b4 (by decide)
  have c5 := vput_other (i := 2) (u := u2) b5 (by decide)
  have c6 := vput_other (i := 2) (u := u2) b6 (by decide)
  have c7 := vput_other (i := 2) (u := u2) b7 (by decide)
  have d0 := vput_other (i := 3) (u := u3) c0 (by decide)
  have d1 := vput_other (i := 3) (u := u3) c1 (by decide)
  have d2 := vput_other (i := 3) (u := u3) c2 (by decide)
  have d3 := vput_same (u := u3) c3
  have d4 := vput_other (i := 3) (u := u3) c4 (by decide)
  have d5 := vput_other (i := 3) (u := u3) c5 (by decide)
  have d6 := vput_other (i := 3) (u := u3) c6 (by decide)
  have d7 := vput_other (i := 3) (u := u3) c7 (by decide)
  have e0 := vput_other (i := 4) (u := u4) d0 (by decide)
  have e1 := vput_other (i := 4) (u := u4) d1 (by decide)
  have e2 := vput_other (i := 4) (u := u4) d2 (by decide)
  have e3 := vput_other (i := 4) (u := u4) d3 (by decide)
  have e4 := vput_same (u := u4) d4
  have e5 := vput_other (i := 4) (u := u4) d5 (by decide)
  have e6 := vput_other (i := 4) (u := u4) d6 (by decide)
  have e7 := vput_other (i := 4) (u := u4) d7 (by decide)
  have f0 := vput_other (i := 5) (u := u5) e0 (by decide)
  have f1 := vput_other (i := 5) (u := u5) e1 (by decide)
  have f2 := vput_other (i := 5) (u := u5) e2 (by decide)
  have f3 := vput_other (i := 5) (u := u5) e3 (by decide)
  have f4 := vput_other (i := 5) (u := u5) e4 (by decide)
  have f5 := vput_same (u := u5) e5
  have f6 := vput_other (i := 5) (u := u5) e6 (by decide)
  have f7 := vput_other (i := 5) (u := u5) e7 (by decide)
  have g0 := vput_other (i := 6) (u := u6) f0 (by decide)
  have g1 := vput_other (i := 6) (u := u6) f1 (by decide)
  have g2 := vput_other (i := 6) (u := u6) f2 (by decide)
  have g3 := vput_other (i := 6) (u := u6) f3 (by decide)
  have g4 := vput_other (i := 6) (u := u6) f4 (by decide)
  have g5 := vput_other (i := 6) (u := u6) f5 (by decide)
  have g6 := vput_same (u := u6) f6
  have g7 := vput_other (i := 6) (u := u6) f7 (by decide)
  have z0 := vput_other (i := 7) (u := u7) g0 (by decide)
  have z1 := vput_other (i := 7) (u := u7) g1 (by decide)
  have z2 := vput_other (i := 7) (u := u7) g2 (by decide)
  have z3 := vput_other (i := 7) (u := u7) g3 (by decide)
  have z4 := vput_other (i := 7) (u := u7) g4 (by decide)
  have z5 := vput_other (i := 7) (u := u7) g5 (by decide)
  have z6 := vput_other (i := 7) (u := u7) g6 (by decide)
  have z7 := vput_same (u := u7) g7
  exact ⟨z0, z1, z2, z3, z4, z5, z6, z7, fun j => by simpa [st8] using h.f j⟩
theorem Blk.drew {w : World} {b : Nat} {v0 v1 v2 v3 v4 v5 v6 v7 : Value} (h : Blk w b v0 v1 v2 v3 v4 v5 v6 v7) : Blk w.drew b v0 v1 v2 v3 v4 v5 v6 v7 := ⟨h.c0, h.c1, h.c2, h.c3, h.c4, h.c5, h.c6, h.c7, h.f⟩
theorem Blk.new (w : World) : Blk (w.alloc zeroBlk) w.heap.size (.int .i64 0) (.string ⟨#[]⟩) (.int .u64 0) (.int .u64 0) (.string ⟨#[]⟩) (.slice none 0 0) (.slice none 0 0) (.int .i64 0) := Blk.of (heap_alloc_new w _)

end Go.Proofs.YtkpfeodffhfejaaGreatDoor

/- Build at any descriptor; its budget as a number of descriptors. Condition: the argument is a descriptor. -/
namespace Go.Proofs.YtkpfeodffhfejaaGreatDoor
set_option linter.unusedVariables false
set_option maxRecDepth 1000000
open Go.RowKit

mutual
/-- How many descriptors are looked at. -/
def sizeD : D → Nat
  | .mk k _ _ _ _ _ p _ => if greatK k then sizeL p + 1 else 1
def sizeL : List D → Nat
  | [] => 0
  | x :: l => sizeD x + sizeL l
end
mutual
/-- The longest text. -/
def textD : D → Int
  | .mk k _ _ _ t _ p _ => max (if k = 16 ∨ k = 17 then (t.size : Int) else 0) (if greatK k then textL p else 0)
def textL : List D → Int
  | [] => 0
  | x :: l => max (textD x) (textL l)
end
theorem sizeD_eq (d : D) : sizeD d = sizeL (partsOf d) + 1 := by
  cases d with
  | mk k t b i x n p h =>
    by_cases hg : greatK k = true
    · have e : partsOf (.mk k t b i x n p h) = p := if_pos hg
      rw [e, sizeD, if_pos hg]
    · have e : partsOf (.mk k t b i x n p h) = [] := if_neg hg
      rw [e, sizeD, if_neg hg]; rfl
theorem textD_eq (d : D) : textD d = max (if d.kind = 16 ∨ d.kind = 17 then (d.text.size : Int) else 0) (textL (partsOf d)) := by
  cases d with
  | mk k t b i x n p h =>
    by_cases hg : greatK k = true
    · have e : partsOf (.mk k t b i x n p h) = p := if_pos hg
      rw [e, textD, if_pos hg]; rfl
    · have e : partsOf (.mk k t b i x n p h) = [] := if_neg hg
      rw [e, textD, if_neg hg]; rfl
theorem textL_nonneg : ∀ l : List D, 0 ≤ textL l
  | [] => Int.le_refl 0
  | x :: l => by have := textL_nonneg l; simp only [textL]; omega
theorem textD_nonneg (d : D) : 0 ≤ textD d := by rw [textD_eq]; have := textL_nonneg (partsOf d); omega
theorem countL_is : ∀ (l : List D), (∀ x ∈ l, ∀ left : Int, 0 ≤ left → (sizeD x ≤ left → countD x left = (left - sizeD x, textD x)) ∧ (left < sizeD x → (countD x left).1 < 0)) →
    ∀ left text : Int, 0 ≤ text → ((sizeL l : Int) ≤ left → countL l left text = (left - sizeL l, max text (textL l))) ∧ (left < sizeL l ∨ left < 0 → (countL l left text).1 < 0)
  | [], _, left, text => fun ht => by
    refine ⟨fun h => ?_, fun h => ?_⟩
    · simp only [countL, sizeL, textL]; rw [Int.max_eq_left ht]; simp
    · simp only [countL, sizeL] at h ⊢; omega
  | x :: l, hx, left, text => fun ht => by
    have h0 := hx x (by simp)
    have ih := countL_is l (fun y hy => hx y (by simp [hy]))
    have hs1 : 1 ≤ sizeD x := by rw [sizeD_eq]; omega
    simp only [countL, sizeL, textL]
    by_cases hn : left < 0
    · rw [if_pos hn]
      exact ⟨fun h => by omega, fun _ => hn⟩
    · rw [if_neg hn]
      have h1 := h0 left (by omega)
      refine ⟨fun h => ?_, fun h => ?_⟩
      · rw [h1.1 (by omega)]
        have := (ih (left - sizeD x) (max text (textD x)) (by omega)).1 (by omega)
        rw [this]
        simp only [Prod.mk.injEq]
        exact ⟨by omega, by omega⟩
      · by_cases hb : left < sizeD x
        · have := h1.2 hb
          exact (ih _ _ (by have := textD_nonneg x; omega)).2 (.inr this)
        · rw [h1.1 (by omega)]
          exact (ih _ _ (by have := textD_nonneg x; omega)).2 (.inl (by show left - (sizeD x : Int) < _; omega))
theorem countD_is : ∀ (d : D) (left : Int), 0 ≤ left → ((sizeD d : Int) ≤ left → countD d left = (left - sizeD d, textD d)) ∧ (left < sizeD d → (countD d left).1 < 0) := by
  refine D.induct_d fun d ih left hl => ?_
  rw [countD_eq, sizeD_eq, textD_eq]
  have h := countL_is (partsOf d) (fun x hx => ih x (partsOf_mem hx)) (left - 1) (if d.kind = 16 ∨ d.kind = 17 then (d.text.size : Int) else 0) (by split <;> omega)
  refine ⟨fun hs => ?_, fun hs => ?_⟩
  · rw [h.1 (by omega)]
    simp only [Prod.mk.injEq, and_true]
    omega
  · exact h.2 (by omega)
theorem depthL_le : ∀ (l : List D), (∀ x ∈ l, depthD x ≤ sizeD x) → depthL l ≤ sizeL l
  | [], _ => Nat.le_refl _
  | x :: l, h => by
    have h1 := h x (by simp)
    have h2 := depthL_le l (fun y hy => h y (by simp [hy]))
    simp only [depthL, sizeL]; omega
theorem depthD_le : ∀ d : D, depthD d ≤ sizeD d := by
  refine D.induct_d fun d ih => ?_
  rw [depthD_eq, sizeD_eq]
  have := depthL_le (partsOf d) (fun x hx => ih x (partsOf_mem hx))
  omega
theorem sizeL_len : ∀ l : List D, l.length ≤ sizeL l
  | [] => Nat.le_refl _
  | x :: l => by have := sizeL_len l; have : 1 ≤ sizeD x := by rw [sizeD_eq]; omega
                 simp only [sizeL, List.length_cons]; omega
theorem sizeL_mem : ∀ {l : List D} {x : D}, x ∈ l → sizeD x ≤ sizeL l
  | y :: l, x, h => by
    simp only [sizeL]
    rcases List.mem_cons.1 h with rfl | h
    · omega
    · have := sizeL_mem h; omega
theorem allL_iff (g : D → Bool) : ∀ l : List D, allL g l = true ↔ ∀ x ∈ l, allD g x = true
  | [] => by simp [allL]
  | x :: l => by simp [allL, allL_iff g l]
theorem good_of : ∀ d : D, sizeD d ≤ 64 → allD kindB d = true → allD formB d = true → allD goodB d = true := by
  refine D.induct_d fun d ih hs hk hf => ?_
  rw [allD_eq, Bool.and_eq_true] at hk hf ⊢
  rw [sizeD_eq] at hs
  have hl := sizeL_len (partsOf d)
  refine ⟨?_, ?_⟩
  · simp only [goodB, Bool.and_eq_true, Bool.or_eq_true, Bool.not_eq_true', decide_eq_true_eq]
    refine ⟨⟨by simpa [kindB] using hk.1, hf.1⟩, ?_⟩
    by_cases hg : greatK d.kind = true
    · right
      have : partsOf d = d.parts := by simp [partsOf, hg]
      rw [this] at hl hs
      omega
    · left; simpa using hg
  · rw [allL_iff]
    intro x hx
    exact ih x (partsOf_mem hx) (by have := sizeL_mem hx; omega) ((allL_iff _ _).1 hk.2 x hx) ((allL_iff _ _).1 hf.2 x hx)

theorem errD_is (d : D) : errD d = (if 64 < sizeD d ∨ 1024 < textD d then 2 else if 8 < depthD d then 6 else if allD kindB d = false then 3 else if allD formB d = false then 4 else if mkV d = none then 5 else 0) := by
  unfold errD
  have h := countD_is d 64 (by omega)
  by_cases hs : (sizeD d : Int) ≤ 64
  · rw [h.1 hs]
    by_cases ht : textD d ≤ 1024
    · rw [if_neg (by simp only; omega), if_neg (show ¬ (64 < sizeD d ∨ 1024 < textD d) by omega)]
    · rw [if_pos (by simp only; omega), if_pos (show 64 < sizeD d ∨ 1024 < textD d by omega)]
  · have := h.2 (by omega)
    rw [if_pos (by omega), if_pos (show 64 < sizeD d ∨ 1024 < textD d by omega)]

/-- Build. -/
theorem build_any {d : D} {w : World} {v : Value} (h : IsD w v d) : Calls Tryz.prog 18 #[v] w (BuildPost w d) := by
  have hc := countD_is d 64 (by omega)
  have he := errD_is d
  by_cases hs : (sizeD d : Int) ≤ 64
  · have hcd := hc.1 hs
    by_cases ht : textD d ≤ 1024
    · have h1 : 0 ≤ (countD d 64).1 := by rw [hcd]; simp only; omega
      have h2 : (countD d 64).2 ≤ 1024 := by rw [hcd]; exact ht
      rw [if_neg (show ¬ (64 < sizeD d ∨ 1024 < textD d) by omega)] at he
      have hd := depthD_le d
      by_cases hq : 8 < depthD d
      · rw [if_pos hq] at he
        exact build_deep d w v h he h1 h2 hq (by omega)
      · rw [if_neg hq] at he
        by_cases hk : allD kindB d = false
        · rw [if_pos hk] at he
          exact build_kind d w v h he h1 h2 (by omega) hk
        · rw [if_neg hk] at he
          have hk' : allD kindB d = true := by simpa using hk
          by_cases hf : allD formB d = false
          · rw [if_pos hf] at he
            exact build_form d w v h he h1 h2 (by omega) hk' hf
          · rw [if_neg hf] at he
            have hf' : allD formB d = true := by simpa using hf
            have hg := good_of d (by omega) hk' hf'
            cases hm : mkV d with
            | none =>
              rw [if_pos hm] at he
              exact build_twice d w v h he h1 h2 (by omega) hk' hf' hg hm
            | some x =>
              rw [if_neg (by rw [hm]; simp)] at he
              exact build_fine d w v h he h1 h2 (by omega) hk' hf' hg hm
    · rw [if_pos (show 64 < sizeD d ∨ 1024 < textD d by omega)] at he
      exact build_text d w v h he (by rw [hcd]; simp only; omega) (by rw [hcd]; simp only; omega)
  · rw [if_pos (show 64 < sizeD d ∨ 1024 < textD d by omega)] at he
    exact build_small d w v h he (hc.2 (by omega))
end Go.Proofs.YtkpfeodffhfejaaGreatDoor

/- Numbers of a built value are in range. Condition: the descriptor's are. -/
namespace Go.Proofs.YtkpfeodffhfejaaGreatDoor
set_option linter.unusedVariables false
set_option maxRecDepth 1000000
open Go.RowKit

/-- All numbers of a descriptor are in range. -/
inductive DR : D → Prop where
  | mk (d : D) (hk : I64 d.kind) (hb : U64 d.bits) (hi : U64 d.imag) (hh : I64 d.hook) (ht : d.type.size ≤ cap47) (hx : d.text.size ≤ cap47) (hn : ∀ x ∈ d.names, x.size ≤ cap47) (hp : ∀ x ∈ d.parts, DR x) : DR d
theorem IsD.rng {w : World} {v : Value} {d : D} (h : IsD w v d) : DR d := by
  induction h with
  | mk d a5 c5 a6 c6 b6 o6 hk hb hi hh ht hx hn h1 h2 h3 hp ih =>
    obtain ⟨_, _, _, _, _, _, hn5⟩ := hn
    refine .mk d hk hb hi hh ht hx hn5 fun x hx => ?_
    obtain ⟨i, hi, rfl⟩ := List.getElem_of_mem hx
    exact ih i hi
theorem modN_cases (n : Int) : modN n = 256 ∨ modN n = 65536 ∨ modN n = 4294967296 ∨ modN n = 18446744073709551616 := by unfold modN; split; simp; split; simp; split <;> simp
theorem sgnN_rng (n x : Int) : I64 (sgnN n x) := by
  unfold sgnN I64
  rcases modN_cases n with h | h | h | h <;> rw [h] <;> split <;> omega
theorem unsN_rng (n x : Int) : U64 (unsN n x) := by
  unfold unsN U64
  rcases modN_cases n with h | h | h | h <;> rw [h] <;> omega
theorem low_rng (x : Int) : U64 (x % 4294967296) := by unfold U64; omega
theorem leafV_rng {d : D} (h : DR d) : VR (leafV d) := by
  cases h with
  | mk _ hk hb hi hh ht hx hn hp =>
    have hB : d.base.Rng := ⟨hk, hh, ht⟩
    unfold leafV
    repeat' split
    · exact .nil
    · exact .leaf _ hB
    · exact .leaf _ ⟨hB, sgnN_rng _ _⟩
    · exact .leaf _ ⟨hB, unsN_rng _ _⟩
    · exact .leaf _ ⟨hB, low_rng _⟩
    · exact .leaf _ ⟨hB, hb⟩
    · exact .leaf _ ⟨hB, low_rng _, low_rng _⟩
    · exact .leaf _ ⟨hB, hb, hi⟩
    · exact .leaf _ ⟨hB, hx⟩
    · exact .leaf _ ⟨hB, hx⟩
theorem mem_pairs : ∀ (l : List V) (p : V × V), p ∈ pairs l → p.1 ∈ l ∧ p.2 ∈ l
  | [], p, h => by simp [pairs] at h
  | [a], p, h => by simp [pairs] at h
  | a :: b :: l, p, h => by
    simp only [pairs, List.mem_cons] at h
    rcases h with rfl | h
    · simp
    · have := mem_pairs l p h; simp [this.1, this.2]
theorem mem_flat : ∀ (l : List (V × V)) (x : V), x ∈ flat l → ∃ p ∈ l, x = p.1 ∨ x = p.2
  | [], x, h => by simp [flat] at h
  | (a, b) :: l, x, h => by
    simp only [flat, List.mem_cons] at h
    rcases h with rfl | rfl | h
    · exact ⟨(x, b), by simp, .inl rfl⟩
    · exact ⟨(a, x), by simp, .inr rfl⟩
    · obtain ⟨p, h1, h2⟩ := mem_flat l x h; exact ⟨p, by simp [h1], h2⟩
theorem mem_sorted {l : List V} {x : V} (h : x ∈ flat (sortP (pairs l))) : x ∈ l := by
  obtain ⟨p, h1, h2⟩ := mem_flat _ _ h
  have := mem_pairs l p ((sortP_perm _).mem_iff.1 h1)
  rcases h2 with rfl | rfl
  · exact this.1
  · exact this.2
theorem greatV_rng {d : D} (h : DR d) {l : List V} (hl : ∀ x ∈ l, VR x) {x : V} (hx : greatV d l = some x) : VR x := by
  cases h with
  | mk _ hk hb hi hh ht htx hn hp =>
    have hB : d.base.Rng := ⟨hk, hh, ht⟩
    have h0 : U64 0 := U64_0
    unfold greatV at hx
    split at hx
    · split at hx
      · injection hx with hx; subst hx; exact .great _ _ _ _ _ hB h0 hn hl
      · cases hx
    · split at hx
      · split at hx
        · injection hx with hx; subst hx; exact .great _ _ _ _ _ hB h0 (fun x h => by cases h) (fun x h => hl x (mem_sorted h))
        · cases hx
      · split at hx
        · injection hx with hx; subst hx; exact .great _ _ _ _ _ hB hb (fun x h => by cases h) hl
        · injection hx with hx; subst hx; exact .great _ _ _ _ _ hB h0 (fun x h => by cases h) hl
theorem mkV_rng : ∀ (d : D), DR d → ∀ x, mkV d = some x → VR x := by
  refine D.induct_d fun d ih h x hx => ?_
  by_cases h18 : d.kind < 18
  · rw [mkV_leaf h18] at hx
    injection hx with hx
    subst hx
    exact leafV_rng h
  · rw [mkV_great (by omega)] at hx
    cases hm : mkL d.parts with
    | none => rw [hm] at hx; cases hx
    | some l =>
      rw [hm] at hx
      refine greatV_rng h (fun y hy => ?_) hx
      obtain ⟨i, hi, rfl⟩ := List.getElem_of_mem hy
      have hi' : i < d.parts.length := by rw [← mkL_length _ hm]; exact hi
      have hdr := h
      cases hdr with
      | mk _ _ _ _ _ _ _ _ hp => exact ih _ (List.getElem_mem hi') (hp _ (List.getElem_mem hi')) _ (mkL_get hm i hi' hi)
theorem leafV_ok (d : D) (h : 0 ≤ d.kind) (h17 : d.kind ≤ 17) : (leafV d).ok := by
  unfold leafV
  repeat' split
  all_goals (simp only [V.ok, D.base] <;> try omega)
theorem mkV_ok {d : D} {x : V} (h0 : 0 ≤ d.kind) (h22 : d.kind ≤ 22) (hx : mkV d = some x) : x.ok := by
  by_cases h18 : d.kind < 18
  · rw [mkV_leaf h18] at hx
    injection hx with hx
    subst hx
    exact leafV_ok d h0 (by omega)
  · rw [mkV_great (by omega)] at hx
    cases hm : mkL d.parts with
    | none => rw [hm] at hx; cases hx
    | some l =>
      rw [hm] at hx
      simp only [Option.bind_some] at hx
      unfold greatV at hx
      split at hx
      · split at hx
        · injection hx with hx; subst hx; simp only [V.ok, D.base]; omega
        · cases hx
      · split at hx
        · split at hx
          · injection hx with hx; subst hx; simp only [V.ok, D.base]; omega
          · cases hx
        · split at hx
          · injection hx with hx; subst hx; simp only [V.ok, D.base]; omega
          · injection hx with hx; subst hx; simp only [V.ok, D.base]; omega
theorem mkV_kind {d : D} {x : V} (h0 : 0 ≤ d.kind) (hx : mkV d = some x) : x.base.kind = d.kind := by
  by_cases h18 : d.kind < 18
  · rw [mkV_leaf h18] at hx
    injection hx with hx
    subst hx
    unfold leafV
    repeat' split
    all_goals (simp only [V.base, Leaf.base, D.base] <;> try omega)
  · rw [mkV_great (by omega)] at hx
    cases hm : mkL d.parts with
    | none => rw [hm] at hx; cases hx
    | some l =>
      rw [hm] at hx
      simp only [Option.bind_some] at hx
      unfold greatV at hx
      repeat' split at hx
      all_goals first | (injection hx with hx; subst hx; rfl) | cases hx
end Go.Proofs.YtkpfeodffhfejaaGreatDoor
