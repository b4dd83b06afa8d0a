/- A number of a directive: parse's num. No condition but the text's size. -/
import Derived.Test.YtnalppgjbllehaaGreatDoorL05
import Derived.Deep.RegionWith
namespace Go.Proofs.YtnalppgjbllehaaGreatDoor
set_option linter.unusedVariables false
set_option linter.unusedSimpArgs false
open Go.RowKit

structure NumR where
  num : NumP
  arg : IdxD
  rest : ByteArray
def numI (t : ByteArray) (x : IdxD) (zero : Bool) : NumR :=
  if bt t 0 = 42 then ⟨⟨2, 0, x⟩, ⟨0, 0⟩, drop1 t⟩
  else if 49 ≤ bt t 0 ∧ bt t 0 ≤ 57 ∨ (zero = true ∧ bt t 0 = 48) then ⟨⟨1, numB (digD t) 1000, ⟨0, 0⟩⟩, spoiltI x, digR t⟩
  else if zero = true then ⟨⟨1, 0, ⟨0, 0⟩⟩, x, t⟩
  else ⟨⟨0, 0, ⟨0, 0⟩⟩, x, t⟩
def NumPost (b bx : Nat) (t : ByteArray) (x : IdxD) (zero : Bool) (w : World) (e : Ending) (w' : World) : Prop :=
  e = .returned (.tuple #[.agg #[.int .i64 (numI t x zero).num.kind, .int .i64 (numI t x zero).num.n, .int .i64 (numI t x zero).num.arg.kind, .int .i64 (numI t x zero).num.arg.n],
      .agg #[.int .i64 (numI t x zero).arg.kind, .int .i64 (numI t x zero).arg.n]]) ∧ Rdr w' b bx (numI t x zero).rest ∧ One b w w'
theorem bt_lt (t : ByteArray) (i : Nat) : bt t i < 256 := by
  unfold bt
  split
  · exact t[i].toNat_lt
  · omega
theorem two_fin {w W : World} {b bx n : Nat} {u : ByteArray} {y0 y1 y2 y3 : Value} {T : TypeId} (hn : W.heap[n]? = some (.cells #[y0, y1, y2, y3] T (0, 0)))
    (h1 : w.heap.size ≤ n) (hr : Rdr W b bx u) (ho : One b w W) (hb : b < w.heap.size) (hx : bx < w.heap.size) (a0 a1 a2 a3 : Value) :
    ((((W.setCell ⟨n, 0, none⟩ a0).setCell ⟨n, 1, none⟩ a1).setCell ⟨n, 2, none⟩ a2).setCell ⟨n, 3, none⟩ a3).heap[n]? = some (.cells #[a0, a1, a2, a3] T (0, 0)) ∧
      (∀ k, k ≠ n → ((((W.setCell ⟨n, 0, none⟩ a0).setCell ⟨n, 1, none⟩ a1).setCell ⟨n, 2, none⟩ a2).setCell ⟨n, 3, none⟩ a3).heap[k]? = W.heap[k]?) ∧
      Rdr ((((W.setCell ⟨n, 0, none⟩ a0).setCell ⟨n, 1, none⟩ a1).setCell ⟨n, 2, none⟩ a2).setCell ⟨n, 3, none⟩ a3) b bx u ∧
      One b w ((((W.setCell ⟨n, 0, none⟩ a0).setCell ⟨n, 1, none⟩ a1).setCell ⟨n, 2, none⟩ a2).setCell ⟨n, 3, none⟩ a3) := by
  have hk : ∀ k, k ≠ n → ((((W.setCell ⟨n, 0, none⟩ a0).setCell ⟨n, 1, none⟩ a1).setCell ⟨n, 2, none⟩ a2).setCell ⟨n, 3, none⟩ a3).heap[k]? = W.heap[k]? := fun k hk => by
    rw [Below.heap_setCell _ _ _ _ hk, Below.heap_setCell _ _ _ _ hk, Below.heap_setCell _ _ _ _ hk, Below.heap_setCell _ _ _ _ hk]
  refine ⟨?_, hk, hr.keep (hk b (by omega)) (hk bx (by omega)), ⟨ho.os, ho.tape, ho.output, ?_, fun k h2 h3 => (hk k (by omega)).trans (ho.block k h2 h3)⟩⟩
  · have e := set_block (j := 3) (set_block (j := 2) (set_block (j := 1) (set_block (j := 0) hn a0) a1) a2) a3
    have ha2 : (((#[y0, y1, y2, y3].setIfInBounds 0 a0).setIfInBounds 1 a1).setIfInBounds 2 a2).setIfInBounds 3 a3 = #[a0, a1, a2, a3] := by simp
    rw [ha2] at e
    exact e
  · simpa using ho.size
theorem one_fin {w W : World} {b bx n : Nat} {u : ByteArray} {y0 y1 : Value} {T : TypeId} (hn : W.heap[n]? = some (.cells #[y0, y1] T (0, 0)))
    (h1 : w.heap.size ≤ n) (hr : Rdr W b bx u) (ho : One b w W) (hb : b < w.heap.size) (hx : bx < w.heap.size) (a0 a1 : Value) :
    ((W.setCell ⟨n, 0, none⟩ a0).setCell ⟨n, 1, none⟩ a1).heap[n]? = some (.cells #[a0, a1] T (0, 0)) ∧
      (∀ k, k ≠ n → ((W.setCell ⟨n, 0, none⟩ a0).setCell ⟨n, 1, none⟩ a1).heap[k]? = W.heap[k]?) ∧
      Rdr ((W.setCell ⟨n, 0, none⟩ a0).setCell ⟨n, 1, none⟩ a1) b bx u ∧
      One b w ((W.setCell ⟨n, 0, none⟩ a0).setCell ⟨n, 1, none⟩ a1) := by
  have hk : ∀ k, k ≠ n → ((W.setCell ⟨n, 0, none⟩ a0).setCell ⟨n, 1, none⟩ a1).heap[k]? = W.heap[k]? := fun k hk => by
    rw [Below.heap_setCell _ _ _ _ hk, Below.heap_setCell _ _ _ _ hk]
  refine ⟨?_, hk, hr.keep (hk b (by omega)) (hk bx (by omega)), ⟨ho.os, ho.tape, ho.output, ?_, fun k h2 h3 => (hk k (by omega)).trans (ho.block k h2 h3)⟩⟩
  · have e := set_block (j := 1) (set_block (j := 0) hn a0) a1
    have ha2 : (#[y0, y1].setIfInBounds 0 a0).setIfInBounds 1 a1 = #[a0, a1] := by simp
    rw [ha2] at e
    exact e
  · simpa using ho.size
/-- The two results' blocks are written. -/
def NumFin (w W' : World) (b bx n a : Nat) (u : ByteArray) (a0 a1 a2 a3 c0 c1 : Value) : Prop :=
  W'.heap[n]? = some (.cells #[a0, a1, a2, a3] 65 (0, 0)) ∧ W'.heap[a]? = some (.cells #[c0, c1] 63 (0, 0)) ∧ Rdr W' b bx u ∧ One b w W'
theorem num_fin {w W : World} {b bx n a : Nat} {u : ByteArray} {y0 y1 y2 y3 z0 z1 : Value} (hn : W.heap[n]? = some (.cells #[y0, y1, y2, y3] 65 (0, 0))) (ha : W.heap[a]? = some (.cells #[z0, z1] 63 (0, 0)))
    (h1 : w.heap.size ≤ n) (h2 : w.heap.size ≤ a) (hna : n ≠ a) (hr : Rdr W b bx u) (ho : One b w W) (hb : b < w.heap.size) (hx : bx < w.heap.size) (a0 a1 a2 a3 c0 c1 : Value) :
    NumFin w ((((((W.setCell ⟨n, 0, none⟩ a0).setCell ⟨n, 1, none⟩ a1).setCell ⟨n, 2, none⟩ a2).setCell ⟨n, 3, none⟩ a3).setCell ⟨a, 0, none⟩ c0).setCell ⟨a, 1, none⟩ c1) b bx n a u a0 a1 a2 a3 c0 c1 := by
  obtain ⟨e1, e2, e3, e4⟩ := two_fin hn h1 hr ho hb hx a0 a1 a2 a3
  obtain ⟨f1, f2, f3, f4⟩ := one_fin ((e2 a (Ne.symm hna)).trans ha) h2 e3 e4 hb hx c0 c1
  exact ⟨(f2 n hna).trans e1, f1, f3, f4⟩
structure NumW (w W : World) (b bx : Nat) (u : ByteArray) (xk xn : Int) : Prop where
  hx : W.heap[w.heap.size]? = some (.cells #[.int .i64 xk, .int .i64 xn] 63 (0, 0))
  hn : W.heap[w.heap.size + 1]? = some (.cells #[.int .i64 0, .int .i64 0, .int .i64 0, .int .i64 0] 65 (0, 0))
  ha : W.heap[w.heap.size + 1 + 1]? = some (.cells #[.int .i64 0, .int .i64 0] 63 (0, 0))
  rdr : Rdr W b bx u
  one : One b w W
  lt : b < w.heap.size
theorem cell_far {W : World} {n m j i : Nat} {v : Value} (h : n ≠ m) : (W.setCell ⟨m, j, none⟩ v).cell? ⟨n, i, none⟩ = W.cell? ⟨n, i, none⟩ := World.cell?_of_block (a := ⟨n, i, none⟩) (Below.heap_setCell _ _ _ _ h)
theorem NumW.size {w W : World} {b bx : Nat} {u : ByteArray} {xk xn : Int} (h : NumW w W b bx u xk xn) : w.heap.size + 1 + 1 < W.heap.size := World.block_lt_of_cell? W _ (cell_of_heap' h.ha 0)
theorem NumW.below {w W W' : World} {b bx : Nat} {u : ByteArray} {xk xn : Int} (h : NumW w W b bx u xk xn) (hb : Below W.heap.size W W') : NumW w W' b bx u xk xn :=
  ⟨(hb.block _ (by have := h.size; omega)).trans h.hx, (hb.block _ (by have := h.size; omega)).trans h.hn, (hb.block _ h.size).trans h.ha, h.rdr.below hb, h.one.below hb, h.lt⟩
theorem NumW.put {w W : World} {b bx : Nat} {u : ByteArray} {xk xn : Int} (h : NumW w W b bx u xk xn) (v : ByteArray) : NumW w (W.setCell ⟨b, 0, none⟩ (.string v)) b bx v xk xn :=
  ⟨(Below.heap_setCell _ _ _ _ (by have := h.lt; show w.heap.size ≠ b; omega)).trans h.hx, (Below.heap_setCell _ _ _ _ (by have := h.lt; show w.heap.size + 1 ≠ b; omega)).trans h.hn,
    (Below.heap_setCell _ _ _ _ (by have := h.lt; show w.heap.size + 1 + 1 ≠ b; omega)).trans h.ha, h.rdr.put v, h.one.put 0 _, h.lt⟩
theorem NumW.cells {w W : World} {b bx : Nat} {u : ByteArray} {xk xn : Int} (h : NumW w W b bx u xk xn) :
    W.cell? ⟨w.heap.size, 0, none⟩ = some (.int .i64 xk) ∧ W.cell? ⟨w.heap.size, 1, none⟩ = some (.int .i64 xn) ∧ W.cell? ⟨w.heap.size + 1, 0, none⟩ = some (.int .i64 0) ∧ W.frozen? ⟨w.heap.size + 1, 0, none⟩ = false ∧ W.cell? ⟨w.heap.size + 1, 1, none⟩ = some (.int .i64 0) ∧ W.frozen? ⟨w.heap.size + 1, 1, none⟩ = false ∧ W.cell? ⟨w.heap.size + 1, 2, none⟩ = some (.int .i64 0) ∧ W.frozen? ⟨w.heap.size + 1, 2, none⟩ = false ∧ W.cell? ⟨w.heap.size + 1, 3, none⟩ = some (.int .i64 0) ∧ W.frozen? ⟨w.heap.size + 1, 3, none⟩ = false ∧ W.cell? ⟨w.heap.size + 1 + 1, 0, none⟩ = some (.int .i64 0) ∧ W.frozen? ⟨w.heap.size + 1 + 1, 0, none⟩ = false ∧ W.cell? ⟨w.heap.size + 1 + 1, 1, none⟩ = some (.int .i64 0) ∧ W.frozen? ⟨w.heap.size + 1 + 1, 1, none⟩ = false :=
  ⟨cell_of_heap' h.hx 0, cell_of_heap' h.hx 1, cell_of_heap' h.hn 0, frozen_of_heap' h.hn 0, cell_of_heap' h.hn 1, frozen_of_heap' h.hn 1, cell_of_heap' h.hn 2, frozen_of_heap' h.hn 2, cell_of_heap' h.hn 3, frozen_of_heap' h.hn 3, cell_of_heap' h.ha 0, frozen_of_heap' h.ha 0, cell_of_heap' h.ha 1, frozen_of_heap' h.ha 1⟩
set_option maxHeartbeats 4000000 in
set_option maxRecDepth 1000000 in
theorem num_any (b bx : Nat) (t : ByteArray) (x : IdxD) (zero : Bool) (w : World) (h : Rdr w b bx t) (hs : t.size ≤ 140737488355328) :
    Calls Tryz.prog 73 #[.pointer (some ⟨b, 0, none⟩), .agg #[.int .i64 x.kind, .int .i64 x.n], .bool zero] w (NumPost b bx t x zero w) := by
  have hlt := h.lt
  have HR := Lib.hid h
  unfold NumPost
  obtain ⟨r, hr⟩ : ∃ r, numI t x zero = r := ⟨_, rfl⟩
  rw [hr]
  have HRR := Lib.hid hr
  obtain ⟨hlb, hlx⟩ := hlt
  clear h hr
  go_enter Tryz.func73, Tryz.ntmps73
  go_upto_region 1 with fail
  obtain ⟨xk, xn⟩ := x
  have HX := Lib.hid (heap_alloc_new w (.cells #[.int .i64 xk, .int .i64 xn] 63))
  have HO := Lib.hid ((((One.refl b w).push (.cells #[.int .i64 xk, .int .i64 xn] 63)).push (.cells #[.int .i64 0, .int .i64 0, .int .i64 0, .int .i64 0] 65)).push (.cells #[.int .i64 0, .int .i64 0] 63))
  have HB1 := Lib.hid (((Below.new (w := w) (.cells #[.int .i64 xk, .int .i64 xn] 63)).push (.cells #[.int .i64 0, .int .i64 0, .int .i64 0, .int .i64 0] 65)).push (.cells #[.int .i64 0, .int .i64 0] 63))
  have HR1 := Lib.hid (HR.out.below HB1.out)
  have n1 : (w.alloc (.cells #[.int .i64 xk, .int .i64 xn] 63)).heap.size = w.heap.size + 1 := by simp
  have n2 : ((w.alloc (.cells #[.int .i64 xk, .int .i64 xn] 63)).alloc (.cells #[.int .i64 0, .int .i64 0, .int .i64 0, .int .i64 0] 65)).heap.size = w.heap.size + 1 + 1 := by simp
  have HN := Lib.hid (heap_alloc_new (w.alloc (.cells #[.int .i64 xk, .int .i64 xn] 63)) (.cells #[.int .i64 0, .int .i64 0, .int .i64 0, .int .i64 0] 65))
  have HA := Lib.hid (heap_alloc_new ((w.alloc (.cells #[.int .i64 xk, .int .i64 xn] 63)).alloc (.cells #[.int .i64 0, .int .i64 0, .int .i64 0, .int .i64 0] 65)) (.cells #[.int .i64 0, .int .i64 0] 63))
  rw [n1] at HN
  rw [n2] at HA
  have HX1 := Lib.hid ((((Below.new (w := (w.alloc (.cells #[.int .i64 xk, .int .i64 xn] 63))) (.cells #[.int .i64 0, .int .i64 0, .int .i64 0, .int .i64 0] 65)).push (.cells #[.int .i64 0, .int .i64 0] 63)).block _ (by omega)).trans HX.out)
  have HN1 := Lib.hid ((heap_alloc_old (w := ((w.alloc (.cells #[.int .i64 xk, .int .i64 xn] 63)).alloc (.cells #[.int .i64 0, .int .i64 0, .int .i64 0, .int .i64 0] 65))) (.cells #[.int .i64 0, .int .i64 0] 63) (by omega)).trans HN.out)
  clear n1 n2 HX HN HR HB1
  generalize (((w.alloc (.cells #[.int .i64 xk, .int .i64 xn] 63)).alloc (.cells #[.int .i64 0, .int .i64 0, .int .i64 0, .int .i64 0] 65)).alloc (.cells #[.int .i64 0, .int .i64 0] 63)) = W1 at HX1 HN1 HA HR1 HO ⊢
  have HW : Hid (W1 = W1) := Lib.hid rfl
  obtain ⟨r0, r1, rx, rf, rne⟩ := HR1.out
  have x0 : W1.cell? ⟨w.heap.size, 0, none⟩ = some (.int .i64 xk) := cell_of_heap' HX1.out 0
  have x1 : W1.cell? ⟨w.heap.size, 1, none⟩ = some (.int .i64 xn) := cell_of_heap' HX1.out 1
  go_wp2_with fail
  refine (peek_any b bx t W1 HR1.out).mono ?_
  rintro e w2 ⟨rfl, rfl⟩
  obtain ⟨c, hc⟩ : ∃ c, bt t 0 = c := ⟨_, rfl⟩
  rw [hc]
  have hn0 := World.block_lt_of_cell? W1 _ (cell_of_heap' HA.out 0)
  have hcb : c < 256 := hc ▸ bt_lt t 0
  clear x0 x1
  by_cases h42 : c = 42
  · subst h42
    have HQ : Hid (r = ⟨⟨2, 0, ⟨xk, xn⟩⟩, ⟨0, 0⟩, drop1 t⟩) := by
      rw [← HRR.out]
      unfold numI
      rw [if_pos hc]
      exact Lib.hid rfl
    have ht : 0 < t.size := by
      unfold bt at hc
      split at hc
      · assumption
      · omega
    clear hc hcb
    have HR3 := Lib.hid (HR1.out.put (drop1 t))
    have HO3 := Lib.hid (HO.out.put 0 (.string (drop1 t)))
    have keep : ∀ k, w.heap.size ≤ k → (W1.setCell ⟨b, 0, none⟩ (.string (drop1 t))).heap[k]? = W1.heap[k]? := fun k hk => Below.heap_setCell _ _ _ _ (by show k ≠ b; omega)
    have HX2 := Lib.hid ((keep w.heap.size (by omega)).trans HX1.out)
    have HN2 := Lib.hid ((keep (w.heap.size + 1) (by omega)).trans HN1.out)
    have HA2 := Lib.hid ((keep (w.heap.size + 1 + 1) (by omega)).trans HA.out)
    clear keep
    go_upto_region 4 with fail
    change Code.wp _ _ _ _ (W1.setCell ⟨b, 0, none⟩ (.string (drop1 t)))
    generalize W1.setCell ⟨b, 0, none⟩ (.string (drop1 t)) = W3 at HR3 HO3 HX2 HN2 HA2 ⊢
    have x0 : W3.cell? ⟨w.heap.size, 0, none⟩ = some (.int .i64 xk) := cell_of_heap' HX2.out 0
    have x1 : W3.cell? ⟨w.heap.size, 1, none⟩ = some (.int .i64 xn) := cell_of_heap' HX2.out 1
    have n0 : W3.cell? ⟨w.heap.size + 1, 0, none⟩ = some (.int .i64 0) := cell_of_heap' HN2.out 0
    have m0 : W3.frozen? ⟨w.heap.size + 1, 0, none⟩ = false := frozen_of_heap' HN2.out 0
    have n1 : W3.cell? ⟨w.heap.size + 1, 1, none⟩ = some (.int .i64 0) := cell_of_heap' HN2.out 1
    have m1 : W3.frozen? ⟨w.heap.size + 1, 1, none⟩ = false := frozen_of_heap' HN2.out 1
    have n2 : W3.cell? ⟨w.heap.size + 1, 2, none⟩ = some (.int .i64 0) := cell_of_heap' HN2.out 2
    have m2 : W3.frozen? ⟨w.heap.size + 1, 2, none⟩ = false := frozen_of_heap' HN2.out 2
    have n3 : W3.cell? ⟨w.heap.size + 1, 3, none⟩ = some (.int .i64 0) := cell_of_heap' HN2.out 3
    have m3 : W3.frozen? ⟨w.heap.size + 1, 3, none⟩ = false := frozen_of_heap' HN2.out 3
    have i0 : W3.cell? ⟨w.heap.size + 1 + 1, 0, none⟩ = some (.int .i64 0) := cell_of_heap' HA2.out 0
    have j0 : W3.frozen? ⟨w.heap.size + 1 + 1, 0, none⟩ = false := frozen_of_heap' HA2.out 0
    have i1 : W3.cell? ⟨w.heap.size + 1 + 1, 1, none⟩ = some (.int .i64 0) := cell_of_heap' HA2.out 1
    have j1 : W3.frozen? ⟨w.heap.size + 1 + 1, 1, none⟩ = false := frozen_of_heap' HA2.out 1
    go_wp2_with fail
    clear x0 x1 n0 n1 n2 n3 m0 m1 m2 m3 i0 i1 j0 j1
    have hfin := num_fin HN2.out HA2.out (by omega) (by omega) (by omega) HR3.out HO3.out hlb hlx (.int .i64 2) (.int .i64 0) (.int .i64 xk) (.int .i64 xn) (.int .i64 0) (.int .i64 0)
    obtain ⟨g1, g2, g3, g4⟩ := hfin
    have c0 := cell_of_heap' g1 0
    have c1 := cell_of_heap' g1 1
    have c2 := cell_of_heap' g1 2
    have c3 := cell_of_heap' g1 3
    have c4 := cell_of_heap' g2 0
    have c5 := cell_of_heap' g2 1
    obtain rfl := HQ.out
    refine bodyPost_ret (v := .tuple #[.agg #[.int .i64 2, .int .i64 0, .int .i64 xk, .int .i64 xn], .agg #[.int .i64 0, .int .i64 0]]) (by simp [results, Tryz.f73, go_sem, c0, c1, c2, c3, c4, c5]) rfl ?_
    exact ⟨rfl, g3, g4⟩
  · have e42 : ((c : Int) == 42) = false := by simp; omega
    have HC := Lib.hid hc
    clear hc
    by_cases hA : 49 ≤ c ∧ c ≤ 57
    · have l1 : (49 : Int) ≤ c := by omega
      have l2 : (c : Int) ≤ 57 := by omega
      have HQ : Hid (r = ⟨⟨1, numB (digD t) 1000, ⟨0, 0⟩⟩, spoiltI ⟨xk, xn⟩, digR t⟩) := by
        rw [← HRR.out]
        unfold numI
        rw [HC.out, if_neg h42, if_pos (Or.inl hA)]
        exact Lib.hid rfl
      go_upto_region 5 with fail
      go_cut [28] (fun v28 wx => v28 = .bool true ∧ wx = W1)
      case first =>
        go_wp2_with fail
        go_meet
        exact ⟨rfl, rfl⟩
      case rest =>
      obtain ⟨rfl, rfl⟩ := hcut
      apply_assumption
      go_upto_region 7 with fail
      have HS := Lib.hid ((NumW.mk HX1.out HN1.out HA.out HR1.out HO.out hlb).below (Below.refl _ wc).drew)
      have hnb : -1 ≤ numB (digD t) 1000 ∧ numB (digD t) 1000 ≤ 1000 := by
        refine numF_le (digD t).size (digD t) 0 0 1000 (fun j => ?_) (by omega) (by omega) (by omega)
        rcases Nat.lt_or_ge j (digD t).size with hj | hj
        · exact Or.inl (digD_dg t j hj)
        · exact Or.inr hj
      have HDD := Lib.hid (digD_dg t)
      have hds : (digD t).size ≤ 140737488355328 := by unfold digD; rw [ByteArray.size_extract]; omega
      obtain ⟨d, hd⟩ : ∃ d, digD t = d := ⟨_, rfl⟩
      have HD := Lib.hid hd
      rw [hd] at HQ hnb HDD hds
      obtain ⟨N, hN⟩ : ∃ N, numB d 1000 = N := ⟨_, rfl⟩
      have HNN := Lib.hid hN
      rw [hN] at HQ hnb
      obtain ⟨⟨sk, sn⟩, hsp⟩ : ∃ y, spoiltI ⟨xk, xn⟩ = y := ⟨_, rfl⟩
      rw [hsp] at HQ
      have HNUM : Hid (∀ W, Calls Tryz.prog 100 #[.string d, .int .i64 1000] W (Ret W (.int .i64 N))) := by
        rw [← hN]
        exact Lib.hid (fun W => number_any d 1000 W hds HDD.out (by decide) (by decide))
      have HSP : Hid (∀ W, Calls Tryz.prog 75 #[.agg #[.int .i64 xk, .int .i64 xn]] W (Ret W (.agg #[.int .i64 sk, .int .i64 sn]))) := by
        have := spoilt_any ⟨xk, xn⟩
        rw [hsp] at this
        exact Lib.hid this
      have HDG : Hid (∀ W, Rdr W b bx t → Calls Tryz.prog 101 #[.pointer (some ⟨b, 0, none⟩)] W (fun e w' => e = .returned (.string d) ∧ w' = W.setCell ⟨b, 0, none⟩ (.string (digR t)))) := by
        have := fun W h => rdigits_any b bx t W h hs
        rw [hd] at this
        exact Lib.hid this
      clear hd hN hsp r0 r1 rx rf
      obtain ⟨x0, x1, -⟩ := (NumW.mk HX1.out HN1.out HA.out HR1.out HO.out hlb).cells
      go_region_with
        (first
        | ((with_reducible refine (HDG.out _ HS.out.rdr).mono ?_); rintro e wa ⟨rfl, hwa⟩; have HS : Hid (NumW w wa b bx (digR t) xk xn) := hwa ▸ Lib.hid (HS.out.put (digR t)); clear hwa x0 x1; obtain ⟨x0, x1, -⟩ := HS.out.cells)
        | ((with_reducible refine (HNUM.out _).mono ?_); rintro e wb ⟨rfl, hwb⟩; have HS := Lib.hid (HS.out.below hwb); clear hwb x0 x1; obtain ⟨x0, x1, -⟩ := HS.out.cells)
        | ((with_reducible refine (HSP.out _).mono ?_); rintro e wd ⟨rfl, hwd⟩; have HS := Lib.hid (HS.out.below hwd); clear hwd x0 x1; obtain ⟨-, -, n0, m0, n1, m1, n2, m2, n3, m3, i0, j0, i1, j1⟩ := HS.out.cells))
      all_goals
        go_wp2_with fail
        clear n0 n1 n2 n3 m0 m1 m2 m3 i0 i1 j0 j1
        have hfin := num_fin HS.out.hn HS.out.ha (by omega) (by omega) (by omega) HS.out.rdr HS.out.one hlb hlx (.int .i64 1) (.int .i64 N) (.int .i64 0) (.int .i64 0) (.int .i64 sk) (.int .i64 sn)
        obtain ⟨g1, g2, g3, g4⟩ := hfin
        have c0 := cell_of_heap' g1 0
        have c1 := cell_of_heap' g1 1
        have c2 := cell_of_heap' g1 2
        have c3 := cell_of_heap' g1 3
        have c4 := cell_of_heap' g2 0
        have c5 := cell_of_heap' g2 1
        obtain rfl := HQ.out
        refine bodyPost_ret (v := .tuple #[.agg #[.int .i64 1, .int .i64 N, .int .i64 0, .int .i64 0], .agg #[.int .i64 sk, .int .i64 sn]]) (by simp [results, Tryz.f73, go_sem, c0, c1, c2, c3, c4, c5]) rfl ?_
        exact ⟨rfl, g3, g4⟩
    · have HNA := Lib.hid hA
      go_upto_region 5 with fail
      go_cut [28] (fun v28 wx => v28 = .bool false ∧ wx = W1)
      case first =>
        by_cases h49 : 49 ≤ c
        · have l1 : (49 : Int) ≤ c := by omega
          have l2 : ¬ (c : Int) ≤ 57 := by omega
          go_wp2_with fail
          go_meet
          exact ⟨rfl, rfl⟩
        · have l1 : ¬ (49 : Int) ≤ c := by omega
          go_wp2_with fail
          go_meet
          exact ⟨rfl, rfl⟩
      case rest =>
      obtain ⟨rfl, rfl⟩ := hcut
      apply_assumption
      cases zero with
      | true =>
        by_cases h48 : c = 48
        · have l3 : ((c : Int) == 48) = true := by simp; omega
          have HQ : Hid (r = ⟨⟨1, numB (digD t) 1000, ⟨0, 0⟩⟩, spoiltI ⟨xk, xn⟩, digR t⟩) := by
            rw [← HRR.out]
            unfold numI
            rw [HC.out, if_neg h42, if_pos (Or.inr ⟨rfl, h48⟩)]
            exact Lib.hid rfl
          go_upto_region 6 with fail
          go_cut [28] (fun v28 wx => v28 = .bool true ∧ wx = wc)
          case first =>
            go_wp2_with fail
            go_meet
            exact ⟨rfl, rfl⟩
          case rest =>
          obtain ⟨rfl, rfl⟩ := hcut
          apply_assumption
          go_upto_region 7 with fail
          have HS := Lib.hid ((NumW.mk HX1.out HN1.out HA.out HR1.out HO.out hlb).below (Below.refl _ wc).drew)
          have hnb : -1 ≤ numB (digD t) 1000 ∧ numB (digD t) 1000 ≤ 1000 := by
            refine numF_le (digD t).size (digD t) 0 0 1000 (fun j => ?_) (by omega) (by omega) (by omega)
            rcases Nat.lt_or_ge j (digD t).size with hj | hj
            · exact Or.inl (digD_dg t j hj)
            · exact Or.inr hj
          have HDD := Lib.hid (digD_dg t)
          have hds : (digD t).size ≤ 140737488355328 := by unfold digD; rw [ByteArray.size_extract]; omega
          obtain ⟨d, hd⟩ : ∃ d, digD t = d := ⟨_, rfl⟩
          have HD := Lib.hid hd
          rw [hd] at HQ hnb HDD hds
          obtain ⟨N, hN⟩ : ∃ N, numB d 1000 = N := ⟨_, rfl⟩
          have HNN := Lib.hid hN
          rw [hN] at HQ hnb
          obtain ⟨⟨sk, sn⟩, hsp⟩ : ∃ y, spoiltI ⟨xk, xn⟩ = y := ⟨_, rfl⟩
          rw [hsp] at HQ
          have HNUM : Hid (∀ W, Calls Tryz.prog 100 #[.string d, .int .i64 1000] W (Ret W (.int .i64 N))) := by
            rw [← hN]
            exact Lib.hid (fun W => number_any d 1000 W hds HDD.out (by decide) (by decide))
          have HSP : Hid (∀ W, Calls Tryz.prog 75 #[.agg #[.int .i64 xk, .int .i64 xn]] W (Ret W (.agg #[.int .i64 sk, .int .i64 sn]))) := by
            have := spoilt_any ⟨xk, xn⟩
            rw [hsp] at this
            exact Lib.hid this
          have HDG : Hid (∀ W, Rdr W b bx t → Calls Tryz.prog 101 #[.pointer (some ⟨b, 0, none⟩)] W (fun e w' => e = .returned (.string d) ∧ w' = W.setCell ⟨b, 0, none⟩ (.string (digR t)))) := by
            have := fun W h => rdigits_any b bx t W h hs
            rw [hd] at this
            exact Lib.hid this
          clear hd hN hsp r0 r1 rx rf
          obtain ⟨x0, x1, -⟩ := (NumW.mk HX1.out HN1.out HA.out HR1.out HO.out hlb).cells
          go_region_with
            (first
            | ((with_reducible refine (HDG.out _ HS.out.rdr).mono ?_); rintro e wa ⟨rfl, hwa⟩; have HS : Hid (NumW w wa b bx (digR t) xk xn) := hwa ▸ Lib.hid (HS.out.put (digR t)); clear hwa x0 x1; obtain ⟨x0, x1, -⟩ := HS.out.cells)
            | ((with_reducible refine (HNUM.out _).mono ?_); rintro e wb ⟨rfl, hwb⟩; have HS := Lib.hid (HS.out.below hwb); clear hwb x0 x1; obtain ⟨x0, x1, -⟩ := HS.out.cells)
            | ((with_reducible refine (HSP.out _).mono ?_); rintro e wd ⟨rfl, hwd⟩; have HS := Lib.hid (HS.out.below hwd); clear hwd x0 x1; obtain ⟨-, -, n0, m0, n1, m1, n2, m2, n3, m3, i0, j0, i1, j1⟩ := HS.out.cells))
          all_goals
            go_wp2_with fail
            clear n0 n1 n2 n3 m0 m1 m2 m3 i0 i1 j0 j1
            have hfin := num_fin HS.out.hn HS.out.ha (by omega) (by omega) (by omega) HS.out.rdr HS.out.one hlb hlx (.int .i64 1) (.int .i64 N) (.int .i64 0) (.int .i64 0) (.int .i64 sk) (.int .i64 sn)
            obtain ⟨g1, g2, g3, g4⟩ := hfin
            have c0 := cell_of_heap' g1 0
            have c1 := cell_of_heap' g1 1
            have c2 := cell_of_heap' g1 2
            have c3 := cell_of_heap' g1 3
            have c4 := cell_of_heap' g2 0
            have c5 := cell_of_heap' g2 1
            obtain rfl := HQ.out
            refine bodyPost_ret (v := .tuple #[.agg #[.int .i64 1, .int .i64 N, .int .i64 0, .int .i64 0], .agg #[.int .i64 sk, .int .i64 sn]]) (by simp [results, Tryz.f73, go_sem, c0, c1, c2, c3, c4, c5]) rfl ?_
            exact ⟨rfl, g3, g4⟩
        · have l3 : ((c : Int) == 48) = false := by simp; omega
          have HQ : Hid (r = ⟨⟨1, 0, ⟨0, 0⟩⟩, ⟨xk, xn⟩, t⟩) := by
            rw [← HRR.out]
            unfold numI
            rw [HC.out, if_neg h42, if_neg (fun h => h.elim HNA.out (fun h => h48 h.2)), if_pos rfl]
            exact Lib.hid rfl
          go_upto_region 6 with fail
          go_cut [28] (fun v28 wx => v28 = .bool false ∧ wx = wc)
          case first =>
            go_wp2_with fail
            go_meet
            exact ⟨rfl, rfl⟩
          case rest =>
          obtain ⟨rfl, rfl⟩ := hcut
          apply_assumption
          have HS := Lib.hid ((NumW.mk HX1.out HN1.out HA.out HR1.out HO.out hlb).below (Below.refl _ wc).drew)
          have K := (NumW.mk HX1.out HN1.out HA.out HR1.out HO.out hlb).cells
          obtain ⟨x0, x1, n0, m0, n1, m1, n2, m2, n3, m3, i0, j0, i1, j1⟩ := K
          go_wp2_with fail
          go_region
          go_wp2_with fail
          clear x0 x1 n0 n1 n2 n3 m0 m1 m2 m3 i0 i1 j0 j1
          have hfin := num_fin HN1.out HA.out (by omega) (by omega) (by omega) HR1.out HO.out hlb hlx (.int .i64 1) (.int .i64 0) (.int .i64 0) (.int .i64 0) (.int .i64 xk) (.int .i64 xn)
          obtain ⟨g1, g2, g3, g4⟩ := hfin
          have c0 := cell_of_heap' g1 0
          have c1 := cell_of_heap' g1 1
          have c2 := cell_of_heap' g1 2
          have c3 := cell_of_heap' g1 3
          have c4 := cell_of_heap' g2 0
          have c5 := cell_of_heap' g2 1
          obtain rfl := HQ.out
          refine bodyPost_ret (v := .tuple #[.agg #[.int .i64 1, .int .i64 0, .int .i64 0, .int .i64 0], .agg #[.int .i64 xk, .int .i64 xn]]) (by simp [results, Tryz.f73, go_sem, c0, c1, c2, c3, c4, c5]) rfl ?_
          exact ⟨rfl, g3.below (Below.refl _ _).drew, g4.below (Below.refl _ _).drew⟩
      | false =>
        have HQ : Hid (r = ⟨⟨0, 0, ⟨0, 0⟩⟩, ⟨xk, xn⟩, t⟩) := by
          rw [← HRR.out]
          unfold numI
          rw [HC.out, if_neg h42, if_neg (fun h => h.elim HNA.out (fun h => Bool.noConfusion h.1)), if_neg (fun h => Bool.noConfusion h)]
          exact Lib.hid rfl
        go_upto_region 6 with fail
        go_cut [28] (fun v28 wx => v28 = .bool false ∧ wx = wc)
        case first =>
          go_wp2_with fail
          go_meet
          exact ⟨rfl, rfl⟩
        case rest =>
        obtain ⟨rfl, rfl⟩ := hcut
        apply_assumption
        have HS := Lib.hid ((NumW.mk HX1.out HN1.out HA.out HR1.out HO.out hlb).below (Below.refl _ wc).drew)
        have K := (NumW.mk HX1.out HN1.out HA.out HR1.out HO.out hlb).cells
        obtain ⟨x0, x1, n0, m0, n1, m1, n2, m2, n3, m3, i0, j0, i1, j1⟩ := K
        go_wp2_with fail
        go_region
        go_wp2_with fail
        clear x0 x1 n0 n1 n2 n3 m0 m1 m2 m3 i0 i1 j0 j1
        have hfin := num_fin HN1.out HA.out (by omega) (by omega) (by omega) HR1.out HO.out hlb hlx (.int .i64 0) (.int .i64 0) (.int .i64 0) (.int .i64 0) (.int .i64 xk) (.int .i64 xn)
        obtain ⟨g1, g2, g3, g4⟩ := hfin
        have c0 := cell_of_heap' g1 0
        have c1 := cell_of_heap' g1 1
        have c2 := cell_of_heap' g1 2
        have c3 := cell_of_heap' g1 3
        have c4 := cell_of_heap' g2 0
        have c5 := cell_of_heap' g2 1
        obtain rfl := HQ.out
        refine bodyPost_ret (v := .tuple #[.agg #[.int .i64 0, .int .i64 0, .int .i64 0, .int .i64 0], .agg #[.int .i64 xk, .int .i64 xn]]) (by simp [results, Tryz.f73, go_sem, c0, c1, c2, c3, c4, c5]) rfl ?_
        exact ⟨rfl, g3.below (Below.refl _ _).drew, g4.below (Below.refl _ _).drew⟩
end Go.Proofs.YtnalppgjbllehaaGreatDoor
