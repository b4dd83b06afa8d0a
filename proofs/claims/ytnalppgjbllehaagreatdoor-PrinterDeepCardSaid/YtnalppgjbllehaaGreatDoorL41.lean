/- Is a value nil? The spec of numbers: tree's isNil and number. Condition: the argument is a value. -/
import Derived.Test.YtnalppgjbllehaaGreatDoorL36
import Derived.Test.YtnalppgjbllehaaGreatDoorL40
namespace Go.Proofs.YtnalppgjbllehaaGreatDoor
set_option linter.unusedVariables false
set_option linter.unusedSimpArgs false
open Go.RowKit

theorem asNil (t : TypeId) (v : Value) (w : World) : (Instr.typeAssert (.iface t v) 54 129 true).run Tryz.prog w = .ok (if t = 129 then .tuple #[v, .bool true] else .tuple #[.agg #[], .bool false]) w := by
  by_cases h : t = 129
  · simp [Instr.typeAssert, run_underlying Tryz.underlying129, h]
  · simp [Instr.typeAssert, run_underlying Tryz.underlying129, h]
set_option maxHeartbeats 4000000 in
set_option maxRecDepth 1000000 in
theorem isNil_no (t : TypeId) (y : Value) (h : t ≠ 129) (w : World) : Calls Tryz.prog 85 #[.iface t y] w (fun e w' => e = .returned (.bool false) ∧ w = w') := by
  have t80 := asNil
  go_enter Tryz.func85, Tryz.ntmps85
  go_wp2_with fail
  go_ret
  exact ⟨rfl, rfl⟩
theorem spec_one (f : SpecD) : (specCells f).all (·.oneCell') = true := by simp [specCells, Value.oneCell']
/-- The spec of numbers. -/
def numSpec (f : SpecD) : SpecD := if f.verb = 118 then { f with plus := false } else f
set_option maxHeartbeats 4000000 in
set_option maxRecDepth 1000000 in
theorem tnumber_any (f : SpecD) (k : Value) (hk : ∃ fn fi ca, k = .func fn fi ca) (w : World) : Calls Tryz.prog 109 #[.agg #[.bool f.plus, .bool f.minus, .bool f.sharp, .bool f.space, .bool f.zero, .int .i64 f.wid, .int .i64 f.prec, .int .i32 f.verb, k]] w (Ret w (.agg (specCells (numSpec f)))) := by
  obtain ⟨fn, fi, ca, rfl⟩ := hk
  go_enter Tryz.func109, Tryz.ntmps109
  go_upto_region 1 with fail
  have HW : Hid (((w.alloc (.cells #[.bool f.plus, .bool f.minus, .bool f.sharp, .bool f.space, .bool f.zero, .int .i64 f.wid, .int .i64 f.prec, .int .i32 f.verb, .func fn fi ca] 113)).alloc (.cells #[.bool false, .bool false, .bool false, .bool false, .bool false, .int .i64 0, .int .i64 0, .int .i32 0] 61)).heap[w.heap.size]? = some (.cells #[.bool f.plus, .bool f.minus, .bool f.sharp, .bool f.space, .bool f.zero, .int .i64 f.wid, .int .i64 f.prec, .int .i32 f.verb, .func fn fi ca] 113 (0, 0))) := Lib.hid (heap_alloc_old (w := w.alloc _) _ (by simp) |>.trans (heap_alloc_new w _))
  have HZ1 : Hid (((w.alloc (.cells #[.bool f.plus, .bool f.minus, .bool f.sharp, .bool f.space, .bool f.zero, .int .i64 f.wid, .int .i64 f.prec, .int .i32 f.verb, .func fn fi ca] 113)).alloc (.cells #[.bool false, .bool false, .bool false, .bool false, .bool false, .int .i64 0, .int .i64 0, .int .i32 0] 61)).heap[w.heap.size + 1]? = some (.cells #[.bool false, .bool false, .bool false, .bool false, .bool false, .int .i64 0, .int .i64 0, .int .i32 0] 61 (0, 0))) := by
    have h := heap_alloc_new (w.alloc (.cells #[.bool f.plus, .bool f.minus, .bool f.sharp, .bool f.space, .bool f.zero, .int .i64 f.wid, .int .i64 f.prec, .int .i32 f.verb, .func fn fi ca] 113)) (.cells #[.bool false, .bool false, .bool false, .bool false, .bool false, .int .i64 0, .int .i64 0, .int .i32 0] 61)
    have hz : (w.alloc (.cells #[.bool f.plus, .bool f.minus, .bool f.sharp, .bool f.space, .bool f.zero, .int .i64 f.wid, .int .i64 f.prec, .int .i32 f.verb, .func fn fi ca] 113)).heap.size = w.heap.size + 1 := by simp
    rw [hz] at h
    exact Lib.hid h
  have HB1 : Hid (Below w.heap.size w ((w.alloc (.cells #[.bool f.plus, .bool f.minus, .bool f.sharp, .bool f.space, .bool f.zero, .int .i64 f.wid, .int .i64 f.prec, .int .i32 f.verb, .func fn fi ca] 113)).alloc (.cells #[.bool false, .bool false, .bool false, .bool false, .bool false, .int .i64 0, .int .i64 0, .int .i32 0] 61))) := Lib.hid ((Below.new _).push _)
  have HSZ1 : Hid (w.heap.size + 1 < ((w.alloc (.cells #[.bool f.plus, .bool f.minus, .bool f.sharp, .bool f.space, .bool f.zero, .int .i64 f.wid, .int .i64 f.prec, .int .i32 f.verb, .func fn fi ca] 113)).alloc (.cells #[.bool false, .bool false, .bool false, .bool false, .bool false, .int .i64 0, .int .i64 0, .int .i32 0] 61)).heap.size) := by show _ < _; simp
  generalize ((w.alloc (.cells #[.bool f.plus, .bool f.minus, .bool f.sharp, .bool f.space, .bool f.zero, .int .i64 f.wid, .int .i64 f.prec, .int .i32 f.verb, .func fn fi ca] 113)).alloc (.cells #[.bool false, .bool false, .bool false, .bool false, .bool false, .int .i64 0, .int .i64 0, .int .i32 0] 61)) = W1 at HW HZ1 HB1 HSZ1 ⊢
  have c0 : W1.cell? ⟨w.heap.size, 0, none⟩ = some (.bool f.plus) := cell_of_heap' HW.out 0
  have c1 : W1.cell? ⟨w.heap.size, 1, none⟩ = some (.bool f.minus) := cell_of_heap' HW.out 1
  have c2 : W1.cell? ⟨w.heap.size, 2, none⟩ = some (.bool f.sharp) := cell_of_heap' HW.out 2
  have c3 : W1.cell? ⟨w.heap.size, 3, none⟩ = some (.bool f.space) := cell_of_heap' HW.out 3
  have c4 : W1.cell? ⟨w.heap.size, 4, none⟩ = some (.bool f.zero) := cell_of_heap' HW.out 4
  have c5 : W1.cell? ⟨w.heap.size, 5, none⟩ = some (.int .i64 f.wid) := cell_of_heap' HW.out 5
  have c6 : W1.cell? ⟨w.heap.size, 6, none⟩ = some (.int .i64 f.prec) := cell_of_heap' HW.out 6
  have c7 : W1.cell? ⟨w.heap.size, 7, none⟩ = some (.int .i32 f.verb) := cell_of_heap' HW.out 7
  go_upto_region 2 with fail
  have HSP : Hid ((W1.alloc (.cells #[.bool f.plus, .bool f.minus, .bool f.sharp, .bool f.space, .bool f.zero, .int .i64 f.wid, .int .i64 f.prec, .int .i32 f.verb] 61)).heap[W1.heap.size]? = some (.cells (specCells f) 61 (0, 0))) := Lib.hid (heap_alloc_new W1 _)
  have HZ2 : Hid ((W1.alloc (.cells #[.bool f.plus, .bool f.minus, .bool f.sharp, .bool f.space, .bool f.zero, .int .i64 f.wid, .int .i64 f.prec, .int .i32 f.verb] 61)).heap[w.heap.size + 1]? = some (.cells #[.bool false, .bool false, .bool false, .bool false, .bool false, .int .i64 0, .int .i64 0, .int .i32 0] 61 (0, 0))) := Lib.hid ((heap_alloc_old (w := W1) _ HSZ1.out).trans HZ1.out)
  have HB2 := Lib.hid (HB1.out.push (.cells #[.bool f.plus, .bool f.minus, .bool f.sharp, .bool f.space, .bool f.zero, .int .i64 f.wid, .int .i64 f.prec, .int .i32 f.verb] 61))
  have hb3 := HSZ1.out
  obtain ⟨b3, hb⟩ : ∃ b, W1.heap.size = b := ⟨_, rfl⟩
  rw [hb] at HSP hb3 ⊢
  clear hb c0 c1 c2 c3 c4 c5 c6 c7 HW HZ1 HB1 HSZ1
  generalize W1.alloc (.cells #[.bool f.plus, .bool f.minus, .bool f.sharp, .bool f.space, .bool f.zero, .int .i64 f.wid, .int .i64 f.prec, .int .i32 f.verb] 61) = W2 at HSP HZ2 HB2 ⊢
  have v7 : W2.cell? ⟨b3, 7, none⟩ = some (.int .i32 f.verb) := cell_of_heap' HSP.out 7
  obtain ⟨g, hg⟩ : ∃ g, numSpec f = g := ⟨_, rfl⟩
  have HNS := Lib.hid hg
  by_cases hv : f.verb = 118
  · have hv' : (f.verb == 118) = true := by rw [hv]; rfl
    have v0 : W2.cell? ⟨b3, 0, none⟩ = some (.bool f.plus) := cell_of_heap' HSP.out 0
    have z0 : W2.frozen? ⟨b3, 0, none⟩ = false := frozen_of_heap' HSP.out 0
    have HG : Hid ((W2.setCell ⟨b3, 0, none⟩ (.bool false)).heap[b3]? = some (.cells (specCells g) 61 (0, 0))) := by
      show _ = _
      rw [set_block HSP.out _, ← hg]
      unfold numSpec
      rw [if_pos hv]
      rfl
    have HZ : Hid ((W2.setCell ⟨b3, 0, none⟩ (.bool false)).heap[w.heap.size + 1]? = some (.cells #[.bool false, .bool false, .bool false, .bool false, .bool false, .int .i64 0, .int .i64 0, .int .i32 0] 61 (0, 0))) := Lib.hid ((Below.heap_setCell _ _ _ _ (by show w.heap.size + 1 ≠ b3; omega)).trans HZ2.out)
    have HB := Lib.hid (HB2.out.setCell (p := ⟨b3, 0, none⟩) (show w.heap.size ≤ b3 by omega) (.bool false))
    clear hg hv
    go_upto_region 4 with fail
    generalize (W2.setCell ⟨b3, 0, none⟩ (.bool false)) = W3 at HG HZ HB ⊢
    go_wp2_with (first
      | (refine wpList_store_row (by rfl) 61 _ _ (by rfl) (w.heap.size + 1) (specCells g) (by rfl) (by rfl) 61 #[.bool false, .bool false, .bool false, .bool false, .bool false, .int .i64 0, .int .i64 0, .int .i32 0] ?_ (spec_size g) (by rfl) (spec_one g) ?_; (with_reducible exact HZ.out))
      | (refine wpList_load_row (by rfl) 61 _ (by rfl) b3 (by rfl) 61 (specCells g) (0, 0) _ ?_ Tryz.underlying61 (by rfl) (spec_size g) ?_; (with_reducible exact HG.out)))
    refine bodyPost_ret (v := .agg (specCells g)) ?_ rfl ?_
    · have hl := load_spec (f := g) (setRow_heap W3 (w.heap.size + 1) #[.bool false, .bool false, .bool false, .bool false, .bool false, .int .i64 0, .int .i64 0, .int .i32 0] (specCells g) 61 (0, 0) HZ.out)
      simp only [results, Tryz.f109]
      simp [Act.put, asAddr, hl]
    · rw [HNS.out]
      exact ⟨rfl, HB.out.row (w.heap.size + 1) _ (by omega)⟩
  · have hv' : (f.verb == 118) = false := by simpa using hv
    obtain rfl : f = g := by rw [← hg]; unfold numSpec; rw [if_neg hv]
    have HG := HSP
    have HZ := HZ2
    have HB := HB2
    clear hg hv
    go_upto_region 4 with fail
    go_wp2_with (first
      | (refine wpList_store_row (by rfl) 61 _ _ (by rfl) (w.heap.size + 1) (specCells f) (by rfl) (by rfl) 61 #[.bool false, .bool false, .bool false, .bool false, .bool false, .int .i64 0, .int .i64 0, .int .i32 0] ?_ (spec_size f) (by rfl) (spec_one f) ?_; (with_reducible exact HZ.out))
      | (refine wpList_load_row (by rfl) 61 _ (by rfl) b3 (by rfl) 61 (specCells f) (0, 0) _ ?_ Tryz.underlying61 (by rfl) (spec_size f) ?_; (with_reducible exact HG.out)))
    refine bodyPost_ret (v := .agg (specCells f)) ?_ rfl ?_
    · have hl := load_spec (f := f) (setRow_heap W2 (w.heap.size + 1) #[.bool false, .bool false, .bool false, .bool false, .bool false, .int .i64 0, .int .i64 0, .int .i32 0] (specCells f) 61 (0, 0) HZ.out)
      simp only [results, Tryz.f109]
      simp [Act.put, asAddr, hl]
    · rw [HNS.out]
      exact ⟨rfl, HB.out.row (w.heap.size + 1) _ (by omega)⟩
end Go.Proofs.YtnalppgjbllehaaGreatDoor
