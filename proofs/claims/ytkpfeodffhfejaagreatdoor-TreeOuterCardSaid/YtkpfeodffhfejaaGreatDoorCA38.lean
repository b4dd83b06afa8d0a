/- Is a value nil? The spec of numbers: tree's isNil and number. Condition: the argument is a value. -/
import Derived.Test.YtkpfeodffhfejaaGreatDoorCA37
import Derived.Test.YtkpfeodffhfejaaGreatDoorCA04
import Derived.Test.YtkpfeodffhfejaaGreatDoorCA36
import Derived.Deep.AppendLies
import Derived.Deep.RegionLaw
import Derived.Laws.AppendOwn
import Derived.Lib.Join
namespace Go.Proofs.YtkpfeodffhfejaaGreatDoor
set_option linter.unusedVariables false
set_option linter.unusedSimpArgs false
open Go.RowKit

theorem asNil (t : TypeId) (v : Value) (w : World) : (Instr.typeAssert (.iface t v) 28 112 true).run Tryz.prog w = .ok (if t = 112 then .tuple #[v, .bool true] else .tuple #[.agg #[], .bool false]) w := by
  by_cases h : t = 112
  · simp [Instr.typeAssert, run_underlying Tryz.underlying112, h]
  · simp [Instr.typeAssert, run_underlying Tryz.underlying112, h]
set_option maxHeartbeats 4000000 in
set_option maxRecDepth 1000000 in
theorem isNil_no (t : TypeId) (y : Value) (h : t ≠ 112) (w : World) : Calls Tryz.prog 46 #[.iface t y] w (fun e w' => e = .returned (.bool false) ∧ w = w') := by
  have t80 := asNil
  go_enter Tryz.func46, Tryz.ntmps46
  go_wp2_with fail
  go_ret
  exact ⟨rfl, rfl⟩
set_option maxHeartbeats 4000000 in
set_option maxRecDepth 1000000 in
theorem isNil_nil (w : World) : Calls Tryz.prog 46 #[.nilIface] w (fun e w' => e = .returned (.bool true) ∧ w = w') := by
  have hnn : ∀ W : World, (binOp .eql 28 .nilIface .nilIface).run Tryz.prog W = .ok (.bool true) W := fun W => by kernel_rfl
  have hta : ∀ W : World, (Instr.typeAssert .nilIface 28 112 true).run Tryz.prog W = .ok (.tuple #[.agg #[], .bool false]) W := fun W => by kernel_rfl
  go_enter Tryz.func46, Tryz.ntmps46
  go_wp2_with fail
  go_ret
  exact ⟨rfl, rfl⟩
set_option maxHeartbeats 4000000 in
set_option maxRecDepth 1000000 in
theorem isNil_zero (w : World) : Calls Tryz.prog 46 #[.iface 112 (.agg #[])] w (fun e w' => e = .returned (.bool true) ∧ w = w') := by
  have t80 := asNil
  go_enter Tryz.func46, Tryz.ntmps46
  go_wp2_with fail
  go_ret
  exact ⟨rfl, rfl⟩
/-- The spec of numbers. -/
def numSpec (f : SpecD) : SpecD := if f.verb = 118 then { f with plus := false } else f
set_option maxHeartbeats 4000000 in
set_option maxRecDepth 1000000 in
theorem tnumber_any (f : SpecD) (k : Value) (w : World) : Calls Tryz.prog 75 #[.agg #[.bool f.plus, .bool f.minus, .bool f.sharp, .bool f.space, .bool f.zero, .int .i64 f.wid, .int .i64 f.prec, .int .i32 f.verb, k]] w (Ret w (.agg (specCells (numSpec f)))) := by
  go_enter Tryz.func75, Tryz.ntmps75
  go_upto_region 1 with fail
  have HW : Hid (((w.alloc (.cells #[.bool f.plus, .bool f.minus, .bool f.sharp, .bool f.space, .bool f.zero, .int .i64 f.wid, .int .i64 f.prec, .int .i32 f.verb, k] 57)).alloc (.cells #[.bool false, .bool false, .bool false, .bool false, .bool false, .int .i64 0, .int .i64 0, .int .i32 0] 33)).heap[w.heap.size]? = some (.cells #[.bool f.plus, .bool f.minus, .bool f.sharp, .bool f.space, .bool f.zero, .int .i64 f.wid, .int .i64 f.prec, .int .i32 f.verb, k] 57 (0, 0))) := Lib.hid (heap_alloc_old (w := w.alloc _) _ (by simp) |>.trans (heap_alloc_new w _))
  have HZ1 : Hid (((w.alloc (.cells #[.bool f.plus, .bool f.minus, .bool f.sharp, .bool f.space, .bool f.zero, .int .i64 f.wid, .int .i64 f.prec, .int .i32 f.verb, k] 57)).alloc (.cells #[.bool false, .bool false, .bool false, .bool false, .bool false, .int .i64 0, .int .i64 0, .int .i32 0] 33)).heap[w.heap.size + 1]? = some (.cells #[.bool false, .bool false, .bool false, .bool false, .bool false, .int .i64 0, .int .i64 0, .int .i32 0] 33 (0, 0))) := by
    have h := heap_alloc_new (w.alloc (.cells #[.bool f.plus, .bool f.minus, .bool f.sharp, .bool f.space, .bool f.zero, .int .i64 f.wid, .int .i64 f.prec, .int .i32 f.verb, k] 57)) (.cells #[.bool false, .bool false, .bool false, .bool false, .bool false, .int .i64 0, .int .i64 0, .int .i32 0] 33)
    have hz : (w.alloc (.cells #[.bool f.plus, .bool f.minus, .bool f.sharp, .bool f.space, .bool f.zero, .int .i64 f.wid, .int .i64 f.prec, .int .i32 f.verb, k] 57)).heap.size = w.heap.size + 1 := by simp
    rw [hz] at h
    exact Lib.hid h
  have HB1 : Hid (Below w.heap.size w ((w.alloc (.cells #[.bool f.plus, .bool f.minus, .bool f.sharp, .bool f.space, .bool f.zero, .int .i64 f.wid, .int .i64 f.prec, .int .i32 f.verb, k] 57)).alloc (.cells #[.bool false, .bool false, .bool false, .bool false, .bool false, .int .i64 0, .int .i64 0, .int .i32 0] 33))) := Lib.hid ((Below.new _).push _)
  have HSZ1 : Hid (w.heap.size + 1 < ((w.alloc (.cells #[.bool f.plus, .bool f.minus, .bool f.sharp, .bool f.space, .bool f.zero, .int .i64 f.wid, .int .i64 f.prec, .int .i32 f.verb, k] 57)).alloc (.cells #[.bool false, .bool false, .bool false, .bool false, .bool false, .int .i64 0, .int .i64 0, .int .i32 0] 33)).heap.size) := by show _ < _; simp
  generalize ((w.alloc (.cells #[.bool f.plus, .bool f.minus, .bool f.sharp, .bool f.space, .bool f.zero, .int .i64 f.wid, .int .i64 f.prec, .int .i32 f.verb, k] 57)).alloc (.cells #[.bool false, .bool false, .bool false, .bool false, .bool false, .int .i64 0, .int .i64 0, .int .i32 0] 33)) = W1 at HW HZ1 HB1 HSZ1 ⊢
  have c0 : W1.cell? ⟨w.heap.size, 0, none⟩ = some (.bool f.plus) := cell_of_heap' HW.out 0
  have c1 : W1.cell? ⟨w.heap.size, 1, none⟩ = some (.bool f.minus) := cell_of_heap' HW.out 1
  have c2 : W1.cell? ⟨w.heap.size, 2, none⟩ = some (.bool f.sharp) := cell_of_heap' HW.out 2
  have c3 : W1.cell? ⟨w.heap.size, 3, none⟩ = some (.bool f.space) := cell_of_heap' HW.out 3
  have c4 : W1.cell? ⟨w.heap.size, 4, none⟩ = some (.bool f.zero) := cell_of_heap' HW.out 4
  have c5 : W1.cell? ⟨w.heap.size, 5, none⟩ = some (.int .i64 f.wid) := cell_of_heap' HW.out 5
  have c6 : W1.cell? ⟨w.heap.size, 6, none⟩ = some (.int .i64 f.prec) := cell_of_heap' HW.out 6
  have c7 : W1.cell? ⟨w.heap.size, 7, none⟩ = some (.int .i32 f.verb) := cell_of_heap' HW.out 7
  go_upto_region 2 with fail
  have HSP : Hid ((W1.alloc (.cells #[.bool f.plus, .bool f.minus, .bool f.sharp, .bool f.space, .bool f.zero, .int .i64 f.wid, .int .i64 f.prec, .int .i32 f.verb] 33)).heap[W1.heap.size]? = some (.cells (specCells f) 33 (0, 0))) := Lib.hid (heap_alloc_new W1 _)
  have HZ2 : Hid ((W1.alloc (.cells #[.bool f.plus, .bool f.minus, .bool f.sharp, .bool f.space, .bool f.zero, .int .i64 f.wid, .int .i64 f.prec, .int .i32 f.verb] 33)).heap[w.heap.size + 1]? = some (.cells #[.bool false, .bool false, .bool false, .bool false, .bool false, .int .i64 0, .int .i64 0, .int .i32 0] 33 (0, 0))) := Lib.hid ((heap_alloc_old (w := W1) _ HSZ1.out).trans HZ1.out)
  have HB2 := Lib.hid (HB1.out.push (.cells #[.bool f.plus, .bool f.minus, .bool f.sharp, .bool f.space, .bool f.zero, .int .i64 f.wid, .int .i64 f.prec, .int .i32 f.verb] 33))
  have hb3 := HSZ1.out
  obtain ⟨b3, hb⟩ : ∃ b, W1.heap.size = b := ⟨_, rfl⟩
  rw [hb] at HSP hb3 ⊢
  clear hb c0 c1 c2 c3 c4 c5 c6 c7 HW HZ1 HB1 HSZ1
  generalize W1.alloc (.cells #[.bool f.plus, .bool f.minus, .bool f.sharp, .bool f.space, .bool f.zero, .int .i64 f.wid, .int .i64 f.prec, .int .i32 f.verb] 33) = W2 at HSP HZ2 HB2 ⊢
  have v7 : W2.cell? ⟨b3, 7, none⟩ = some (.int .i32 f.verb) := cell_of_heap' HSP.out 7
  obtain ⟨g, hg⟩ : ∃ g, numSpec f = g := ⟨_, rfl⟩
  have HNS := Lib.hid hg
  by_cases hv : f.verb = 118
  · have hv' : (f.verb == 118) = true := by rw [hv]; rfl
    have v0 : W2.cell? ⟨b3, 0, none⟩ = some (.bool f.plus) := cell_of_heap' HSP.out 0
    have z0 : W2.frozen? ⟨b3, 0, none⟩ = false := frozen_of_heap' HSP.out 0
    have HG : Hid ((W2.setCell ⟨b3, 0, none⟩ (.bool false)).heap[b3]? = some (.cells (specCells g) 33 (0, 0))) := by
      show _ = _
      rw [set_block HSP.out _, ← hg]
      unfold numSpec
      rw [if_pos hv]
      rfl
    have HZ : Hid ((W2.setCell ⟨b3, 0, none⟩ (.bool false)).heap[w.heap.size + 1]? = some (.cells #[.bool false, .bool false, .bool false, .bool false, .bool false, .int .i64 0, .int .i64 0, .int .i32 0] 33 (0, 0))) := Lib.hid ((Below.heap_setCell _ _ _ _ (by show w.heap.size + 1 ≠ b3; omega)).trans HZ2.out)
    have HB := Lib.hid (HB2.out.setCell (p := ⟨b3, 0, none⟩) (show w.heap.size ≤ b3 by omega) (.bool false))
    clear hg hv
    go_upto_region 4 with fail
    generalize (W2.setCell ⟨b3, 0, none⟩ (.bool false)) = W3 at HG HZ HB ⊢
    go_wp2_with (first
      | (refine wpList_store_row (by rfl) 33 _ _ (by rfl) (w.heap.size + 1) (specCells g) (by rfl) (by rfl) 33 #[.bool false, .bool false, .bool false, .bool false, .bool false, .int .i64 0, .int .i64 0, .int .i32 0] ?_ (spec_size g) (by rfl) (spec_one g) ?_; (with_reducible exact HZ.out))
      | (refine wpList_load_row (by rfl) 33 _ (by rfl) b3 (by rfl) 33 (specCells g) (0, 0) _ ?_ Tryz.underlying33 (by rfl) (spec_size g) ?_; (with_reducible exact HG.out)))
    refine bodyPost_ret (v := .agg (specCells g)) ?_ rfl ?_
    · have hl := load_spec (f := g) (setRow_heap W3 (w.heap.size + 1) #[.bool false, .bool false, .bool false, .bool false, .bool false, .int .i64 0, .int .i64 0, .int .i32 0] (specCells g) 33 (0, 0) HZ.out)
      simp only [results, Tryz.f75]
      simp [Act.put, asAddr, hl]
    · rw [HNS.out]
      exact ⟨rfl, HB.out.row (w.heap.size + 1) _ (by omega)⟩
  · have hv' : (f.verb == 118) = false := by simpa using hv
    obtain rfl : f = g := by rw [← hg]; unfold numSpec; rw [if_neg hv]
    have HG := HSP
    have HZ := HZ2
    have HB := HB2
    clear hg hv
    go_upto_region 4 with fail
    go_wp2_with (first
      | (refine wpList_store_row (by rfl) 33 _ _ (by rfl) (w.heap.size + 1) (specCells f) (by rfl) (by rfl) 33 #[.bool false, .bool false, .bool false, .bool false, .bool false, .int .i64 0, .int .i64 0, .int .i32 0] ?_ (spec_size f) (by rfl) (spec_one f) ?_; (with_reducible exact HZ.out))
      | (refine wpList_load_row (by rfl) 33 _ (by rfl) b3 (by rfl) 33 (specCells f) (0, 0) _ ?_ Tryz.underlying33 (by rfl) (spec_size f) ?_; (with_reducible exact HG.out)))
    refine bodyPost_ret (v := .agg (specCells f)) ?_ rfl ?_
    · have hl := load_spec (f := f) (setRow_heap W2 (w.heap.size + 1) #[.bool false, .bool false, .bool false, .bool false, .bool false, .int .i64 0, .int .i64 0, .int .i32 0] (specCells f) 33 (0, 0) HZ.out)
      simp only [results, Tryz.f75]
      simp [Act.put, asAddr, hl]
    · rw [HNS.out]
      exact ⟨rfl, HB.out.row (w.heap.size + 1) _ (by omega)⟩
end Go.Proofs.YtkpfeodffhfejaaGreatDoor

/- A bad mark: bad's inside. Condition: the parts' sizes. -/
namespace Go.Proofs.YtkpfeodffhfejaaGreatDoor
set_option linter.unusedVariables false
set_option linter.unusedSimpArgs false
open Go.RowKit

def joinB (xs : List ByteArray) (sep : ByteArray) : ByteArray := ⟨(Lib.join (xs.map (·.data.toList)) sep.data.toList).toArray⟩
def insideB (vb : ByteArray) (xs : List ByteArray) : ByteArray := ⟨#[37, 33]⟩ ++ vb ++ ⟨#[40]⟩ ++ joinB xs ⟨#[]⟩ ++ ⟨#[41]⟩
theorem insideB_size (vb : ByteArray) (xs : List ByteArray) : (insideB vb xs).size = vb.size + (joinB xs ⟨#[]⟩).size + 4 := by
  unfold insideB
  have e1 : (⟨#[37, 33]⟩ : ByteArray).size = 2 := rfl
  have e2 : (⟨#[40]⟩ : ByteArray).size = 1 := rfl
  have e3 : (⟨#[41]⟩ : ByteArray).size = 1 := rfl
  simp only [ByteArray.size_append, e1, e2, e3]
  omega
set_option maxHeartbeats 4000000 in
set_option maxRecDepth 1000000 in
theorem inside_any (vb : ByteArray) (bk c : Nat) (xs : List ByteArray) (w : World) (hcells : ∀ (j : Nat) x, xs[j]? = some x → w.cell? ⟨bk, 0 + j, none⟩ = some (.string x)) (hbk : bk < w.heap.size) (hN : xs.length ≤ 1000000) (hcap : xs.length ≤ c)
    (h1 : vb.size ≤ 1000000) (h2 : (joinB xs ⟨#[]⟩).size ≤ 140737488355328) :
    Calls Tryz.prog 72 #[.string vb, .slice (some ⟨bk, 0, none⟩) xs.length c] w (Ret w (.string (insideB vb xs))) := by
  have HC := Lib.hid hcells
  have H2 := Lib.hid h2
  obtain ⟨J, hJ⟩ : ∃ J, joinB xs ⟨#[]⟩ = J := ⟨_, rfl⟩
  have hr : insideB vb xs = ⟨#[37, 33]⟩ ++ vb ++ ⟨#[40]⟩ ++ J ++ ⟨#[41]⟩ := by unfold insideB; rw [hJ]
  rw [hr]
  have HJ : Hid (Calls Tryz.prog 99 #[.slice (some ⟨bk, 0, none⟩) xs.length c, .string ⟨#[]⟩] w (Ret w (.string J))) := by
    rw [← hJ]
    exact Tryz.strings_Join bk 0 c xs ⟨#[]⟩ w hcells hbk (by omega) hcap h2
  rw [hJ] at h2
  clear hr hJ hcells H2
  have e1 : (⟨#[37, 33]⟩ : ByteArray).size = 2 := rfl
  have e2 : (⟨#[40]⟩ : ByteArray).size = 1 := rfl
  have e3 : (⟨#[41]⟩ : ByteArray).size = 1 := rfl
  have s1 : (⟨#[37, 33]⟩ : ByteArray).size + vb.size ≤ 9223372036854775807 := by omega
  have s2 : (⟨#[37, 33]⟩ ++ vb : ByteArray).size + (⟨#[40]⟩ : ByteArray).size ≤ 9223372036854775807 := by rw [ByteArray.size_append]; omega
  have s3 : (⟨#[37, 33]⟩ ++ vb ++ ⟨#[40]⟩ : ByteArray).size + J.size ≤ 9223372036854775807 := by rw [ByteArray.size_append, ByteArray.size_append]; omega
  have s4 : (⟨#[37, 33]⟩ ++ vb ++ ⟨#[40]⟩ ++ J : ByteArray).size + (⟨#[41]⟩ : ByteArray).size ≤ 9223372036854775807 := by rw [ByteArray.size_append, ByteArray.size_append, ByteArray.size_append]; omega
  clear e1 e2 e3
  go_enter Tryz.func72, Tryz.ntmps72
  go_wp2_with fail
  refine HJ.out.mono ?_
  rintro e w1 ⟨rfl, hB⟩
  have HB := Lib.hid hB
  clear hB
  go_wp2_with fail
  go_ret
  exact ⟨rfl, HB.out⟩
/-BAD-/
theorem one_cells (w : World) (x : ByteArray) (T : TypeId) : ∀ (j : Nat) y, [x][j]? = some y → (w.alloc (.cells #[.string x] T)).cell? ⟨w.heap.size, 0 + j, none⟩ = some (.string y) := by
  intro j y h
  rw [cell_of_heap' (heap_alloc_new w _)]
  match j, h with
  | 0, h => simp at h ⊢; exact h
  | j + 1, h => simp at h
theorem two_cells (w : World) (x z : ByteArray) (T : TypeId) : ∀ (j : Nat) y, [x, z][j]? = some y → (w.alloc (.cells #[.string x, .string z] T)).cell? ⟨w.heap.size, 0 + j, none⟩ = some (.string y) := by
  intro j y h
  rw [cell_of_heap' (heap_alloc_new w _)]
  match j, h with
  | 0, h => simp at h ⊢; exact h
  | 1, h => simp at h ⊢; exact h
  | j + 2, h => simp at h
theorem vinfo9 : (Tryz.prog.info? 9).map (fun i => (i.zero, i.size, i.bytes)) = some (some (.string ⟨#[]⟩), 1, 16) := by kernel_rfl
end Go.Proofs.YtkpfeodffhfejaaGreatDoor

/- A number's digits: ints' digits, limit, sharp. No condition but the base's bounds. -/
namespace Go.Proofs.YtkpfeodffhfejaaGreatDoor
set_option linter.unusedVariables false
set_option linter.unusedSimpArgs false
open Go.RowKit

def sgn (sg : ByteArray) (i : Nat) : UInt8 := if h : i < sg.size then sg[i] else 0
def digF (b : Nat) (sg : ByteArray) : Nat → Nat → List UInt8 → List UInt8
  | 0, _, acc => acc
  | f + 1, n, acc => if n / b = 0 then sgn sg (n % b) :: acc else digF b sg f (n / b) (sgn sg (n % b) :: acc)
def digB (n b : Nat) (sg : ByteArray) : ByteArray := ⟨(digF b sg 64 n []).toArray⟩
/-- An array's block, its end filled. -/
def Filled (w : World) (B : Nat) (f : Nat) (acc : List UInt8) : Prop := ∃ cs : Array Value, w.heap[B]? = some (.cells cs 233 (0, 0)) ∧ cs.size = 64 ∧ f + acc.length = 64 ∧ ∀ j (h : j < acc.length), cs[f + j]? = some (.int .u8 (acc[j].toNat : Int))
theorem Filled.step {w : World} {B f : Nat} {acc : List UInt8} (h : Filled w B (f + 1) acc) (c : UInt8) : (w.setCell ⟨B, f, none⟩ (.int .u8 (c.toNat : Int))).heap[B]? ≠ none ∧ Filled (w.setCell ⟨B, f, none⟩ (.int .u8 (c.toNat : Int))) B f (c :: acc) := by
  obtain ⟨cs, h1, h2, h3, h4⟩ := h
  have e : (w.setCell ⟨B, f, none⟩ (.int .u8 (c.toNat : Int))).heap[B]? = some (.cells (cs.setIfInBounds f (.int .u8 (c.toNat : Int))) 233 (0, 0)) := by
    simp [World.setCell, Array.getElem?_modify, h1]
  refine ⟨by rw [e]; simp, _, e, by simp [h2], by simp; omega, fun j hj => ?_⟩
  rw [Array.getElem?_setIfInBounds]
  cases j with
  | zero => simp [h2]; omega
  | succ j =>
    have := h4 j (by simpa using hj)
    rw [if_neg (by omega), show f + (j + 1) = f + 1 + j by omega, this]
    rfl
theorem Filled.cell {w : World} {B f : Nat} {acc : List UInt8} (h : Filled w B (f + 1) acc) : (∃ u, w.cell? ⟨B, f, none⟩ = some u) ∧ w.frozen? ⟨B, f, none⟩ = false := by
  obtain ⟨cs, h1, h2, h3, h4⟩ := h
  refine ⟨?_, by simp [World.frozen?, h1]⟩
  rw [cell_of_heap' h1, Array.getElem?_eq_getElem (by omega)]
  exact ⟨_, rfl⟩
set_option maxRecDepth 1000000 in
theorem array_slice (W : World) (B f : Nat) (hf : f ≤ 63) : (Instr.sliceAt 233 (.pointer (some ⟨B, 0, none⟩)) (some (.int .i64 (f : Int))) none none).run Tryz.prog W = .ok (.slice (some ⟨B, f, none⟩) (64 - f) (64 - f)) W := by
  have e1 : Tryz.prog.arrayLen 233 = 64 := by kernel_rfl
  have e2 : Tryz.prog.elem 233 = 5 := by kernel_rfl
  rw [run_sliceAt_array_l (P := Tryz.prog) W 233 ⟨B, 0, none⟩ (by kernel_rfl) .i64 (f : Int) (by omega) (by rw [e1]; omega), e1, e2]
  have := Tryz.sizeOf5 W
  rw [this]
  simp only [Result.andThen, slicedAt, Int.toNat_natCast]
  rw [if_neg (by omega)]
  congr 2
  unfold Addr.add
  split <;> simp_all
set_option maxHeartbeats 4000000 in
set_option maxRecDepth 1000000 in
theorem digits_any (n b : Nat) (sg : ByteArray) (w : World) (hn : n < 18446744073709551616) (hb : 2 ≤ b) (hb2 : b ≤ sg.size) (hb3 : b ≤ 16) :
    Calls Tryz.prog 147 #[.int .u64 (n : Int), .int .u64 (b : Int), .string sg] w (Ret w (.string (digB n b sg))) := by
  obtain ⟨r, hr⟩ : ∃ r, digB n b sg = r := ⟨_, rfl⟩
  rw [hr]
  have HR : Hid ((⟨(digF b sg 64 n []).toArray⟩ : ByteArray) = r) := hr
  clear hr
  go_enter Tryz.func147, Tryz.ntmps147
  go_upto_region 2 with fail
  have HB1 := Lib.hid (Below.new (w := w) (.cells #[.int .u8 0, .int .u8 0, .int .u8 0, .int .u8 0, .int .u8 0, .int .u8 0, .int .u8 0, .int .u8 0, .int .u8 0, .int .u8 0, .int .u8 0, .int .u8 0, .int .u8 0, .int .u8 0, .int .u8 0, .int .u8 0, .int .u8 0, .int .u8 0, .int .u8 0, .int .u8 0, .int .u8 0, .int .u8 0, .int .u8 0, .int .u8 0, .int .u8 0, .int .u8 0, .int .u8 0, .int .u8 0, .int .u8 0, .int .u8 0, .int .u8 0, .int .u8 0, .int .u8 0, .int .u8 0, .int .u8 0, .int .u8 0, .int .u8 0, .int .u8 0, .int .u8 0, .int .u8 0, .int .u8 0, .int .u8 0, .int .u8 0, .int .u8 0, .int .u8 0, .int .u8 0, .int .u8 0, .int .u8 0, .int .u8 0, .int .u8 0, .int .u8 0, .int .u8 0, .int .u8 0, .int .u8 0, .int .u8 0, .int .u8 0, .int .u8 0, .int .u8 0, .int .u8 0, .int .u8 0, .int .u8 0, .int .u8 0, .int .u8 0, .int .u8 0] 233))
  have HF1 : Hid (Filled (w.alloc (.cells #[.int .u8 0, .int .u8 0, .int .u8 0, .int .u8 0, .int .u8 0, .int .u8 0, .int .u8 0, .int .u8 0, .int .u8 0, .int .u8 0, .int .u8 0, .int .u8 0, .int .u8 0, .int .u8 0, .int .u8 0, .int .u8 0, .int .u8 0, .int .u8 0, .int .u8 0, .int .u8 0, .int .u8 0, .int .u8 0, .int .u8 0, .int .u8 0, .int .u8 0, .int .u8 0, .int .u8 0, .int .u8 0, .int .u8 0, .int .u8 0, .int .u8 0, .int .u8 0, .int .u8 0, .int .u8 0, .int .u8 0, .int .u8 0, .int .u8 0, .int .u8 0, .int .u8 0, .int .u8 0, .int .u8 0, .int .u8 0, .int .u8 0, .int .u8 0, .int .u8 0, .int .u8 0, .int .u8 0, .int .u8 0, .int .u8 0, .int .u8 0, .int .u8 0, .int .u8 0, .int .u8 0, .int .u8 0, .int .u8 0, .int .u8 0, .int .u8 0, .int .u8 0, .int .u8 0, .int .u8 0, .int .u8 0, .int .u8 0, .int .u8 0, .int .u8 0] 233)) w.heap.size 64 []) := ⟨_, heap_alloc_new w _, rfl, rfl, fun j h => by simp at h⟩
  generalize w.alloc (.cells #[.int .u8 0, .int .u8 0, .int .u8 0, .int .u8 0, .int .u8 0, .int .u8 0, .int .u8 0, .int .u8 0, .int .u8 0, .int .u8 0, .int .u8 0, .int .u8 0, .int .u8 0, .int .u8 0, .int .u8 0, .int .u8 0, .int .u8 0, .int .u8 0, .int .u8 0, .int .u8 0, .int .u8 0, .int .u8 0, .int .u8 0, .int .u8 0, .int .u8 0, .int .u8 0, .int .u8 0, .int .u8 0, .int .u8 0, .int .u8 0, .int .u8 0, .int .u8 0, .int .u8 0, .int .u8 0, .int .u8 0, .int .u8 0, .int .u8 0, .int .u8 0, .int .u8 0, .int .u8 0, .int .u8 0, .int .u8 0, .int .u8 0, .int .u8 0, .int .u8 0, .int .u8 0, .int .u8 0, .int .u8 0, .int .u8 0, .int .u8 0, .int .u8 0, .int .u8 0, .int .u8 0, .int .u8 0, .int .u8 0, .int .u8 0, .int .u8 0, .int .u8 0, .int .u8 0, .int .u8 0, .int .u8 0, .int .u8 0, .int .u8 0, .int .u8 0] 233) = W1 at HB1 HF1 ⊢
  go_wp2_with fail
  go_loopw [0, 8] (fun nn kk wr => ∃ (m f : Nat) (acc : List UInt8), nn = .int .u64 (m : Int) ∧ kk = .int .i64 ((f : Int) + 1) ∧ f ≤ 63 ∧ m < 18446744073709551616 ∧ Hid (m < b ^ (f + 1)) ∧ Hid ((⟨(digF b sg (f + 1) m acc).toArray⟩ : ByteArray) = r) ∧ Hid (Filled wr w.heap.size (f + 1) acc) ∧ Hid (Below w.heap.size w wr)) (fun _ kk _ => (intOf kk).toNat)
  case atStart =>
    refine ⟨n, 63, [], rfl, rfl, Nat.le_refl _, hn, Lib.hid ?_, HR.out, HF1.out, HB1.out⟩
    have h1 : 2 ^ 64 ≤ b ^ 64 := Nat.pow_le_pow_left hb 64
    have h2 : (2 : Nat) ^ 64 = 18446744073709551616 := by decide
    show n < b ^ 64
    omega
  case round =>
    obtain ⟨m, f, acc, rfl, rfl, hf, hm, HP, HD, HF, HB⟩ := hrel
    obtain ⟨⟨x, hx⟩, hz⟩ := HF.out.cell
    have hmod : m % b < b := Nat.mod_lt _ (by omega)
    have hix : ∀ W, (Instr.index 9 (.string sg) (.int .u64 ((m : Int) % (b : Int)))).run Tryz.prog W = .ok (.int .u8 ((sgn sg (m % b)).toNat : Int)) W := by
      intro W
      rw [run_index_string (P := Tryz.prog) W 9 sg .u64 _ Tryz.underlying9]
      have e : (m : Int) % (b : Int) = ((m % b : Nat) : Int) := rfl
      rw [dif_pos ⟨by rw [e]; omega, by rw [e]; omega⟩]
      unfold sgn
      rw [dif_pos (by omega)]
      rfl
    have HN := Lib.hid (HF.out.step (sgn sg (m % b))).2
    have HBN : Hid (Below w.heap.size w (wr.setCell ⟨w.heap.size, f, none⟩ (.int .u8 ((sgn sg (m % b)).toNat : Int)))) := HB.out.setCell (p := ⟨w.heap.size, f, none⟩) (Nat.le_refl _) _
    have hdm : m / b < 18446744073709551616 := by have h := Nat.div_le_self m b; omega
    have d1 : (0 : Int) ≤ (m : Int) / (b : Int) := Int.natCast_nonneg (m / b)
    have d2 : (m : Int) / (b : Int) ≤ 18446744073709551615 := Int.ofNat_le.2 (Nat.le_of_lt_succ hdm)
    have HDV : Hid ((m : Int) / (b : Int) = ((m / b : Nat) : Int)) := rfl
    by_cases h0 : m / b = 0
    · have e0 : ((m : Int) / (b : Int) == 0) = true := by
        have : (m : Int) / (b : Int) = ((m / b : Nat) : Int) := rfl
        rw [this, h0]; rfl
      have hsl : (Instr.sliceAt 233 (.pointer (some ⟨w.heap.size, 0, none⟩)) (some (.int .i64 (f : Int))) none none).run Tryz.prog (wr.setCell ⟨w.heap.size, f, none⟩ (.int .u8 ((sgn sg (m % b)).toNat : Int))) = .ok (.slice (some ⟨w.heap.size, f, none⟩) (64 - f) (64 - f)) (wr.setCell ⟨w.heap.size, f, none⟩ (.int .u8 ((sgn sg (m % b)).toNat : Int))) := array_slice _ _ _ hf
      have hcv : (convert 46 9 (.slice (some ⟨w.heap.size, f, none⟩) (64 - f) (64 - f))).run Tryz.prog (wr.setCell ⟨w.heap.size, f, none⟩ (.int .u8 ((sgn sg (m % b)).toNat : Int))) = .ok (.string r) (wr.setCell ⟨w.heap.size, f, none⟩ (.int .u8 ((sgn sg (m % b)).toNat : Int))) := by
        obtain ⟨cs, c1, c2, c3, c4⟩ := HN.out
        have hl : (sgn sg (m % b) :: acc).length = 64 - f := by omega
        have := run_convert_bytes_back (P := Tryz.prog) (wr.setCell ⟨w.heap.size, f, none⟩ (.int .u8 ((sgn sg (m % b)).toNat : Int))) 46 9 5 ⟨w.heap.size, f, none⟩ (64 - f) (sgn sg (m % b) :: acc) Tryz.underlying46 Tryz.underlying5 Tryz.underlying9 (fun j hj => by
          have e : (⟨w.heap.size, f, none⟩ : Addr).add j = ⟨w.heap.size, f + j, none⟩ := by unfold Addr.add; split <;> simp_all
          rw [e, cell_of_heap' c1]
          exact c4 j hj)
        rw [hl] at this
        rw [this, ← HD.out]
        simp only [digF, h0, if_true]
      clear h0
      go_wp2_with fail
      go_ret
      exact ⟨rfl, HBN.out⟩
    · have e0 : ((m : Int) / (b : Int) == 0) = false := by
        have : (m : Int) / (b : Int) = ((m / b : Nat) : Int) := rfl
        rw [this]; simp; omega
      have H0 := Lib.hid h0
      clear h0
      go_wp2_with fail
      go_roundw
      case rel =>
        have h0 := H0.out
        have hp := HP.out
        cases f with
        | zero =>
          exfalso
          apply h0
          rw [Nat.zero_add, Nat.pow_one] at hp
          exact Nat.div_eq_of_lt hp
        | succ f =>
          refine ⟨m / b, f, _, by rw [HDV.out], rfl, by omega, hdm, Lib.hid ?_, Lib.hid ?_, HN.out, HBN.out⟩
          · rw [Nat.div_lt_iff_lt_mul (by omega), ← Nat.pow_succ]
            exact hp
          · have := HD.out
            rw [← this]
            conv => rhs; unfold digF
            rw [if_neg h0]
      case measure => simp [intOf]
end Go.Proofs.YtkpfeodffhfejaaGreatDoor
