/- The law's ask that answers and counts: the closure, value, Show. Condition: the value is no Nil, the verb not T. -/
import Derived.Test.YtkpfeodffhfejaaGreatDoorCA49
import Derived.Test.YtkpfeodffhfejaaGreatDoorCA50
import Derived.Test.YtkpfeodffhfejaaGreatDoorCA37
namespace Go.Proofs.YtkpfeodffhfejaaGreatDoor
set_option linter.unusedVariables false
set_option linter.unusedSimpArgs false
set_option maxRecDepth 1000000
open Go.RowKit

/-- The counter and the text in their cells. -/
structure AskW (b c : Nat) (n : Int) (s : ByteArray) (w : World) : Prop where
  n : w.heap[b]? = some (.cells #[.int .i64 n] 3 (0, 0))
  s : w.heap[c]? = some (.cells #[.string s] 9 (0, 0))
theorem AskW.later {b c : Nat} {n : Int} {s : ByteArray} {w w' : World} (h : AskW b c n s w) (hb : Below w.heap.size w w') : AskW b c n s w' :=
  ⟨(hb.block b (Array.getElem?_eq_some_iff.1 h.n).1).trans h.n, (hb.block c (Array.getElem?_eq_some_iff.1 h.s).1).trans h.s⟩
def AskP (B b c : Nat) (s : ByteArray) (r : Value) (w : World) (e : Ending) (w' : World) : Prop := e = .returned r ∧ AskW b c 1 s w' ∧ Below B w w'
theorem asked (f : SpecD) (v : Value) {B b c : Nat} {s : ByteArray} {w : World} (h : AskW b c 0 s w) (hB : B ≤ b) (hbc : b ≠ c) (hBw : B ≤ w.heap.size) :
    Calls Tryz.prog 16 #[v, .agg #[.bool f.plus, .bool f.minus, .bool f.sharp, .bool f.space, .bool f.zero, .int .i64 f.wid, .int .i64 f.prec, .int .i32 f.verb], .pointer (some ⟨b, 0, none⟩), .pointer (some ⟨c, 0, none⟩)] w (AskP B b c s (.tuple #[.string s, .bool true]) w) := by
  have hw : Below w.heap.size w (w.alloc (.cells #[.bool f.plus, .bool f.minus, .bool f.sharp, .bool f.space, .bool f.zero, .int .i64 f.wid, .int .i64 f.prec, .int .i32 f.verb] 33)) := Below.new _
  have h1 := h.later hw
  have HB := Lib.hid ((Below.refl B w).alloc hBw (.cells #[.bool f.plus, .bool f.minus, .bool f.sharp, .bool f.space, .bool f.zero, .int .i64 f.wid, .int .i64 f.prec, .int .i32 f.verb] 33))
  have HA := Lib.hid h1
  have c0 : (w.alloc (.cells #[.bool f.plus, .bool f.minus, .bool f.sharp, .bool f.space, .bool f.zero, .int .i64 f.wid, .int .i64 f.prec, .int .i32 f.verb] 33)).cell? ⟨b, 0, none⟩ = some (.int .i64 0) := cell_of_heap' h1.n 0
  have z0 : (w.alloc (.cells #[.bool f.plus, .bool f.minus, .bool f.sharp, .bool f.space, .bool f.zero, .int .i64 f.wid, .int .i64 f.prec, .int .i32 f.verb] 33)).frozen? ⟨b, 0, none⟩ = false := frozen_of_heap' h1.n 0
  have c1 : ((w.alloc (.cells #[.bool f.plus, .bool f.minus, .bool f.sharp, .bool f.space, .bool f.zero, .int .i64 f.wid, .int .i64 f.prec, .int .i32 f.verb] 33)).setCell ⟨b, 0, none⟩ (.int .i64 1)).cell? ⟨c, 0, none⟩ = some (.string s) := by
    refine cell_of_heap' (cs := #[.string s]) (T := 9) (fr := (0, 0)) ?_ 0
    exact (Below.heap_setCell _ _ _ _ (by show c ≠ b; exact fun e => hbc e.symm)).trans h1.s
  have HS : Hid (AskW b c 1 s ((w.alloc (.cells #[.bool f.plus, .bool f.minus, .bool f.sharp, .bool f.space, .bool f.zero, .int .i64 f.wid, .int .i64 f.prec, .int .i32 f.verb] 33)).setCell ⟨b, 0, none⟩ (.int .i64 1))) :=
    Lib.hid ⟨set_block h1.n (.int .i64 1), (Below.heap_setCell _ _ _ _ (by show c ≠ b; exact fun e => hbc e.symm)).trans h1.s⟩
  have HB2 := Lib.hid (HB.out.setCell (p := ⟨b, 0, none⟩) hB (.int .i64 1))
  clear h h1 hw
  go_enter Tryz.func16, Tryz.ntmps16
  go_wp2_with fail
  refine bodyPost_ret (v := .tuple #[.string s, .bool true]) (by simp [results, Tryz.f16, go_sem]) rfl ?_
  exact ⟨rfl, HS.out, HB2.out⟩
theorem value_asked (f : SpecD) (t : TypeId) (y : Value) (dep : Int) {B b c : Nat} {s : ByteArray} {w : World} (ht : t ≠ 112) (h : AskW b c 0 s w) (hB : B ≤ b) (hbc : b ≠ c) (hBw : B ≤ w.heap.size) :
    Calls Tryz.prog 25 #[.agg #[.bool f.plus, .bool f.minus, .bool f.sharp, .bool f.space, .bool f.zero, .int .i64 f.wid, .int .i64 f.prec, .int .i32 f.verb, .func (.func 16) #[] #[.pointer (some ⟨b, 0, none⟩), .pointer (some ⟨c, 0, none⟩)]], .iface t y, .int .i64 dep] w (AskP B b c s (.string s) w) := by
  have HNIL := Lib.hid (isNil_no t y ht)
  have HB := Lib.hid ((Below.refl B w).alloc hBw (.cells #[.bool f.plus, .bool f.minus, .bool f.sharp, .bool f.space, .bool f.zero, .int .i64 f.wid, .int .i64 f.prec, .int .i32 f.verb, .func (.func 16) #[] #[.pointer (some ⟨b, 0, none⟩), .pointer (some ⟨c, 0, none⟩)]] 57))
  have HASK := Lib.hid (asked f (.iface t y) (h.later (Below.new (.cells #[.bool f.plus, .bool f.minus, .bool f.sharp, .bool f.space, .bool f.zero, .int .i64 f.wid, .int .i64 f.prec, .int .i32 f.verb, .func (.func 16) #[] #[.pointer (some ⟨b, 0, none⟩), .pointer (some ⟨c, 0, none⟩)]] 57))) hB hbc (Nat.le_trans hBw HB.out.size))
  have hrun : ∀ W, Sem.run Tryz.prog (binOp BinOp.neq 35 (.func (.func 16) #[] #[.pointer (some ⟨b, 0, none⟩), .pointer (some ⟨c, 0, none⟩)]) Value.nilFunc) W = .ok (.bool true) W := fun W => rfl
  clear h ht hB hbc hBw
  go_enter Tryz.func25, Tryz.ntmps25
  go_wp2_with fail
  refine (HNIL.out _).mono ?_
  rintro e w2 ⟨rfl, rfl⟩
  go_wp2_with fail
  refine HASK.out.mono ?_
  rintro e W3 ⟨rfl, h3, hb3⟩
  have HE : Hid (AskP B b c s (.string s) w (.returned (.string s)) W3) := Lib.hid ⟨rfl, h3, HB.out.trans hb3⟩
  clear h3 hb3 HASK HB
  go_wp2_with fail
  go_ret
  exact HE.out
theorem show_asked (f : SpecD) (t : TypeId) (y : Value) {B b c : Nat} {s : ByteArray} {w : World} (hv : f.verb ≠ 84) (ht : t ≠ 112) (h : AskW b c 0 s w) (hB : B ≤ b) (hbc : b ≠ c) (hBw : B ≤ w.heap.size) :
    Calls Tryz.prog 10 #[.iface t y, .agg #[.bool f.plus, .bool f.minus, .bool f.sharp, .bool f.space, .bool f.zero, .int .i64 f.wid, .int .i64 f.prec, .int .i32 f.verb], .func (.func 16) #[] #[.pointer (some ⟨b, 0, none⟩), .pointer (some ⟨c, 0, none⟩)]] w (AskP B b c s (.string s) w) := by
  have HB := Lib.hid ((Below.refl B w).alloc hBw (.cells #[.bool f.plus, .bool f.minus, .bool f.sharp, .bool f.space, .bool f.zero, .int .i64 f.wid, .int .i64 f.prec, .int .i32 f.verb] 33))
  have HV := Lib.hid (value_asked f t y 0 ht (h.later (Below.new (.cells #[.bool f.plus, .bool f.minus, .bool f.sharp, .bool f.space, .bool f.zero, .int .i64 f.wid, .int .i64 f.prec, .int .i32 f.verb] 33))) hB hbc (Nat.le_trans hBw HB.out.size))
  have hv' : (f.verb == 84) = false := by simpa using hv
  clear h ht hB hbc hBw hv
  go_enter Tryz.func10, Tryz.ntmps10
  go_wp2_with fail
  refine HV.out.mono ?_
  rintro e W3 ⟨rfl, h3, hb3⟩
  have HE : Hid (AskP B b c s (.string s) w (.returned (.string s)) W3) := Lib.hid ⟨rfl, h3, HB.out.trans hb3⟩
  clear h3 hb3 HV HB
  go_wp2_with fail
  go_ret
  exact HE.out
end Go.Proofs.YtkpfeodffhfejaaGreatDoor

/- The law TreeOuter: if the outer value's hook answers, that is the text, and nobody else is asked. Condition: the argument is a descriptor. -/
namespace Go.Proofs.YtkpfeodffhfejaaGreatDoor
set_option linter.unusedVariables false
set_option linter.unusedSimpArgs false
set_option maxRecDepth 1000000
open Go.RowKit

theorem kind_cell {w : World} {k0 : Int} {v1 v2 v3 v4 v5 v6 v7 : Value} {d : D} (h : IsD w (.agg #[.int .i64 k0, v1, v2, v3, v4, v5, v6, v7]) d) : k0 = d.kind := by
  obtain ⟨a5, c5, a6, c6, e, _⟩ := h.open
  unfold aggD at e
  injection e with e
  injection e with e
  injection e with e1 e2
  injection e1
theorem not_nil {w : World} {t : TypeId} {y : Value} {x : V} (h : IsV w (.iface t y) x) (hk : x.base.kind ≠ 0) : t ≠ 112 := by
  generalize hv : Value.iface t y = v at h
  cases h with
  | nil => exact absurd rfl hk
  | nil0 => cases hv
  | leaf l =>
    cases l <;> (unfold Leaf.val at hv; injection hv with hv; subst hv; decide)
  | list => injection hv with hv; subst hv; decide
  | struct => injection hv with hv; subst hv; decide
  | map => injection hv with hv; subst hv; decide
  | ptr0 => injection hv with hv; subst hv; decide
  | ptr1 => injection hv with hv; subst hv; decide
set_option maxHeartbeats 8000000 in
theorem outer_any {d : D} (f : SpecD) (s : ByteArray) {w : World} {v : Value} (h : IsD w v d) : Calls Tryz.prog 4 #[v, .agg #[.bool f.plus, .bool f.minus, .bool f.sharp, .bool f.space, .bool f.zero, .int .i64 f.wid, .int .i64 f.prec, .int .i32 f.verb], .string s] w (Ret w (.bool true)) := by
  have HD := Lib.hid h
  obtain ⟨a5, c5, a6, c6, rfl, hk, hb, hi, ht, hx, hn, hp⟩ := h.open
  clear hp hn hb hi hk ht hx h
  unfold aggD at HD ⊢
  have HB0 := Lib.hid (((Below.new (w := w) (.cells #[.int .i64 d.kind, .string d.type, .int .u64 d.bits, .int .u64 d.imag, .string d.text, .slice a5 d.names.length c5, .slice a6 d.parts.length c6, .int .i64 d.hook] 26)).push (.cells #[.bool f.plus, .bool f.minus, .bool f.sharp, .bool f.space, .bool f.zero, .int .i64 f.wid, .int .i64 f.prec, .int .i32 f.verb] 33)).push (.cells #[.string s] 9))
  have hd : w.heap[w.heap.size]? = none := by simp
  have b1 : Below (w.alloc (.cells #[.int .i64 d.kind, .string d.type, .int .u64 d.bits, .int .u64 d.imag, .string d.text, .slice a5 d.names.length c5, .slice a6 d.parts.length c6, .int .i64 d.hook] 26)).heap.size (w.alloc (.cells #[.int .i64 d.kind, .string d.type, .int .u64 d.bits, .int .u64 d.imag, .string d.text, .slice a5 d.names.length c5, .slice a6 d.parts.length c6, .int .i64 d.hook] 26)) (((w.alloc (.cells #[.int .i64 d.kind, .string d.type, .int .u64 d.bits, .int .u64 d.imag, .string d.text, .slice a5 d.names.length c5, .slice a6 d.parts.length c6, .int .i64 d.hook] 26)).alloc (.cells #[.bool f.plus, .bool f.minus, .bool f.sharp, .bool f.space, .bool f.zero, .int .i64 f.wid, .int .i64 f.prec, .int .i32 f.verb] 33)).alloc (.cells #[.string s] 9)) := (Below.new _).push _
  have b2 : Below ((w.alloc (.cells #[.int .i64 d.kind, .string d.type, .int .u64 d.bits, .int .u64 d.imag, .string d.text, .slice a5 d.names.length c5, .slice a6 d.parts.length c6, .int .i64 d.hook] 26)).alloc (.cells #[.bool f.plus, .bool f.minus, .bool f.sharp, .bool f.space, .bool f.zero, .int .i64 f.wid, .int .i64 f.prec, .int .i32 f.verb] 33)).heap.size ((w.alloc (.cells #[.int .i64 d.kind, .string d.type, .int .u64 d.bits, .int .u64 d.imag, .string d.text, .slice a5 d.names.length c5, .slice a6 d.parts.length c6, .int .i64 d.hook] 26)).alloc (.cells #[.bool f.plus, .bool f.minus, .bool f.sharp, .bool f.space, .bool f.zero, .int .i64 f.wid, .int .i64 f.prec, .int .i32 f.verb] 33)) (((w.alloc (.cells #[.int .i64 d.kind, .string d.type, .int .u64 d.bits, .int .u64 d.imag, .string d.text, .slice a5 d.names.length c5, .slice a6 d.parts.length c6, .int .i64 d.hook] 26)).alloc (.cells #[.bool f.plus, .bool f.minus, .bool f.sharp, .bool f.space, .bool f.zero, .int .i64 f.wid, .int .i64 f.prec, .int .i32 f.verb] 33)).alloc (.cells #[.string s] 9)) := Below.new _
  have z1 : (w.alloc (.cells #[.int .i64 d.kind, .string d.type, .int .u64 d.bits, .int .u64 d.imag, .string d.text, .slice a5 d.names.length c5, .slice a6 d.parts.length c6, .int .i64 d.hook] 26)).heap.size = w.heap.size + 1 := by simp
  have z2 : ((w.alloc (.cells #[.int .i64 d.kind, .string d.type, .int .u64 d.bits, .int .u64 d.imag, .string d.text, .slice a5 d.names.length c5, .slice a6 d.parts.length c6, .int .i64 d.hook] 26)).alloc (.cells #[.bool f.plus, .bool f.minus, .bool f.sharp, .bool f.space, .bool f.zero, .int .i64 f.wid, .int .i64 f.prec, .int .i32 f.verb] 33)).heap.size = w.heap.size + 1 + 1 := by simp
  have z3 : (((w.alloc (.cells #[.int .i64 d.kind, .string d.type, .int .u64 d.bits, .int .u64 d.imag, .string d.text, .slice a5 d.names.length c5, .slice a6 d.parts.length c6, .int .i64 d.hook] 26)).alloc (.cells #[.bool f.plus, .bool f.minus, .bool f.sharp, .bool f.space, .bool f.zero, .int .i64 f.wid, .int .i64 f.prec, .int .i32 f.verb] 33)).alloc (.cells #[.string s] 9)).heap.size = w.heap.size + 1 + 1 + 1 := by simp
  have hD := cell_of_heap' ((b1.block w.heap.size (by rw [z1]; omega)).trans (heap_alloc_new w (.cells #[.int .i64 d.kind, .string d.type, .int .u64 d.bits, .int .u64 d.imag, .string d.text, .slice a5 d.names.length c5, .slice a6 d.parts.length c6, .int .i64 d.hook] 26)))
  have hF := cell_of_heap' ((b2.block (w.heap.size + 1) (by rw [z2]; omega)).trans (z1 ▸ heap_alloc_new (w.alloc (.cells #[.int .i64 d.kind, .string d.type, .int .u64 d.bits, .int .u64 d.imag, .string d.text, .slice a5 d.names.length c5, .slice a6 d.parts.length c6, .int .i64 d.hook] 26)) (.cells #[.bool f.plus, .bool f.minus, .bool f.sharp, .bool f.space, .bool f.zero, .int .i64 f.wid, .int .i64 f.prec, .int .i32 f.verb] 33)))
  have hS : (((w.alloc (.cells #[.int .i64 d.kind, .string d.type, .int .u64 d.bits, .int .u64 d.imag, .string d.text, .slice a5 d.names.length c5, .slice a6 d.parts.length c6, .int .i64 d.hook] 26)).alloc (.cells #[.bool f.plus, .bool f.minus, .bool f.sharp, .bool f.space, .bool f.zero, .int .i64 f.wid, .int .i64 f.prec, .int .i32 f.verb] 33)).alloc (.cells #[.string s] 9)).heap[w.heap.size + 1 + 1]? = some (.cells #[.string s] 9 (0, 0)) := z2 ▸ heap_alloc_new ((w.alloc (.cells #[.int .i64 d.kind, .string d.type, .int .u64 d.bits, .int .u64 d.imag, .string d.text, .slice a5 d.names.length c5, .slice a6 d.parts.length c6, .int .i64 d.hook] 26)).alloc (.cells #[.bool f.plus, .bool f.minus, .bool f.sharp, .bool f.space, .bool f.zero, .int .i64 f.wid, .int .i64 f.prec, .int .i32 f.verb] 33)) (.cells #[.string s] 9)
  have HD := Lib.hid (HD.out.later HB0.out)
  have HZ3 := Lib.hid z3
  go_enter Tryz.func4, Tryz.ntmps4
  go_upto_region 1 with fail
  generalize ((w.alloc (.cells #[.int .i64 d.kind, .string d.type, .int .u64 d.bits, .int .u64 d.imag, .string d.text, .slice a5 d.names.length c5, .slice a6 d.parts.length c6, .int .i64 d.hook] 26)).alloc (.cells #[.bool f.plus, .bool f.minus, .bool f.sharp, .bool f.space, .bool f.zero, .int .i64 f.wid, .int .i64 f.prec, .int .i32 f.verb] 33)).alloc (.cells #[.string s] 9) = W0 at HB0 hD hF hS HD HZ3 ⊢
  have d0 : W0.cell? ⟨w.heap.size, 0, none⟩ = some (.int .i64 d.kind) := hD 0
  have d1 : W0.cell? ⟨w.heap.size, 1, none⟩ = some (.string d.type) := hD 1
  have d2 : W0.cell? ⟨w.heap.size, 2, none⟩ = some (.int .u64 d.bits) := hD 2
  have d3 : W0.cell? ⟨w.heap.size, 3, none⟩ = some (.int .u64 d.imag) := hD 3
  have d4 : W0.cell? ⟨w.heap.size, 4, none⟩ = some (.string d.text) := hD 4
  have d5 : W0.cell? ⟨w.heap.size, 5, none⟩ = some (.slice a5 d.names.length c5) := hD 5
  have d6 : W0.cell? ⟨w.heap.size, 6, none⟩ = some (.slice a6 d.parts.length c6) := hD 6
  have d7 : W0.cell? ⟨w.heap.size, 7, none⟩ = some (.int .i64 d.hook) := hD 7
  have f0 : W0.cell? ⟨w.heap.size + 1, 0, none⟩ = some (.bool f.plus) := hF 0
  have f1 : W0.cell? ⟨w.heap.size + 1, 1, none⟩ = some (.bool f.minus) := hF 1
  have f2 : W0.cell? ⟨w.heap.size + 1, 2, none⟩ = some (.bool f.sharp) := hF 2
  have f3 : W0.cell? ⟨w.heap.size + 1, 3, none⟩ = some (.bool f.space) := hF 3
  have f4 : W0.cell? ⟨w.heap.size + 1, 4, none⟩ = some (.bool f.zero) := hF 4
  have f5 : W0.cell? ⟨w.heap.size + 1, 5, none⟩ = some (.int .i64 f.wid) := hF 5
  have f6 : W0.cell? ⟨w.heap.size + 1, 6, none⟩ = some (.int .i64 f.prec) := hF 6
  have f7 : W0.cell? ⟨w.heap.size + 1, 7, none⟩ = some (.int .i32 f.verb) := hF 7
  have HS := Lib.hid hS
  have HK0 := Lib.hid (Below.refl W0.heap.size W0)
  clear hD hF hS b1 b2 z1 z2 z3 hd
  go_wp2_with fail
  refine (built_is HD.out).mono ?_
  rintro e w1 ⟨hb, v, k0, ty, b0, i0, tx, q5, n5, p5, q6, n6, p6, h0, x, rfl, hR, hV, hF, hor⟩
  have HZ1 := Lib.hid hb.size
  have HB1 := Lib.hid (HB0.out.next hb)
  have HKK : Hid (k0 = x.base.kind) := Lib.hid (by rw [← rawV_kind]; exact kind_cell hR)
  have f0 := cell_below hb f0
  have f1 := cell_below hb f1
  have f2 := cell_below hb f2
  have f3 := cell_below hb f3
  have f4 := cell_below hb f4
  have f5 := cell_below hb f5
  have f6 := cell_below hb f6
  have f7 := cell_below hb f7
  have HS := Lib.hid ((hb.block (w.heap.size + 1 + 1) (by have := HZ3.out; omega)).trans HS.out)
  have HV := Lib.hid hV
  have HOR := Lib.hid hor
  clear hb hR hV hF hor HD HB0 d0 d1 d2 d3 d4 d5 d6 d7 HK0
  go_upto_region 2 with fail
  have HBN : Hid (Below w1.heap.size w1 (w1.alloc (.cells #[.int .i64 k0, .string ty, .int .u64 b0, .int .u64 i0, .string tx, .slice q5 n5 p5, .slice q6 n6 p6, .int .i64 h0] 26))) := Lib.hid (Below.new _)
  have hA := cell_of_heap' (heap_alloc_new w1 (.cells #[.int .i64 k0, .string ty, .int .u64 b0, .int .u64 i0, .string tx, .slice q5 n5 p5, .slice q6 n6 p6, .int .i64 h0] 26))
  have HS := Lib.hid ((HBN.out.block (w.heap.size + 1 + 1) (by have := HZ3.out; have := HZ1.out; omega)).trans HS.out)
  have HB2 := Lib.hid (HB1.out.next HBN.out)
  have HV := Lib.hid (HV.out.later HBN.out)
  have f0 := cell_below HBN.out f0
  have f1 := cell_below HBN.out f1
  have f2 := cell_below HBN.out f2
  have f3 := cell_below HBN.out f3
  have f4 := cell_below HBN.out f4
  have f5 := cell_below HBN.out f5
  have f6 := cell_below HBN.out f6
  have f7 := cell_below HBN.out f7
  have HZ2 : Hid ((w1.alloc (.cells #[.int .i64 k0, .string ty, .int .u64 b0, .int .u64 i0, .string tx, .slice q5 n5 p5, .slice q6 n6 p6, .int .i64 h0] 26)).heap.size = w1.heap.size + 1) := Lib.hid (by simp)
  generalize w1.alloc (.cells #[.int .i64 k0, .string ty, .int .u64 b0, .int .u64 i0, .string tx, .slice q5 n5 p5, .slice q6 n6 p6, .int .i64 h0] 26) = W2 at HBN hA HS HB2 HV f0 f1 f2 f3 f4 f5 f6 f7 HZ2 ⊢
  have e0 : W2.cell? ⟨w1.heap.size, 0, none⟩ = some (.int .i64 k0) := hA 0
  clear hA
  by_cases hk : k0 = 0
  · subst hk
    go_wp2_with fail
    refine (lives_any _).mono ?_
    rintro e w3 ⟨rfl, hb⟩
    have HB3 := Lib.hid (HB2.out.next hb)
    clear hb
    go_wp2_with fail
    go_ret
    exact ⟨rfl, HB3.out⟩
  · have hk' : (k0 == 0) = false := by simpa using hk
    by_cases hv : f.verb = 84
    · have hv' : (f.verb == 84) = true := by simpa using hv
      go_wp2_with fail
      refine (lives_any _).mono ?_
      rintro e w3 ⟨rfl, hb⟩
      have HB3 := Lib.hid (HB2.out.next hb)
      clear hb
      go_wp2_with fail
      go_ret
      exact ⟨rfl, HB3.out⟩
    · have hv' : (f.verb == 84) = false := by simpa using hv
      have hif : ∃ t y, v = .iface t y := by
        rcases HOR.out with ⟨_, h⟩ | ⟨h, _⟩
        · have := HKK.out; rw [h] at this; exact absurd this hk
        · exact h
      obtain ⟨t, y, rfl⟩ := hif
      have htn := not_nil HV.out (by rw [← HKK.out]; exact hk)
      have HAW : Hid (AskW (w1.heap.size + 1) (w.heap.size + 1 + 1) 0 s (W2.alloc (.cells #[.int .i64 0] 3))) := by
        refine Lib.hid ⟨?_, ?_⟩
        · have := heap_alloc_new W2 (.cells #[.int .i64 0] 3)
          rw [HZ2.out] at this
          exact this
        · exact ((Below.new (w := W2) (.cells #[.int .i64 0] 3)).block _ (by have := HZ3.out; have := HZ1.out; have := HZ2.out; omega)).trans HS.out
      have HBM : Hid (Below W2.heap.size W2 (W2.alloc (.cells #[.int .i64 0] 3))) := Lib.hid (Below.new _)
      have HB3 := Lib.hid (HB2.out.next HBM.out)
      have f0 := cell_below HBM.out f0
      have f1 := cell_below HBM.out f1
      have f2 := cell_below HBM.out f2
      have f3 := cell_below HBM.out f3
      have f4 := cell_below HBM.out f4
      have f5 := cell_below HBM.out f5
      have f6 := cell_below HBM.out f6
      have f7 := cell_below HBM.out f7
      have HZ4 : Hid ((W2.alloc (.cells #[.int .i64 0] 3)).heap.size = w1.heap.size + 1 + 1) := Lib.hid (by simp [HZ2.out])
      have HSH := Lib.hid (show_asked f t y hv htn HAW.out (show w.heap.size ≤ w1.heap.size + 1 by have := HZ3.out; have := HZ1.out; omega) (by have := HZ3.out; have := HZ1.out; omega) HB3.out.size)
      have hz2 := HZ2.out
      clear htn HV HOR HS HB1 HBN
      go_upto_region 5 with fail
      clear hv' hk' hk hv e0 HB2 HAW
      generalize W2.alloc (.cells #[.int .i64 0] 3) = W3 at HSH HBM HB3 f0 f1 f2 f3 f4 f5 f6 f7 HZ4 ⊢
      go_wp2_with fail
      refine HSH.out.mono ?_
      rintro e w4 ⟨rfl, h3, hb3⟩
      have c1 : w4.cell? ⟨w1.heap.size + 1, 0, none⟩ = some (.int .i64 1) := cell_of_heap' h3.n 0
      have c2 : w4.cell? ⟨w.heap.size + 1 + 1, 0, none⟩ = some (.string s) := cell_of_heap' h3.s 0
      have HB4 := Lib.hid (HB3.out.trans hb3)
      clear h3 hb3 HSH
      go_wp2_with fail
      refine (lives_any _).mono ?_
      rintro e w5 ⟨rfl, hb⟩
      have HB5 := Lib.hid (HB4.out.next hb)
      clear hb
      go_wp2_with fail
      go_ret
      exact ⟨rfl, HB5.out⟩
end Go.Proofs.YtkpfeodffhfejaaGreatDoor

/- A spec that is handed in by value, opened: for the rows. No condition. -/
namespace Go.Proofs.YtkpfeodffhfejaaGreatDoor
set_option linter.unusedVariables false
set_option linter.unusedSimpArgs false
set_option maxRecDepth 1000000
open Go.RowKit Go.ChangeShapes Go.WideShapes Go.ChangeAt Go.WideElems

theorem cells33 : Tryz.prog.cellsOf 33 = 8 := by kernel_rfl
theorem cells2 : Tryz.prog.cellsOf 4 = 1 ∧ Tryz.prog.cellsOf 3 = 1 ∧ Tryz.prog.cellsOf 21 = 1 := by refine ⟨?_, ?_, ?_⟩ <;> kernel_rfl
theorem spec_arg {H : Type} {enc : TypeId × Value → H} {W : World} {base : Nat} {held : Bool} {v : Value} {y : DataW H} {p : List MemPlace} (hok : Value.okWide Tryz.prog W .any base 33 v)
    (h : DataW.Trod enc Tryz.prog W 0 (fun _ => true) held 33 v y p) : ∃ f : SpecD, v = .agg #[.bool f.plus, .bool f.minus, .bool f.sharp, .bool f.space, .bool f.zero, .int .i64 f.wid, .int .i64 f.prec, .int .i32 f.verb] ∧ f.Rng := by
  obtain ⟨cs, rfl⟩ := agg_of_ok Tryz.underlying33 hok
  obtain ⟨fuel, h⟩ := h
  obtain ⟨xs, n, rfl, hx, hl, hlen, hf⟩ := DataW.trod_struct Tryz.underlying33 h
  rw [cells33] at hl
  obtain ⟨q4, q3, q21⟩ := cells2
  obtain ⟨c0, c1, c2, c3, c4, c5, c6, c7, hcs⟩ := list8 hl
  obtain ⟨y0, y1, y2, y3, y4, y5, y6, y7, rfl⟩ := list8 (l := xs) hlen
  rw [hcs] at hf
  have h0 := hf 0 _ rfl
  have h1 := hf 1 _ rfl
  have h2 := hf 2 _ rfl
  have h3 := hf 3 _ rfl
  have h4 := hf 4 _ rfl
  have h5 := hf 5 _ rfl
  have h6 := hf 6 _ rfl
  have h7 := hf 7 _ rfl
  simp only [q3, q4, q21, List.drop, List.take, List.getElem?_cons_zero, List.getElem?_cons_succ] at h0 h1 h2 h3 h4 h5 h6 h7
  obtain ⟨b0, e0, z0⟩ := DataW.trod_bool Tryz.underlying4 h0
  obtain ⟨b1, e1, z1⟩ := DataW.trod_bool Tryz.underlying4 h1
  obtain ⟨b2, e2, z2⟩ := DataW.trod_bool Tryz.underlying4 h2
  obtain ⟨b3, e3, z3⟩ := DataW.trod_bool Tryz.underlying4 h3
  obtain ⟨b4, e4, z4⟩ := DataW.trod_bool Tryz.underlying4 h4
  obtain ⟨n5, e5, z5, w5⟩ := DataW.trod_int Tryz.underlying3 h5
  obtain ⟨n6, e6, z6, w6⟩ := DataW.trod_int Tryz.underlying3 h6
  obtain ⟨n7, e7, z7, w7⟩ := DataW.trod_int Tryz.underlying21 h7
  have i5 := i64_of_wf w5
  have i6 := i64_of_wf w6
  unfold I64 at i5 i6
  refine ⟨⟨b0, b1, b2, b3, b4, n5, n6, n7⟩, ?_, ⟨by show _ ≤ n5; omega, by show n5 ≤ _; omega, by show _ ≤ n6; omega, by show n6 ≤ _; omega⟩⟩
  have hca : cs = #[c0, c1, c2, c3, c4, c5, c6, c7] := by
    apply Array.ext'
    exact hcs
  rw [hca, (List.cons.inj e0).1, (List.cons.inj e1).1, (List.cons.inj e2).1, (List.cons.inj e3).1, (List.cons.inj e4).1, (List.cons.inj e5).1, (List.cons.inj e6).1, (List.cons.inj e7).1]
end Go.Proofs.YtkpfeodffhfejaaGreatDoor
