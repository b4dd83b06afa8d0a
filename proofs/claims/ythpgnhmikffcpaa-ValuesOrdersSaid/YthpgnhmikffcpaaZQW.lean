/- Keys have one order: the law's walk. No condition but that the arguments are descriptors. -/
import Derived.Test.YthpgnhmikffcpaaZQV
import Derived.Test.YthpgnhmikffcpaaZQL
namespace Go.Proofs.Ythpgnhmikffcpaa
set_option linter.unusedVariables false
set_option linter.unusedSimpArgs false
open Go.RowKit

theorem agg_kind {w : World} {k0x b0x i0x h0x : Int} {tyx txx : ByteArray} {a5x a6x : Option Addr} {n5x c5x n6x c6x : Nat} {x : V} (h : IsD w (.agg #[.int .i64 k0x, .string tyx, .int .u64 b0x, .int .u64 i0x, .string txx, .slice a5x n5x c5x, .slice a6x n6x c6x, .int .i64 h0x]) (rawV x)) : k0x = x.base.kind := by
  obtain ⟨a5, c5, a6, c6, e, _⟩ := h.open
  unfold aggD at e
  simp only [Value.agg.injEq, Array.mk.injEq, List.cons.injEq, Value.int.injEq, true_and, and_true] at e
  rw [← rawV_kind]
  exact e.1
theorem idx0 (a0 a1 a2 a3 a4 a5 a6 a7 b0 b1 b2 b3 b4 b5 b6 b7 c0 c1 c2 c3 c4 c5 c6 c7 : Value) (w : World) : (Instr.index 51 (.agg #[a0, a1, a2, a3, a4, a5, a6, a7, b0, b1, b2, b3, b4, b5, b6, b7, c0, c1, c2, c3, c4, c5, c6, c7]) (.int .i64 0)).run Try.prog w = .ok (.agg #[a0, a1, a2, a3, a4, a5, a6, a7]) w := by kernel_rfl
theorem idx1 (a0 a1 a2 a3 a4 a5 a6 a7 b0 b1 b2 b3 b4 b5 b6 b7 c0 c1 c2 c3 c4 c5 c6 c7 : Value) (w : World) : (Instr.index 51 (.agg #[a0, a1, a2, a3, a4, a5, a6, a7, b0, b1, b2, b3, b4, b5, b6, b7, c0, c1, c2, c3, c4, c5, c6, c7]) (.int .i64 1)).run Try.prog w = .ok (.agg #[b0, b1, b2, b3, b4, b5, b6, b7]) w := by kernel_rfl
theorem idx2 (a0 a1 a2 a3 a4 a5 a6 a7 b0 b1 b2 b3 b4 b5 b6 b7 c0 c1 c2 c3 c4 c5 c6 c7 : Value) (w : World) : (Instr.index 51 (.agg #[a0, a1, a2, a3, a4, a5, a6, a7, b0, b1, b2, b3, b4, b5, b6, b7, c0, c1, c2, c3, c4, c5, c6, c7]) (.int .i64 2)).run Try.prog w = .ok (.agg #[c0, c1, c2, c3, c4, c5, c6, c7]) w := by kernel_rfl
theorem kind_ways (k : Int) : k = 1 ∨ (k ≠ 1 ∧ inB 2 11 k = true) ∨ (k ≠ 1 ∧ inB 2 11 k = false ∧ k = 16) ∨ (k ≠ 1 ∧ inB 2 11 k = false ∧ k ≠ 16) := by
  cases inB 2 11 k <;> simp <;> omega
set_option maxRecDepth 100000 in
set_option maxHeartbeats 16000000 in
theorem orders_any {d d1 d2 : D} {w : World} {u u1 u2 : Value} (h : IsD w u d) (h1 : IsD w u1 d1) (h2 : IsD w u2 d2) : Calls Try.prog 8 #[u, u1, u2] w fun e w' => e = .returned (.bool true) ∧ Below w.heap.size w w' := by
  have HD := Lib.hid h
  have HD1 := Lib.hid h1
  have HD2 := Lib.hid h2
  have HR := Lib.hid h.rng
  have HR1 := Lib.hid h1.rng
  have HR2 := Lib.hid h2.rng
  obtain ⟨a5, c5, a6, c6, rfl, _⟩ := h.open
  obtain ⟨b5, e5, b6, e6, rfl, _⟩ := h1.open
  obtain ⟨f5, g5, f6, g6, rfl, _⟩ := h2.open
  clear h h1 h2
  unfold aggD at HD HD1 HD2 ⊢
  go_enter Try.func8, Try.ntmps8
  go_wp2_with fail
  have HB0 := Lib.hid (((Below.new (w := w) (.cells #[.int .i64 d.kind, .string d.type, .int .u64 d.bits, .int .u64 d.imag, .string d.text, .slice a5 d.names.length c5, .slice a6 d.parts.length c6, .int .i64 d.hook] 26)).push (.cells #[.int .i64 d1.kind, .string d1.type, .int .u64 d1.bits, .int .u64 d1.imag, .string d1.text, .slice b5 d1.names.length e5, .slice b6 d1.parts.length e6, .int .i64 d1.hook] 26)).push (.cells #[.int .i64 d2.kind, .string d2.type, .int .u64 d2.bits, .int .u64 d2.imag, .string d2.text, .slice f5 d2.names.length g5, .slice f6 d2.parts.length g6, .int .i64 d2.hook] 26))
  have HBox1 : Hid (BoxD (((w.alloc (.cells #[.int .i64 d.kind, .string d.type, .int .u64 d.bits, .int .u64 d.imag, .string d.text, .slice a5 d.names.length c5, .slice a6 d.parts.length c6, .int .i64 d.hook] 26)).alloc (.cells #[.int .i64 d1.kind, .string d1.type, .int .u64 d1.bits, .int .u64 d1.imag, .string d1.text, .slice b5 d1.names.length e5, .slice b6 d1.parts.length e6, .int .i64 d1.hook] 26)).alloc (.cells #[.int .i64 d2.kind, .string d2.type, .int .u64 d2.bits, .int .u64 d2.imag, .string d2.text, .slice f5 d2.names.length g5, .slice f6 d2.parts.length g6, .int .i64 d2.hook] 26)) (w.heap.size + 1) d1 b5 e5 b6 e6) := by
    have := (BoxD.new (w.alloc (.cells #[.int .i64 d.kind, .string d.type, .int .u64 d.bits, .int .u64 d.imag, .string d.text, .slice a5 d.names.length c5, .slice a6 d.parts.length c6, .int .i64 d.hook] 26)) d1 b5 e5 b6 e6).later (Below.new (.cells #[.int .i64 d2.kind, .string d2.type, .int .u64 d2.bits, .int .u64 d2.imag, .string d2.text, .slice f5 d2.names.length g5, .slice f6 d2.parts.length g6, .int .i64 d2.hook] 26))
    unfold cellsD at this
    exact Lib.hid (by simpa using this)
  have HBox2 : Hid (BoxD (((w.alloc (.cells #[.int .i64 d.kind, .string d.type, .int .u64 d.bits, .int .u64 d.imag, .string d.text, .slice a5 d.names.length c5, .slice a6 d.parts.length c6, .int .i64 d.hook] 26)).alloc (.cells #[.int .i64 d1.kind, .string d1.type, .int .u64 d1.bits, .int .u64 d1.imag, .string d1.text, .slice b5 d1.names.length e5, .slice b6 d1.parts.length e6, .int .i64 d1.hook] 26)).alloc (.cells #[.int .i64 d2.kind, .string d2.type, .int .u64 d2.bits, .int .u64 d2.imag, .string d2.text, .slice f5 d2.names.length g5, .slice f6 d2.parts.length g6, .int .i64 d2.hook] 26)) (w.heap.size + 1 + 1) d2 f5 g5 f6 g6) := by
    have := BoxD.new ((w.alloc (.cells #[.int .i64 d.kind, .string d.type, .int .u64 d.bits, .int .u64 d.imag, .string d.text, .slice a5 d.names.length c5, .slice a6 d.parts.length c6, .int .i64 d.hook] 26)).alloc (.cells #[.int .i64 d1.kind, .string d1.type, .int .u64 d1.bits, .int .u64 d1.imag, .string d1.text, .slice b5 d1.names.length e5, .slice b6 d1.parts.length e6, .int .i64 d1.hook] 26)) d2 f5 g5 f6 g6
    unfold cellsD at this
    exact Lib.hid (by simpa using this)
  generalize ((w.alloc (.cells #[.int .i64 d.kind, .string d.type, .int .u64 d.bits, .int .u64 d.imag, .string d.text, .slice a5 d.names.length c5, .slice a6 d.parts.length c6, .int .i64 d.hook] 26)).alloc (.cells #[.int .i64 d1.kind, .string d1.type, .int .u64 d1.bits, .int .u64 d1.imag, .string d1.text, .slice b5 d1.names.length e5, .slice b6 d1.parts.length e6, .int .i64 d1.hook] 26)).alloc (.cells #[.int .i64 d2.kind, .string d2.type, .int .u64 d2.bits, .int .u64 d2.imag, .string d2.text, .slice f5 d2.names.length g5, .slice f6 d2.parts.length g6, .int .i64 d2.hook] 26) = w0 at HB0 HBox1 HBox2 ⊢
  refine (built_any (HD.out.later HB0.out)).mono ?_
  rintro e w1 ⟨hB1, v, ok, k0x, tyx, b0x, i0x, txx, a5x, n5x, c5x, a6x, n6x, c6x, h0x, du, rfl, hdu, hvs, hok⟩
  have HB1 := Lib.hid hB1
  have HDU := Lib.hid hdu
  have HOK := Lib.hid hok
  clear hB1 hdu hvs hok
  go_upto_region 2 with fail
  have hb1n : Below w1.heap.size w1 (w1.alloc (.cells #[.int .i64 k0x, .string tyx, .int .u64 b0x, .int .u64 i0x, .string txx, .slice a5x n5x c5x, .slice a6x n6x c6x, .int .i64 h0x] 26)) := Below.new _
  have HBx := Lib.hid (Blk.of (heap_alloc_new w1 (.cells #[.int .i64 k0x, .string tyx, .int .u64 b0x, .int .u64 i0x, .string txx, .slice a5x n5x c5x, .slice a6x n6x c6x, .int .i64 h0x] 26)))
  have HB1n := Lib.hid hb1n
  have HBox1n := Lib.hid ((HBox1.out.later HB1.out).later hb1n)
  have HBox2n := Lib.hid ((HBox2.out.later HB1.out).later hb1n)
  have HBW := Lib.hid ((HB0.out.next HB1.out).next hb1n)
  generalize w1.alloc (.cells #[.int .i64 k0x, .string tyx, .int .u64 b0x, .int .u64 i0x, .string txx, .slice a5x n5x c5x, .slice a6x n6x c6x, .int .i64 h0x] 26) = W1 at HBx HB1n hb1n HBox1n HBox2n HBW ⊢
  clear hb1n HBox1 HBox2
  obtain ⟨q0, q1, q2, q3, q4, q5, q6, q7⟩ := HBox1n.out
  go_wp2_with fail
  refine (built_any (HD1.out.later HBW.out)).mono ?_
  rintro e w2 ⟨hB2, v', ok', k0y, tyy, b0y, i0y, txy, a5y, n5y, c5y, a6y, n6y, c6y, h0y, du', rfl, hdu', hvs', hok'⟩
  have HB2 := Lib.hid hB2
  have HDU' := Lib.hid hdu'
  have HOK' := Lib.hid hok'
  clear hB2 hdu' hvs' hok' q0 q1 q2 q3 q4 q5 q6 q7
  go_upto_region 3 with fail
  have hb2n : Below w2.heap.size w2 (w2.alloc (.cells #[.int .i64 k0y, .string tyy, .int .u64 b0y, .int .u64 i0y, .string txy, .slice a5y n5y c5y, .slice a6y n6y c6y, .int .i64 h0y] 26)) := Below.new _
  have HBy := Lib.hid (Blk.of (heap_alloc_new w2 (.cells #[.int .i64 k0y, .string tyy, .int .u64 b0y, .int .u64 i0y, .string txy, .slice a5y n5y c5y, .slice a6y n6y c6y, .int .i64 h0y] 26)))
  have HB2n := Lib.hid hb2n
  have HBox3 := Lib.hid ((HBox2n.out.later HB2.out).later hb2n)
  have HBW2 := Lib.hid ((HBW.out.next HB2.out).next hb2n)
  generalize w2.alloc (.cells #[.int .i64 k0y, .string tyy, .int .u64 b0y, .int .u64 i0y, .string txy, .slice a5y n5y c5y, .slice a6y n6y c6y, .int .i64 h0y] 26) = W2 at HBy HB2n hb2n HBox3 HBW2 ⊢
  clear hb2n HBox2n HBox1n
  obtain ⟨q0, q1, q2, q3, q4, q5, q6, q7⟩ := HBox3.out
  go_wp2_with fail
  refine (built_any (HD2.out.later HBW2.out)).mono ?_
  rintro e w3 ⟨hB3, v2, ok2, k0z, tyz, b0z, i0z, txz, a5z, n5z, c5z, a6z, n6z, c6z, h0z, du2, rfl, hdu2, hvs2, hok2⟩
  have HB3 := Lib.hid hB3
  have HDU2 := Lib.hid hdu2
  have HOK2 := Lib.hid hok2
  clear hB3 hdu2 hvs2 hok2 q0 q1 q2 q3 q4 q5 q6 q7
  by_cases hall : ok = true ∧ ok' = true ∧ ok2 = true
  · obtain ⟨rfl, rfl, rfl⟩ := hall
    obtain ⟨_, he, x, hx, hvf, rfl⟩ := HOK.out rfl
    obtain ⟨_, he', y, hy, hvf', rfl⟩ := HOK'.out rfl
    obtain ⟨_, he2, z, hz, hvf2, rfl⟩ := HOK2.out rfl
    have HFx := Lib.hid (built_facts HR.out he hx)
    have HFy := Lib.hid (built_facts HR1.out he' hy)
    have HFz := Lib.hid (built_facts HR2.out he2 hz)
    go_upto_region 6 with fail
    have hb3n : Below w3.heap.size w3 (w3.alloc (.cells #[.int .i64 k0z, .string tyz, .int .u64 b0z, .int .u64 i0z, .string txz, .slice a5z n5z c5z, .slice a6z n6z c6z, .int .i64 h0z] 26)) := Below.new _
    have HBz := Lib.hid (Blk.of (heap_alloc_new w3 (.cells #[.int .i64 k0z, .string tyz, .int .u64 b0z, .int .u64 i0z, .string txz, .slice a5z n5z c5z, .slice a6z n6z c6z, .int .i64 h0z] 26)))
    have h13 : Below w1.heap.size w1 (w3.alloc (.cells #[.int .i64 k0z, .string tyz, .int .u64 b0z, .int .u64 i0z, .string txz, .slice a5z n5z c5z, .slice a6z n6z c6z, .int .i64 h0z] 26)) := ((HB1n.out.next HB2.out).next HB2n.out |>.next HB3.out).next hb3n
    have h23 : Below w2.heap.size w2 (w3.alloc (.cells #[.int .i64 k0z, .string tyz, .int .u64 b0z, .int .u64 i0z, .string txz, .slice a5z n5z c5z, .slice a6z n6z c6z, .int .i64 h0z] 26)) := (HB2n.out.next HB3.out).next hb3n
    have hW13 : Below W1.heap.size W1 (w3.alloc (.cells #[.int .i64 k0z, .string tyz, .int .u64 b0z, .int .u64 i0z, .string txz, .slice a5z n5z c5z, .slice a6z n6z c6z, .int .i64 h0z] 26)) := ((Below.refl _ _).next HB2.out |>.next HB2n.out |>.next HB3.out).next hb3n
    have hW23 : Below W2.heap.size W2 (w3.alloc (.cells #[.int .i64 k0z, .string tyz, .int .u64 b0z, .int .u64 i0z, .string txz, .slice a5z n5z c5z, .slice a6z n6z c6z, .int .i64 h0z] 26)) := (HB3.out.next hb3n)
    have HVX := Lib.hid (hvf.isV.later h13)
    have HVY := Lib.hid (hvf'.isV.later h23)
    have HVZ := Lib.hid (hvf2.isV.later hb3n)
    have HDX := Lib.hid (HDU.out.later h13)
    have HDY := Lib.hid (HDU'.out.later h23)
    have HDZ := Lib.hid (HDU2.out.later hb3n)
    have HBx3 := Lib.hid (HBx.out.below hW13)
    have HBy3 := Lib.hid (HBy.out.below hW23)
    have HBW3 := Lib.hid ((HBW2.out.next HB3.out).next hb3n)
    clear h13 h23 hW13 hW23 he he' he2 hx hy hz hvf hvf' hvf2 HOK HOK' HOK2
    generalize w3.alloc (.cells #[.int .i64 k0z, .string tyz, .int .u64 b0z, .int .u64 i0z, .string txz, .slice a5z n5z c5z, .slice a6z n6z c6z, .int .i64 h0z] 26) = W3 at hb3n HBz HVX HVY HVZ HDX HDY HDZ HBx3 HBy3 HBW3 ⊢
    clear hb3n
    have HKx := Lib.hid (agg_kind HDX.out)
    have HKy := Lib.hid (agg_kind HDY.out)
    have HKz := Lib.hid (agg_kind HDZ.out)
    have HC21 : Hid (∀ W a b (s t : V), IsV W3 a s → IsV W3 b t → s.ok → t.ok → Below W3.heap.size W3 W → Calls Try.prog 21 #[a, b] W fun e w' => e = .returned (.int .i64 (ordV s t)) ∧ Below W.heap.size W w') :=
      fun W a b s t ha hb oa ob hW => Cmp_any (ha.later hW) (hb.later hW) oa ob
    have HC13 : Hid (∀ W, Calls Try.prog 13 #[] W fun e w' => e = .returned (.bool true) ∧ Below W.heap.size W w') := fun W => lives_any W
    obtain ⟨z0, z1, z2, z3, z4, z5, z6, z7, _⟩ := HBx3.out
    obtain ⟨y0, y1, y2, y3, y4, y5, y6, y7, _⟩ := HBy3.out
    obtain ⟨x0, x1, x2, x3, x4, x5, x6, x7, _⟩ := HBz.out
    clear HD HD1 HD2 HR HR1 HR2 HB0 HB1 HB2 HB3 HB1n HB2n HBW HBW2 HBx HBy HBox3 HDU HDU' HDU2
    go_wp2_with fail
    clear z0 z1 z2 z3 z4 z5 z6 z7 y0 y1 y2 y3 y4 y5 y6 y7 x0 x1 x2 x3 x4 x5 x6 x7
    go_loopw [54] (fun k wr => ∃ i : Nat, i ≤ 3 ∧ k = .int .i64 i ∧ Hid ((0 < i → keyK k0x = true) ∧ (1 < i → keyK k0y = true) ∧ (2 < i → keyK k0z = true)) ∧ Below W3.heap.size W3 wr) (fun k _ => 3 - (intOf k).toNat)
    case atStart => exact ⟨0, by omega, rfl, ⟨fun h => by omega, fun h => by omega, fun h => by omega⟩, Below.refl _ _⟩
    case round =>
      obtain ⟨i, hi, rfl, HRec, hB⟩ := hrel
      have HB := Lib.hid hB
      clear hB
      rcases (show i = 0 ∨ i = 1 ∨ i = 2 ∨ i = 3 by omega) with rfl | rfl | rfl | rfl
      · have hix := idx0 (.int .i64 k0x) (.string tyx) (.int .u64 b0x) (.int .u64 i0x) (.string txx) (.slice a5x n5x c5x) (.slice a6x n6x c6x) (.int .i64 h0x) (.int .i64 k0y) (.string tyy) (.int .u64 b0y) (.int .u64 i0y) (.string txy) (.slice a5y n5y c5y) (.slice a6y n6y c6y) (.int .i64 h0y) (.int .i64 k0z) (.string tyz) (.int .u64 b0z) (.int .u64 i0z) (.string txz) (.slice a5z n5z c5z) (.slice a6z n6z c6z) (.int .i64 h0z)
        rcases kind_ways k0x with hk | ⟨hk, hw⟩ | ⟨hk, hw, hs⟩ | ⟨hk, hw, hs⟩
        · subst hk
          have HKK : Hid (keyK 1 = true) := Lib.hid rfl
          go_wp2_with fail
          go_roundw
          case rel => exact ⟨1, by omega, by go_num, ⟨fun _ => HKK.out, fun h => by omega, fun h => by omega⟩, HB.out.push _⟩
          case measure => simp [intOf]
        · have HKK : Hid (keyK k0x = true) := Lib.hid (by simp [inB] at hw; simp [keyK]; omega)
          have HW := Lib.hid hw
          clear hw
          go_wp2_with fail
          refine (whole_any _ _).mono ?_
          rintro e wq ⟨rfl, rfl⟩
          rw [HW.out]
          go_wp2_with fail
          go_roundw
          case rel => exact ⟨1, by omega, by go_num, ⟨fun _ => HKK.out, fun h => by omega, fun h => by omega⟩, HB.out.push _⟩
          case measure => simp [intOf]
        · subst hs
          have HKK : Hid (keyK 16 = true) := Lib.hid rfl
          have HW := Lib.hid hw
          clear hw
          go_wp2_with fail
          refine (whole_any _ _).mono ?_
          rintro e wq ⟨rfl, rfl⟩
          rw [HW.out]
          go_wp2_with fail
          go_roundw
          case rel => exact ⟨1, by omega, by go_num, ⟨fun _ => HKK.out, fun h => by omega, fun h => by omega⟩, HB.out.push _⟩
          case measure => simp [intOf]
        · have HW := Lib.hid hw
          have hb1 : (k0x != 1) = true := by simpa using hk
          have hb2 : (k0x != 16) = true := by simpa using hs
          clear hw hk hs
          go_wp2_with fail
          refine (whole_any _ _).mono ?_
          rintro e wq ⟨rfl, rfl⟩
          rw [HW.out]
          go_wp2_with fail
          refine (HC21.out _ _ _ _ _ HVX.out HVX.out HFx.out.1 HFx.out.1 (HB.out.push _)).mono ?_
          rintro e wr ⟨rfl, hBr⟩
          have HBr := Lib.hid ((HB.out.push _).next hBr)
          clear hBr
          rw [ord_self]
          go_wp2_with fail
          refine (HC13.out _).mono ?_
          rintro e wl ⟨rfl, hBl⟩
          have HBl := Lib.hid (HBW3.out.next (HBr.out.next hBl))
          clear hBl
          go_wp2_with fail
          go_ret
          exact ⟨rfl, HBl.out⟩
      · have hix := idx1 (.int .i64 k0x) (.string tyx) (.int .u64 b0x) (.int .u64 i0x) (.string txx) (.slice a5x n5x c5x) (.slice a6x n6x c6x) (.int .i64 h0x) (.int .i64 k0y) (.string tyy) (.int .u64 b0y) (.int .u64 i0y) (.string txy) (.slice a5y n5y c5y) (.slice a6y n6y c6y) (.int .i64 h0y) (.int .i64 k0z) (.string tyz) (.int .u64 b0z) (.int .u64 i0z) (.string txz) (.slice a5z n5z c5z) (.slice a6z n6z c6z) (.int .i64 h0z)
        rcases kind_ways k0y with hk | ⟨hk, hw⟩ | ⟨hk, hw, hs⟩ | ⟨hk, hw, hs⟩
        · subst hk
          have HKK : Hid (keyK 1 = true) := Lib.hid rfl
          go_wp2_with fail
          go_roundw
          case rel => exact ⟨2, by omega, by go_num, ⟨fun _ => HRec.out.1 (by omega), fun _ => HKK.out, fun h => by omega⟩, HB.out.push _⟩
          case measure => simp [intOf]
        · have HKK : Hid (keyK k0y = true) := Lib.hid (by simp [inB] at hw; simp [keyK]; omega)
          have HW := Lib.hid hw
          clear hw
          go_wp2_with fail
          refine (whole_any _ _).mono ?_
          rintro e wq ⟨rfl, rfl⟩
          rw [HW.out]
          go_wp2_with fail
          go_roundw
          case rel => exact ⟨2, by omega, by go_num, ⟨fun _ => HRec.out.1 (by omega), fun _ => HKK.out, fun h => by omega⟩, HB.out.push _⟩
          case measure => simp [intOf]
        · subst hs
          have HKK : Hid (keyK 16 = true) := Lib.hid rfl
          have HW := Lib.hid hw
          clear hw
          go_wp2_with fail
          refine (whole_any _ _).mono ?_
          rintro e wq ⟨rfl, rfl⟩
          rw [HW.out]
          go_wp2_with fail
          go_roundw
          case rel => exact ⟨2, by omega, by go_num, ⟨fun _ => HRec.out.1 (by omega), fun _ => HKK.out, fun h => by omega⟩, HB.out.push _⟩
          case measure => simp [intOf]
        · have HW := Lib.hid hw
          have hb1 : (k0y != 1) = true := by simpa using hk
          have hb2 : (k0y != 16) = true := by simpa using hs
          clear hw hk hs
          go_wp2_with fail
          refine (whole_any _ _).mono ?_
          rintro e wq ⟨rfl, rfl⟩
          rw [HW.out]
          go_wp2_with fail
          refine (HC21.out _ _ _ _ _ HVX.out HVX.out HFx.out.1 HFx.out.1 (HB.out.push _)).mono ?_
          rintro e wr ⟨rfl, hBr⟩
          have HBr := Lib.hid ((HB.out.push _).next hBr)
          clear hBr
          rw [ord_self]
          go_wp2_with fail
          refine (HC13.out _).mono ?_
          rintro e wl ⟨rfl, hBl⟩
          have HBl := Lib.hid (HBW3.out.next (HBr.out.next hBl))
          clear hBl
          go_wp2_with fail
          go_ret
          exact ⟨rfl, HBl.out⟩
      · have hix := idx2 (.int .i64 k0x) (.string tyx) (.int .u64 b0x) (.int .u64 i0x) (.string txx) (.slice a5x n5x c5x) (.slice a6x n6x c6x) (.int .i64 h0x) (.int .i64 k0y) (.string tyy) (.int .u64 b0y) (.int .u64 i0y) (.string txy) (.slice a5y n5y c5y) (.slice a6y n6y c6y) (.int .i64 h0y) (.int .i64 k0z) (.string tyz) (.int .u64 b0z) (.int .u64 i0z) (.string txz) (.slice a5z n5z c5z) (.slice a6z n6z c6z) (.int .i64 h0z)
        rcases kind_ways k0z with hk | ⟨hk, hw⟩ | ⟨hk, hw, hs⟩ | ⟨hk, hw, hs⟩
        · subst hk
          have HKK : Hid (keyK 1 = true) := Lib.hid rfl
          go_wp2_with fail
          go_roundw
          case rel => exact ⟨3, by omega, by go_num, ⟨fun _ => HRec.out.1 (by omega), fun _ => HRec.out.2.1 (by omega), fun _ => HKK.out⟩, HB.out.push _⟩
          case measure => simp [intOf]
        · have HKK : Hid (keyK k0z = true) := Lib.hid (by simp [inB] at hw; simp [keyK]; omega)
          have HW := Lib.hid hw
          clear hw
          go_wp2_with fail
          refine (whole_any _ _).mono ?_
          rintro e wq ⟨rfl, rfl⟩
          rw [HW.out]
          go_wp2_with fail
          go_roundw
          case rel => exact ⟨3, by omega, by go_num, ⟨fun _ => HRec.out.1 (by omega), fun _ => HRec.out.2.1 (by omega), fun _ => HKK.out⟩, HB.out.push _⟩
          case measure => simp [intOf]
        · subst hs
          have HKK : Hid (keyK 16 = true) := Lib.hid rfl
          have HW := Lib.hid hw
          clear hw
          go_wp2_with fail
          refine (whole_any _ _).mono ?_
          rintro e wq ⟨rfl, rfl⟩
          rw [HW.out]
          go_wp2_with fail
          go_roundw
          case rel => exact ⟨3, by omega, by go_num, ⟨fun _ => HRec.out.1 (by omega), fun _ => HRec.out.2.1 (by omega), fun _ => HKK.out⟩, HB.out.push _⟩
          case measure => simp [intOf]
        · have HW := Lib.hid hw
          have hb1 : (k0z != 1) = true := by simpa using hk
          have hb2 : (k0z != 16) = true := by simpa using hs
          clear hw hk hs
          go_wp2_with fail
          refine (whole_any _ _).mono ?_
          rintro e wq ⟨rfl, rfl⟩
          rw [HW.out]
          go_wp2_with fail
          refine (HC21.out _ _ _ _ _ HVX.out HVX.out HFx.out.1 HFx.out.1 (HB.out.push _)).mono ?_
          rintro e wr ⟨rfl, hBr⟩
          have HBr := Lib.hid ((HB.out.push _).next hBr)
          clear hBr
          rw [ord_self]
          go_wp2_with fail
          refine (HC13.out _).mono ?_
          rintro e wl ⟨rfl, hBl⟩
          have HBl := Lib.hid (HBW3.out.next (HBr.out.next hBl))
          clear hBl
          go_wp2_with fail
          go_ret
          exact ⟨rfl, HBl.out⟩
      · go_wp2_with fail
        refine (HC21.out _ _ _ _ _ HVX.out HVY.out HFx.out.1 HFy.out.1 HB.out).mono ?_
        rintro e wa ⟨rfl, hBa⟩
        have HBa := Lib.hid (HB.out.next hBa)
        clear hBa
        go_wp2_with fail
        refine (HC21.out _ _ _ _ _ HVY.out HVZ.out HFy.out.1 HFz.out.1 HBa.out).mono ?_
        rintro e wb ⟨rfl, hBb⟩
        have HBb := Lib.hid (HBa.out.next hBb)
        clear hBb
        go_wp2_with fail
        refine (HC21.out _ _ _ _ _ HVX.out HVZ.out HFx.out.1 HFz.out.1 HBb.out).mono ?_
        rintro e wc ⟨rfl, hBc⟩
        have HBc := Lib.hid (HBb.out.next hBc)
        clear hBc
        go_upto_region 13 with fail
        obtain ⟨z0, z1, z2, z3, z4, z5, z6, z7, _⟩ := HBx3.out.below HBc.out
        obtain ⟨y0, y1, y2, y3, y4, y5, y6, y7, _⟩ := HBy3.out.below HBc.out
        have HKX := Lib.hid (key_of HFx.out.1 (by rw [← HKx.out]; exact HRec.out.1 (by omega)))
        have HKY := Lib.hid (key_of HFy.out.1 (by rw [← HKy.out]; exact HRec.out.2.1 (by omega)))
        have HKZ := Lib.hid (key_of HFz.out.1 (by rw [← HKz.out]; exact HRec.out.2.2 (by omega)))
        have HZ := Lib.hid (ord_zero HFx.out.1 HFy.out.1 (by rw [← HKx.out]; exact HRec.out.1 (by omega)) (by rw [← HKy.out]; exact HRec.out.2.1 (by omega)) HFx.out.2 HFy.out.2)
        have HMin := Lib.hid (ord_min HKX.out HKY.out HKZ.out)
        have HC21r : Hid (∀ W, Below wc.heap.size wc W → Calls Try.prog 21 #[v', v] W fun e w' => e = .returned (.int .i64 (-ordV x y)) ∧ Below W.heap.size W w') := by
          intro W hW
          rw [← ord_anti HKX.out HKY.out]
          exact HC21.out _ _ _ _ _ HVY.out HVX.out HFy.out.1 HFx.out.1 (HBc.out.next hW)
        have HC24x : Hid (∀ W, Below wc.heap.size wc W → Calls Try.prog 24 #[.agg #[.int .i64 k0x, .string tyx, .int .u64 b0x, .int .u64 i0x, .string txx, .slice a5x n5x c5x, .slice a6x n6x c6x, .int .i64 h0x]] W (UnhPost W (rawV x))) := fun W hW => unhooked_any (HDX.out.later (HBc.out.next hW))
        have HC24y : Hid (∀ W, Below wc.heap.size wc W → Calls Try.prog 24 #[.agg #[.int .i64 k0y, .string tyy, .int .u64 b0y, .int .u64 i0y, .string txy, .slice a5y n5y c5y, .slice a6y n6y c6y, .int .i64 h0y]] W (UnhPost W (rawV y))) := fun W hW => unhooked_any (HDY.out.later (HBc.out.next hW))
        have hv3 := ordV_vals x z
        have HV1 := Lib.hid (ordV_vals x y)
        have HV2 := Lib.hid (ordV_vals y z)
        obtain ⟨c3, hc3⟩ : ∃ c, ordV x z = c := ⟨_, rfl⟩
        rw [hc3] at HMin hv3 ⊢
        clear hc3 hv3
        have HBWc := Lib.hid (HBW3.out.next HBc.out)
        have HBW : Below wc.heap.size wc wc.drew := (Below.refl _ _).drew
        rcases HV1.out with hc | hc | hc
        · rw [hc] at HC21r HZ HMin
          have HC16 : Hid (∀ W a b, IsD W a (unhD (rawV x)) → IsD W b (unhD (rawV y)) → Calls Try.prog 16 #[a, b] W fun e w' => e = .returned (.bool false) ∧ Below W.heap.size W w') := by
            intro W a b ha hb
            refine (same_any _ _ W a b ha hb).mono fun e w' h => ?_
            rw [← sameD_false (fun h => by have := HZ.out.2 h; omega)]
            exact h
          try rw [hc]
          refine late_begin [] (fun _ => True) (fun w' => w'.cell? ⟨w1.heap.size, 0, none⟩ = some (.int .i64 k0x) ∧ w'.cell? ⟨w1.heap.size, 1, none⟩ = some (.string tyx) ∧ w'.cell? ⟨w1.heap.size, 2, none⟩ = some (.int .u64 b0x) ∧ w'.cell? ⟨w1.heap.size, 3, none⟩ = some (.int .u64 i0x) ∧ w'.cell? ⟨w1.heap.size, 4, none⟩ = some (.string txx) ∧ w'.cell? ⟨w1.heap.size, 5, none⟩ = some (.slice a5x n5x c5x) ∧ w'.cell? ⟨w1.heap.size, 6, none⟩ = some (.slice a6x n6x c6x) ∧ w'.cell? ⟨w1.heap.size, 7, none⟩ = some (.int .i64 h0x) ∧ w'.cell? ⟨w2.heap.size, 0, none⟩ = some (.int .i64 k0y) ∧ w'.cell? ⟨w2.heap.size, 1, none⟩ = some (.string tyy) ∧ w'.cell? ⟨w2.heap.size, 2, none⟩ = some (.int .u64 b0y) ∧ w'.cell? ⟨w2.heap.size, 3, none⟩ = some (.int .u64 i0y) ∧ w'.cell? ⟨w2.heap.size, 4, none⟩ = some (.string txy) ∧ w'.cell? ⟨w2.heap.size, 5, none⟩ = some (.slice a5y n5y c5y) ∧ w'.cell? ⟨w2.heap.size, 6, none⟩ = some (.slice a6y n6y c6y) ∧ w'.cell? ⟨w2.heap.size, 7, none⟩ = some (.int .i64 h0y)) (by kernel_rfl) ?_
          refine late_take (i := 0) (v') false rfl (by kernel_rfl) (by kernel_rfl) (by kernel_rfl) (by kernel_rfl) (fun h => by cases h) (fun _ _ _ h => h) (by rfl) (fun W hS hT => ?_) (fun _ => trivial) ⟨z0, z1, z2, z3, z4, z5, z6, z7, y0, y1, y2, y3, y4, y5, y6, y7⟩ (fun h => by cases h) ?_
          · first | (go_simp; done) | (go_simp; with_reducible rfl) | rfl
          simp only [Act.put, List.getElem_toArray, List.getElem_cons_zero, List.getElem_cons_succ, List.setIfInBounds_toArray, List.set_cons_zero, List.set_cons_succ]
          refine late_take (i := 1) (v) false rfl (by kernel_rfl) (by kernel_rfl) (by kernel_rfl) (by kernel_rfl) (fun h => by cases h) (fun _ _ _ h => h) (by rfl) (fun W hS hT => ?_) (fun _ => trivial) ⟨z0, z1, z2, z3, z4, z5, z6, z7, y0, y1, y2, y3, y4, y5, y6, y7⟩ (fun h => by cases h) ?_
          · first | (go_simp; done) | (go_simp; with_reducible rfl) | rfl
          simp only [Act.put, List.getElem_toArray, List.getElem_cons_zero, List.getElem_cons_succ, List.setIfInBounds_toArray, List.set_cons_zero, List.set_cons_succ]
          refine late_take (i := 3) (.int .i64 (-1)) false rfl (by kernel_rfl) (by kernel_rfl) (by kernel_rfl) (by kernel_rfl) (fun h => by cases h) (fun _ _ _ h => h) (by rfl) (fun W hS hT => ?_) (fun _ => trivial) ⟨z0, z1, z2, z3, z4, z5, z6, z7, y0, y1, y2, y3, y4, y5, y6, y7⟩ (fun h => by cases h) ?_
          · first | (go_simp; done) | (go_simp; with_reducible rfl) | rfl
          simp only [Act.put, List.getElem_toArray, List.getElem_cons_zero, List.getElem_cons_succ, List.setIfInBounds_toArray, List.set_cons_zero, List.set_cons_succ]
          refine late_take (i := 4) (.int .i64 1) false rfl (by kernel_rfl) (by kernel_rfl) (by kernel_rfl) (by kernel_rfl) (fun h => by cases h) (fun _ _ _ h => h) (by rfl) (fun W hS hT => ?_) (fun _ => trivial) ⟨z0, z1, z2, z3, z4, z5, z6, z7, y0, y1, y2, y3, y4, y5, y6, y7⟩ (fun h => by cases h) ?_
          · first | (go_simp; done) | (go_simp; with_reducible rfl) | rfl
          simp only [Act.put, List.getElem_toArray, List.getElem_cons_zero, List.getElem_cons_succ, List.setIfInBounds_toArray, List.set_cons_zero, List.set_cons_succ]
          refine late_one 2 rfl (by kernel_rfl) (fun K hK => ?_)
          try simp only [List.getElem_toArray, List.getElem_cons_zero, List.getElem_cons_succ]
          rw [if_pos (by rfl)]
          go_simp
          refine (HC21r.out _ HBW).mono ?_
          rintro e wd ⟨rfl, hbN⟩
          (try go_simp)
          have z0 := cell_below hbN z0
          have z1 := cell_below hbN z1
          have z2 := cell_below hbN z2
          have z3 := cell_below hbN z3
          have z4 := cell_below hbN z4
          have z5 := cell_below hbN z5
          have z6 := cell_below hbN z6
          have z7 := cell_below hbN z7
          have y0 := cell_below hbN y0
          have y1 := cell_below hbN y1
          have y2 := cell_below hbN y2
          have y3 := cell_below hbN y3
          have y4 := cell_below hbN y4
          have y5 := cell_below hbN y5
          have y6 := cell_below hbN y6
          have y7 := cell_below hbN y7
          have HBW := HBW.next hbN
          refine hK _ _ (fun _ => trivial) ⟨z0, z1, z2, z3, z4, z5, z6, z7, y0, y1, y2, y3, y4, y5, y6, y7⟩ ?_
          clear hK K hbN
          try simp only [Act.put, List.getElem_toArray, List.getElem_cons_zero, List.getElem_cons_succ, List.setIfInBounds_toArray, List.set_cons_zero, List.set_cons_succ]
          refine late_take (i := 5) (.bool false) false rfl (by kernel_rfl) (by kernel_rfl) (by kernel_rfl) (by kernel_rfl) (fun h => by cases h) (fun _ _ _ h => h) (by rfl) (fun W hS hT => ?_) (fun _ => trivial) ⟨z0, z1, z2, z3, z4, z5, z6, z7, y0, y1, y2, y3, y4, y5, y6, y7⟩ (fun h => by cases h) ?_
          · first | (go_simp; done) | (go_simp; with_reducible rfl) | rfl
          simp only [Act.put, List.getElem_toArray, List.getElem_cons_zero, List.getElem_cons_succ, List.setIfInBounds_toArray, List.set_cons_zero, List.set_cons_succ]
          refine late_take (i := 6) (.bool false) false rfl (by kernel_rfl) (by kernel_rfl) (by kernel_rfl) (by kernel_rfl) (fun h => by cases h) (fun _ _ _ h => h) (by rfl) (fun W hS hT => ?_) (fun _ => trivial) ⟨z0, z1, z2, z3, z4, z5, z6, z7, y0, y1, y2, y3, y4, y5, y6, y7⟩ (fun h => by cases h) ?_
          · first | (go_simp; done) | (go_simp; with_reducible rfl) | rfl
          simp only [Act.put, List.getElem_toArray, List.getElem_cons_zero, List.getElem_cons_succ, List.setIfInBounds_toArray, List.set_cons_zero, List.set_cons_succ]
          refine late_take (i := 7) (.int .i64 (-1)) false rfl (by kernel_rfl) (by kernel_rfl) (by kernel_rfl) (by kernel_rfl) (fun h => by cases h) (fun _ _ _ h => h) (by rfl) (fun W hS hT => ?_) (fun _ => trivial) ⟨z0, z1, z2, z3, z4, z5, z6, z7, y0, y1, y2, y3, y4, y5, y6, y7⟩ (fun h => by cases h) ?_
          · first | (go_simp; done) | (go_simp; with_reducible rfl) | rfl
          simp only [Act.put, List.getElem_toArray, List.getElem_cons_zero, List.getElem_cons_succ, List.setIfInBounds_toArray, List.set_cons_zero, List.set_cons_succ]
          refine late_take (i := 8) (.bool false) false rfl (by kernel_rfl) (by kernel_rfl) (by kernel_rfl) (by kernel_rfl) (fun h => by cases h) (fun _ _ _ h => h) (by rfl) (fun W hS hT => ?_) (fun _ => trivial) ⟨z0, z1, z2, z3, z4, z5, z6, z7, y0, y1, y2, y3, y4, y5, y6, y7⟩ (fun h => by cases h) ?_
          · first | (go_simp; done) | (go_simp; with_reducible rfl) | rfl
          simp only [Act.put, List.getElem_toArray, List.getElem_cons_zero, List.getElem_cons_succ, List.setIfInBounds_toArray, List.set_cons_zero, List.set_cons_succ]
          refine late_take (i := 9) (.agg #[.int .i64 k0x, .string tyx, .int .u64 b0x, .int .u64 i0x, .string txx, .slice a5x n5x c5x, .slice a6x n6x c6x, .int .i64 h0x]) false rfl (by kernel_rfl) (by kernel_rfl) (by kernel_rfl) (by kernel_rfl) (fun h => by cases h) (fun _ _ _ h => h) (by rfl) (fun W hS hT => ?_) (fun _ => trivial) ⟨z0, z1, z2, z3, z4, z5, z6, z7, y0, y1, y2, y3, y4, y5, y6, y7⟩ (fun h => by cases h) ?_
          · (obtain ⟨x0, x1, x2, x3, x4, x5, x6, x7, x8, x9, x10, x11, x12, x13, x14, x15⟩ := hT; first | (go_simp; done) | (go_simp; with_reducible rfl))
          simp only [Act.put, List.getElem_toArray, List.getElem_cons_zero, List.getElem_cons_succ, List.setIfInBounds_toArray, List.set_cons_zero, List.set_cons_succ]
          refine late_take (i := 11) (.agg #[.int .i64 k0y, .string tyy, .int .u64 b0y, .int .u64 i0y, .string txy, .slice a5y n5y c5y, .slice a6y n6y c6y, .int .i64 h0y]) false rfl (by kernel_rfl) (by kernel_rfl) (by kernel_rfl) (by kernel_rfl) (fun h => by cases h) (fun _ _ _ h => h) (by rfl) (fun W hS hT => ?_) (fun _ => trivial) ⟨z0, z1, z2, z3, z4, z5, z6, z7, y0, y1, y2, y3, y4, y5, y6, y7⟩ (fun h => by cases h) ?_
          · (obtain ⟨x0, x1, x2, x3, x4, x5, x6, x7, x8, x9, x10, x11, x12, x13, x14, x15⟩ := hT; first | (go_simp; done) | (go_simp; with_reducible rfl))
          simp only [Act.put, List.getElem_toArray, List.getElem_cons_zero, List.getElem_cons_succ, List.setIfInBounds_toArray, List.set_cons_zero, List.set_cons_succ]
          refine late_one 10 rfl (by kernel_rfl) (fun K hK => ?_)
          try simp only [List.getElem_toArray, List.getElem_cons_zero, List.getElem_cons_succ]
          rw [if_pos (by rfl)]
          go_simp
          refine (HC24x.out _ HBW).mono ?_
          rintro e we ⟨hbN, k0p, typ, b0p, i0p, txp, a5p, n5p, c5p, a6p, n6p, c6p, h0p, rfl, hdp⟩
          (try go_simp)
          have z0 := cell_below hbN z0
          have z1 := cell_below hbN z1
          have z2 := cell_below hbN z2
          have z3 := cell_below hbN z3
          have z4 := cell_below hbN z4
          have z5 := cell_below hbN z5
          have z6 := cell_below hbN z6
          have z7 := cell_below hbN z7
          have y0 := cell_below hbN y0
          have y1 := cell_below hbN y1
          have y2 := cell_below hbN y2
          have y3 := cell_below hbN y3
          have y4 := cell_below hbN y4
          have y5 := cell_below hbN y5
          have y6 := cell_below hbN y6
          have y7 := cell_below hbN y7
          have HBW := HBW.next hbN
          have HDP := Lib.hid hdp
          clear hdp
          refine hK _ _ (fun _ => trivial) ⟨z0, z1, z2, z3, z4, z5, z6, z7, y0, y1, y2, y3, y4, y5, y6, y7⟩ ?_
          clear hK K hbN
          try simp only [Act.put, List.getElem_toArray, List.getElem_cons_zero, List.getElem_cons_succ, List.setIfInBounds_toArray, List.set_cons_zero, List.set_cons_succ]
          refine late_one 12 rfl (by kernel_rfl) (fun K hK => ?_)
          try simp only [List.getElem_toArray, List.getElem_cons_zero, List.getElem_cons_succ]
          rw [if_pos (by rfl)]
          go_simp
          refine (HC24y.out _ HBW).mono ?_
          rintro e wf ⟨hbN, k0q, tyq, b0q, i0q, txq, a5q, n5q, c5q, a6q, n6q, c6q, h0q, rfl, hdq⟩
          (try go_simp)
          have z0 := cell_below hbN z0
          have z1 := cell_below hbN z1
          have z2 := cell_below hbN z2
          have z3 := cell_below hbN z3
          have z4 := cell_below hbN z4
          have z5 := cell_below hbN z5
          have z6 := cell_below hbN z6
          have z7 := cell_below hbN z7
          have y0 := cell_below hbN y0
          have y1 := cell_below hbN y1
          have y2 := cell_below hbN y2
          have y3 := cell_below hbN y3
          have y4 := cell_below hbN y4
          have y5 := cell_below hbN y5
          have y6 := cell_below hbN y6
          have y7 := cell_below hbN y7
          have HBW := HBW.next hbN
          have HDP := Lib.hid (HDP.out.later hbN)
          have HDQ := Lib.hid hdq
          clear hdq
          refine hK _ _ (fun _ => trivial) ⟨z0, z1, z2, z3, z4, z5, z6, z7, y0, y1, y2, y3, y4, y5, y6, y7⟩ ?_
          clear hK K hbN
          try simp only [Act.put, List.getElem_toArray, List.getElem_cons_zero, List.getElem_cons_succ, List.setIfInBounds_toArray, List.set_cons_zero, List.set_cons_succ]
          refine late_one 13 rfl (by kernel_rfl) (fun K hK => ?_)
          try simp only [List.getElem_toArray, List.getElem_cons_zero, List.getElem_cons_succ]
          rw [if_pos (by rfl)]
          go_simp
          refine (HC16.out _ _ _ HDP.out HDQ.out).mono ?_
          rintro e wg ⟨rfl, hbN⟩
          (try go_simp)
          have z0 := cell_below hbN z0
          have z1 := cell_below hbN z1
          have z2 := cell_below hbN z2
          have z3 := cell_below hbN z3
          have z4 := cell_below hbN z4
          have z5 := cell_below hbN z5
          have z6 := cell_below hbN z6
          have z7 := cell_below hbN z7
          have y0 := cell_below hbN y0
          have y1 := cell_below hbN y1
          have y2 := cell_below hbN y2
          have y3 := cell_below hbN y3
          have y4 := cell_below hbN y4
          have y5 := cell_below hbN y5
          have y6 := cell_below hbN y6
          have y7 := cell_below hbN y7
          have HBW := HBW.next hbN
          refine hK _ _ (fun _ => trivial) ⟨z0, z1, z2, z3, z4, z5, z6, z7, y0, y1, y2, y3, y4, y5, y6, y7⟩ ?_
          clear hK K hbN
          try simp only [Act.put, List.getElem_toArray, List.getElem_cons_zero, List.getElem_cons_succ, List.setIfInBounds_toArray, List.set_cons_zero, List.set_cons_succ]
          refine late_take (i := 14) (.bool false) false rfl (by kernel_rfl) (by kernel_rfl) (by kernel_rfl) (by kernel_rfl) (fun h => by cases h) (fun _ _ _ h => h) (by rfl) (fun W hS hT => ?_) (fun _ => trivial) ⟨z0, z1, z2, z3, z4, z5, z6, z7, y0, y1, y2, y3, y4, y5, y6, y7⟩ (fun h => by cases h) ?_
          · first | (go_simp; done) | (go_simp; with_reducible rfl) | rfl
          simp only [Act.put, List.getElem_toArray, List.getElem_cons_zero, List.getElem_cons_succ, List.setIfInBounds_toArray, List.set_cons_zero, List.set_cons_succ]
          refine late_take (i := 15) (.bool false) false rfl (by kernel_rfl) (by kernel_rfl) (by kernel_rfl) (by kernel_rfl) (fun h => by cases h) (fun _ _ _ h => h) (by rfl) (fun W hS hT => ?_) (fun _ => trivial) ⟨z0, z1, z2, z3, z4, z5, z6, z7, y0, y1, y2, y3, y4, y5, y6, y7⟩ (fun h => by cases h) ?_
          · first | (go_simp; done) | (go_simp; with_reducible rfl) | rfl
          simp only [Act.put, List.getElem_toArray, List.getElem_cons_zero, List.getElem_cons_succ, List.setIfInBounds_toArray, List.set_cons_zero, List.set_cons_succ]
          refine late_done (by kernel_rfl) ?_ _
          rcases HV2.out with hd | hd | hd
          · rw [hd] at HMin ⊢
            obtain rfl : c3 = -1 := by have := HMin.out (by omega) (by omega); omega
            have HBf := Lib.hid (HBWc.out.next HBW)
            go_wp2_with fail
            refine (lives_any _).mono ?_
            rintro e wl ⟨rfl, hBl⟩
            have HBl := Lib.hid (HBf.out.next hBl)
            clear hBl
            go_wp2_with fail
            go_ret
            exact ⟨rfl, HBl.out⟩
          · rw [hd] at HMin ⊢
            obtain rfl : c3 = -1 := by have := HMin.out (by omega) (by omega); omega
            have HBf := Lib.hid (HBWc.out.next HBW)
            go_wp2_with fail
            refine (lives_any _).mono ?_
            rintro e wl ⟨rfl, hBl⟩
            have HBl := Lib.hid (HBf.out.next hBl)
            clear hBl
            go_wp2_with fail
            go_ret
            exact ⟨rfl, HBl.out⟩
          · rw [hd] at HMin ⊢
            have HBf := Lib.hid (HBWc.out.next HBW)
            go_wp2_with fail
            refine (lives_any _).mono ?_
            rintro e wl ⟨rfl, hBl⟩
            have HBl := Lib.hid (HBf.out.next hBl)
            clear hBl
            go_wp2_with fail
            go_ret
            exact ⟨rfl, HBl.out⟩
        · rw [hc] at HC21r HZ HMin
          have HC16 : Hid (∀ W a b, IsD W a (unhD (rawV x)) → IsD W b (unhD (rawV y)) → Calls Try.prog 16 #[a, b] W fun e w' => e = .returned (.bool true) ∧ Below W.heap.size W w') := by
            intro W a b ha hb
            refine (same_any _ _ W a b ha hb).mono fun e w' h => ?_
            rw [← sameD_true (HZ.out.1 rfl)]
            exact h
          try rw [hc]
          refine late_begin [] (fun _ => True) (fun w' => w'.cell? ⟨w1.heap.size, 0, none⟩ = some (.int .i64 k0x) ∧ w'.cell? ⟨w1.heap.size, 1, none⟩ = some (.string tyx) ∧ w'.cell? ⟨w1.heap.size, 2, none⟩ = some (.int .u64 b0x) ∧ w'.cell? ⟨w1.heap.size, 3, none⟩ = some (.int .u64 i0x) ∧ w'.cell? ⟨w1.heap.size, 4, none⟩ = some (.string txx) ∧ w'.cell? ⟨w1.heap.size, 5, none⟩ = some (.slice a5x n5x c5x) ∧ w'.cell? ⟨w1.heap.size, 6, none⟩ = some (.slice a6x n6x c6x) ∧ w'.cell? ⟨w1.heap.size, 7, none⟩ = some (.int .i64 h0x) ∧ w'.cell? ⟨w2.heap.size, 0, none⟩ = some (.int .i64 k0y) ∧ w'.cell? ⟨w2.heap.size, 1, none⟩ = some (.string tyy) ∧ w'.cell? ⟨w2.heap.size, 2, none⟩ = some (.int .u64 b0y) ∧ w'.cell? ⟨w2.heap.size, 3, none⟩ = some (.int .u64 i0y) ∧ w'.cell? ⟨w2.heap.size, 4, none⟩ = some (.string txy) ∧ w'.cell? ⟨w2.heap.size, 5, none⟩ = some (.slice a5y n5y c5y) ∧ w'.cell? ⟨w2.heap.size, 6, none⟩ = some (.slice a6y n6y c6y) ∧ w'.cell? ⟨w2.heap.size, 7, none⟩ = some (.int .i64 h0y)) (by kernel_rfl) ?_
          refine late_take (i := 0) (v') false rfl (by kernel_rfl) (by kernel_rfl) (by kernel_rfl) (by kernel_rfl) (fun h => by cases h) (fun _ _ _ h => h) (by rfl) (fun W hS hT => ?_) (fun _ => trivial) ⟨z0, z1, z2, z3, z4, z5, z6, z7, y0, y1, y2, y3, y4, y5, y6, y7⟩ (fun h => by cases h) ?_
          · first | (go_simp; done) | (go_simp; with_reducible rfl) | rfl
          simp only [Act.put, List.getElem_toArray, List.getElem_cons_zero, List.getElem_cons_succ, List.setIfInBounds_toArray, List.set_cons_zero, List.set_cons_succ]
          refine late_take (i := 1) (v) false rfl (by kernel_rfl) (by kernel_rfl) (by kernel_rfl) (by kernel_rfl) (fun h => by cases h) (fun _ _ _ h => h) (by rfl) (fun W hS hT => ?_) (fun _ => trivial) ⟨z0, z1, z2, z3, z4, z5, z6, z7, y0, y1, y2, y3, y4, y5, y6, y7⟩ (fun h => by cases h) ?_
          · first | (go_simp; done) | (go_simp; with_reducible rfl) | rfl
          simp only [Act.put, List.getElem_toArray, List.getElem_cons_zero, List.getElem_cons_succ, List.setIfInBounds_toArray, List.set_cons_zero, List.set_cons_succ]
          refine late_take (i := 3) (.int .i64 0) false rfl (by kernel_rfl) (by kernel_rfl) (by kernel_rfl) (by kernel_rfl) (fun h => by cases h) (fun _ _ _ h => h) (by rfl) (fun W hS hT => ?_) (fun _ => trivial) ⟨z0, z1, z2, z3, z4, z5, z6, z7, y0, y1, y2, y3, y4, y5, y6, y7⟩ (fun h => by cases h) ?_
          · first | (go_simp; done) | (go_simp; with_reducible rfl) | rfl
          simp only [Act.put, List.getElem_toArray, List.getElem_cons_zero, List.getElem_cons_succ, List.setIfInBounds_toArray, List.set_cons_zero, List.set_cons_succ]
          refine late_take (i := 4) (.int .i64 0) false rfl (by kernel_rfl) (by kernel_rfl) (by kernel_rfl) (by kernel_rfl) (fun h => by cases h) (fun _ _ _ h => h) (by rfl) (fun W hS hT => ?_) (fun _ => trivial) ⟨z0, z1, z2, z3, z4, z5, z6, z7, y0, y1, y2, y3, y4, y5, y6, y7⟩ (fun h => by cases h) ?_
          · first | (go_simp; done) | (go_simp; with_reducible rfl) | rfl
          simp only [Act.put, List.getElem_toArray, List.getElem_cons_zero, List.getElem_cons_succ, List.setIfInBounds_toArray, List.set_cons_zero, List.set_cons_succ]
          refine late_one 2 rfl (by kernel_rfl) (fun K hK => ?_)
          try simp only [List.getElem_toArray, List.getElem_cons_zero, List.getElem_cons_succ]
          rw [if_pos (by rfl)]
          go_simp
          refine (HC21r.out _ HBW).mono ?_
          rintro e wd ⟨rfl, hbN⟩
          (try go_simp)
          have z0 := cell_below hbN z0
          have z1 := cell_below hbN z1
          have z2 := cell_below hbN z2
          have z3 := cell_below hbN z3
          have z4 := cell_below hbN z4
          have z5 := cell_below hbN z5
          have z6 := cell_below hbN z6
          have z7 := cell_below hbN z7
          have y0 := cell_below hbN y0
          have y1 := cell_below hbN y1
          have y2 := cell_below hbN y2
          have y3 := cell_below hbN y3
          have y4 := cell_below hbN y4
          have y5 := cell_below hbN y5
          have y6 := cell_below hbN y6
          have y7 := cell_below hbN y7
          have HBW := HBW.next hbN
          refine hK _ _ (fun _ => trivial) ⟨z0, z1, z2, z3, z4, z5, z6, z7, y0, y1, y2, y3, y4, y5, y6, y7⟩ ?_
          clear hK K hbN
          try simp only [Act.put, List.getElem_toArray, List.getElem_cons_zero, List.getElem_cons_succ, List.setIfInBounds_toArray, List.set_cons_zero, List.set_cons_succ]
          refine late_take (i := 5) (.bool false) false rfl (by kernel_rfl) (by kernel_rfl) (by kernel_rfl) (by kernel_rfl) (fun h => by cases h) (fun _ _ _ h => h) (by rfl) (fun W hS hT => ?_) (fun _ => trivial) ⟨z0, z1, z2, z3, z4, z5, z6, z7, y0, y1, y2, y3, y4, y5, y6, y7⟩ (fun h => by cases h) ?_
          · first | (go_simp; done) | (go_simp; with_reducible rfl) | rfl
          simp only [Act.put, List.getElem_toArray, List.getElem_cons_zero, List.getElem_cons_succ, List.setIfInBounds_toArray, List.set_cons_zero, List.set_cons_succ]
          refine late_take (i := 6) (.bool false) false rfl (by kernel_rfl) (by kernel_rfl) (by kernel_rfl) (by kernel_rfl) (fun h => by cases h) (fun _ _ _ h => h) (by rfl) (fun W hS hT => ?_) (fun _ => trivial) ⟨z0, z1, z2, z3, z4, z5, z6, z7, y0, y1, y2, y3, y4, y5, y6, y7⟩ (fun h => by cases h) ?_
          · first | (go_simp; done) | (go_simp; with_reducible rfl) | rfl
          simp only [Act.put, List.getElem_toArray, List.getElem_cons_zero, List.getElem_cons_succ, List.setIfInBounds_toArray, List.set_cons_zero, List.set_cons_succ]
          refine late_take (i := 7) (.int .i64 0) false rfl (by kernel_rfl) (by kernel_rfl) (by kernel_rfl) (by kernel_rfl) (fun h => by cases h) (fun _ _ _ h => h) (by rfl) (fun W hS hT => ?_) (fun _ => trivial) ⟨z0, z1, z2, z3, z4, z5, z6, z7, y0, y1, y2, y3, y4, y5, y6, y7⟩ (fun h => by cases h) ?_
          · first | (go_simp; done) | (go_simp; with_reducible rfl) | rfl
          simp only [Act.put, List.getElem_toArray, List.getElem_cons_zero, List.getElem_cons_succ, List.setIfInBounds_toArray, List.set_cons_zero, List.set_cons_succ]
          refine late_take (i := 8) (.bool true) false rfl (by kernel_rfl) (by kernel_rfl) (by kernel_rfl) (by kernel_rfl) (fun h => by cases h) (fun _ _ _ h => h) (by rfl) (fun W hS hT => ?_) (fun _ => trivial) ⟨z0, z1, z2, z3, z4, z5, z6, z7, y0, y1, y2, y3, y4, y5, y6, y7⟩ (fun h => by cases h) ?_
          · first | (go_simp; done) | (go_simp; with_reducible rfl) | rfl
          simp only [Act.put, List.getElem_toArray, List.getElem_cons_zero, List.getElem_cons_succ, List.setIfInBounds_toArray, List.set_cons_zero, List.set_cons_succ]
          refine late_take (i := 9) (.agg #[.int .i64 k0x, .string tyx, .int .u64 b0x, .int .u64 i0x, .string txx, .slice a5x n5x c5x, .slice a6x n6x c6x, .int .i64 h0x]) false rfl (by kernel_rfl) (by kernel_rfl) (by kernel_rfl) (by kernel_rfl) (fun h => by cases h) (fun _ _ _ h => h) (by rfl) (fun W hS hT => ?_) (fun _ => trivial) ⟨z0, z1, z2, z3, z4, z5, z6, z7, y0, y1, y2, y3, y4, y5, y6, y7⟩ (fun h => by cases h) ?_
          · (obtain ⟨x0, x1, x2, x3, x4, x5, x6, x7, x8, x9, x10, x11, x12, x13, x14, x15⟩ := hT; first | (go_simp; done) | (go_simp; with_reducible rfl))
          simp only [Act.put, List.getElem_toArray, List.getElem_cons_zero, List.getElem_cons_succ, List.setIfInBounds_toArray, List.set_cons_zero, List.set_cons_succ]
          refine late_take (i := 11) (.agg #[.int .i64 k0y, .string tyy, .int .u64 b0y, .int .u64 i0y, .string txy, .slice a5y n5y c5y, .slice a6y n6y c6y, .int .i64 h0y]) false rfl (by kernel_rfl) (by kernel_rfl) (by kernel_rfl) (by kernel_rfl) (fun h => by cases h) (fun _ _ _ h => h) (by rfl) (fun W hS hT => ?_) (fun _ => trivial) ⟨z0, z1, z2, z3, z4, z5, z6, z7, y0, y1, y2, y3, y4, y5, y6, y7⟩ (fun h => by cases h) ?_
          · (obtain ⟨x0, x1, x2, x3, x4, x5, x6, x7, x8, x9, x10, x11, x12, x13, x14, x15⟩ := hT; first | (go_simp; done) | (go_simp; with_reducible rfl))
          simp only [Act.put, List.getElem_toArray, List.getElem_cons_zero, List.getElem_cons_succ, List.setIfInBounds_toArray, List.set_cons_zero, List.set_cons_succ]
          refine late_one 10 rfl (by kernel_rfl) (fun K hK => ?_)
          try simp only [List.getElem_toArray, List.getElem_cons_zero, List.getElem_cons_succ]
          rw [if_pos (by rfl)]
          go_simp
          refine (HC24x.out _ HBW).mono ?_
          rintro e we ⟨hbN, k0p, typ, b0p, i0p, txp, a5p, n5p, c5p, a6p, n6p, c6p, h0p, rfl, hdp⟩
          (try go_simp)
          have z0 := cell_below hbN z0
          have z1 := cell_below hbN z1
          have z2 := cell_below hbN z2
          have z3 := cell_below hbN z3
          have z4 := cell_below hbN z4
          have z5 := cell_below hbN z5
          have z6 := cell_below hbN z6
          have z7 := cell_below hbN z7
          have y0 := cell_below hbN y0
          have y1 := cell_below hbN y1
          have y2 := cell_below hbN y2
          have y3 := cell_below hbN y3
          have y4 := cell_below hbN y4
          have y5 := cell_below hbN y5
          have y6 := cell_below hbN y6
          have y7 := cell_below hbN y7
          have HBW := HBW.next hbN
          have HDP := Lib.hid hdp
          clear hdp
          refine hK _ _ (fun _ => trivial) ⟨z0, z1, z2, z3, z4, z5, z6, z7, y0, y1, y2, y3, y4, y5, y6, y7⟩ ?_
          clear hK K hbN
          try simp only [Act.put, List.getElem_toArray, List.getElem_cons_zero, List.getElem_cons_succ, List.setIfInBounds_toArray, List.set_cons_zero, List.set_cons_succ]
          refine late_one 12 rfl (by kernel_rfl) (fun K hK => ?_)
          try simp only [List.getElem_toArray, List.getElem_cons_zero, List.getElem_cons_succ]
          rw [if_pos (by rfl)]
          go_simp
          refine (HC24y.out _ HBW).mono ?_
          rintro e wf ⟨hbN, k0q, tyq, b0q, i0q, txq, a5q, n5q, c5q, a6q, n6q, c6q, h0q, rfl, hdq⟩
          (try go_simp)
          have z0 := cell_below hbN z0
          have z1 := cell_below hbN z1
          have z2 := cell_below hbN z2
          have z3 := cell_below hbN z3
          have z4 := cell_below hbN z4
          have z5 := cell_below hbN z5
          have z6 := cell_below hbN z6
          have z7 := cell_below hbN z7
          have y0 := cell_below hbN y0
          have y1 := cell_below hbN y1
          have y2 := cell_below hbN y2
          have y3 := cell_below hbN y3
          have y4 := cell_below hbN y4
          have y5 := cell_below hbN y5
          have y6 := cell_below hbN y6
          have y7 := cell_below hbN y7
          have HBW := HBW.next hbN
          have HDP := Lib.hid (HDP.out.later hbN)
          have HDQ := Lib.hid hdq
          clear hdq
          refine hK _ _ (fun _ => trivial) ⟨z0, z1, z2, z3, z4, z5, z6, z7, y0, y1, y2, y3, y4, y5, y6, y7⟩ ?_
          clear hK K hbN
          try simp only [Act.put, List.getElem_toArray, List.getElem_cons_zero, List.getElem_cons_succ, List.setIfInBounds_toArray, List.set_cons_zero, List.set_cons_succ]
          refine late_one 13 rfl (by kernel_rfl) (fun K hK => ?_)
          try simp only [List.getElem_toArray, List.getElem_cons_zero, List.getElem_cons_succ]
          rw [if_pos (by rfl)]
          go_simp
          refine (HC16.out _ _ _ HDP.out HDQ.out).mono ?_
          rintro e wg ⟨rfl, hbN⟩
          (try go_simp)
          have z0 := cell_below hbN z0
          have z1 := cell_below hbN z1
          have z2 := cell_below hbN z2
          have z3 := cell_below hbN z3
          have z4 := cell_below hbN z4
          have z5 := cell_below hbN z5
          have z6 := cell_below hbN z6
          have z7 := cell_below hbN z7
          have y0 := cell_below hbN y0
          have y1 := cell_below hbN y1
          have y2 := cell_below hbN y2
          have y3 := cell_below hbN y3
          have y4 := cell_below hbN y4
          have y5 := cell_below hbN y5
          have y6 := cell_below hbN y6
          have y7 := cell_below hbN y7
          have HBW := HBW.next hbN
          refine hK _ _ (fun _ => trivial) ⟨z0, z1, z2, z3, z4, z5, z6, z7, y0, y1, y2, y3, y4, y5, y6, y7⟩ ?_
          clear hK K hbN
          try simp only [Act.put, List.getElem_toArray, List.getElem_cons_zero, List.getElem_cons_succ, List.setIfInBounds_toArray, List.set_cons_zero, List.set_cons_succ]
          refine late_take (i := 14) (.bool false) false rfl (by kernel_rfl) (by kernel_rfl) (by kernel_rfl) (by kernel_rfl) (fun h => by cases h) (fun _ _ _ h => h) (by rfl) (fun W hS hT => ?_) (fun _ => trivial) ⟨z0, z1, z2, z3, z4, z5, z6, z7, y0, y1, y2, y3, y4, y5, y6, y7⟩ (fun h => by cases h) ?_
          · first | (go_simp; done) | (go_simp; with_reducible rfl) | rfl
          simp only [Act.put, List.getElem_toArray, List.getElem_cons_zero, List.getElem_cons_succ, List.setIfInBounds_toArray, List.set_cons_zero, List.set_cons_succ]
          refine late_take (i := 15) (.bool false) false rfl (by kernel_rfl) (by kernel_rfl) (by kernel_rfl) (by kernel_rfl) (fun h => by cases h) (fun _ _ _ h => h) (by rfl) (fun W hS hT => ?_) (fun _ => trivial) ⟨z0, z1, z2, z3, z4, z5, z6, z7, y0, y1, y2, y3, y4, y5, y6, y7⟩ (fun h => by cases h) ?_
          · first | (go_simp; done) | (go_simp; with_reducible rfl) | rfl
          simp only [Act.put, List.getElem_toArray, List.getElem_cons_zero, List.getElem_cons_succ, List.setIfInBounds_toArray, List.set_cons_zero, List.set_cons_succ]
          refine late_done (by kernel_rfl) ?_ _
          rcases HV2.out with hd | hd | hd
          · rw [hd] at HMin ⊢
            obtain rfl : c3 = -1 := by have := HMin.out (by omega) (by omega); omega
            have HBf := Lib.hid (HBWc.out.next HBW)
            go_wp2_with fail
            refine (lives_any _).mono ?_
            rintro e wl ⟨rfl, hBl⟩
            have HBl := Lib.hid (HBf.out.next hBl)
            clear hBl
            go_wp2_with fail
            go_ret
            exact ⟨rfl, HBl.out⟩
          · rw [hd] at HMin ⊢
            obtain rfl : c3 = 0 := by have := HMin.out (by omega) (by omega); omega
            have HBf := Lib.hid (HBWc.out.next HBW)
            go_wp2_with fail
            refine (lives_any _).mono ?_
            rintro e wl ⟨rfl, hBl⟩
            have HBl := Lib.hid (HBf.out.next hBl)
            clear hBl
            go_wp2_with fail
            go_ret
            exact ⟨rfl, HBl.out⟩
          · rw [hd] at HMin ⊢
            have HBf := Lib.hid (HBWc.out.next HBW)
            go_wp2_with fail
            refine (lives_any _).mono ?_
            rintro e wl ⟨rfl, hBl⟩
            have HBl := Lib.hid (HBf.out.next hBl)
            clear hBl
            go_wp2_with fail
            go_ret
            exact ⟨rfl, HBl.out⟩
        · rw [hc] at HC21r HZ HMin
          have HC16 : Hid (∀ W a b, IsD W a (unhD (rawV x)) → IsD W b (unhD (rawV y)) → Calls Try.prog 16 #[a, b] W fun e w' => e = .returned (.bool false) ∧ Below W.heap.size W w') := by
            intro W a b ha hb
            refine (same_any _ _ W a b ha hb).mono fun e w' h => ?_
            rw [← sameD_false (fun h => by have := HZ.out.2 h; omega)]
            exact h
          try rw [hc]
          refine late_begin [] (fun _ => True) (fun w' => w'.cell? ⟨w1.heap.size, 0, none⟩ = some (.int .i64 k0x) ∧ w'.cell? ⟨w1.heap.size, 1, none⟩ = some (.string tyx) ∧ w'.cell? ⟨w1.heap.size, 2, none⟩ = some (.int .u64 b0x) ∧ w'.cell? ⟨w1.heap.size, 3, none⟩ = some (.int .u64 i0x) ∧ w'.cell? ⟨w1.heap.size, 4, none⟩ = some (.string txx) ∧ w'.cell? ⟨w1.heap.size, 5, none⟩ = some (.slice a5x n5x c5x) ∧ w'.cell? ⟨w1.heap.size, 6, none⟩ = some (.slice a6x n6x c6x) ∧ w'.cell? ⟨w1.heap.size, 7, none⟩ = some (.int .i64 h0x) ∧ w'.cell? ⟨w2.heap.size, 0, none⟩ = some (.int .i64 k0y) ∧ w'.cell? ⟨w2.heap.size, 1, none⟩ = some (.string tyy) ∧ w'.cell? ⟨w2.heap.size, 2, none⟩ = some (.int .u64 b0y) ∧ w'.cell? ⟨w2.heap.size, 3, none⟩ = some (.int .u64 i0y) ∧ w'.cell? ⟨w2.heap.size, 4, none⟩ = some (.string txy) ∧ w'.cell? ⟨w2.heap.size, 5, none⟩ = some (.slice a5y n5y c5y) ∧ w'.cell? ⟨w2.heap.size, 6, none⟩ = some (.slice a6y n6y c6y) ∧ w'.cell? ⟨w2.heap.size, 7, none⟩ = some (.int .i64 h0y)) (by kernel_rfl) ?_
          refine late_take (i := 0) (v') false rfl (by kernel_rfl) (by kernel_rfl) (by kernel_rfl) (by kernel_rfl) (fun h => by cases h) (fun _ _ _ h => h) (by rfl) (fun W hS hT => ?_) (fun _ => trivial) ⟨z0, z1, z2, z3, z4, z5, z6, z7, y0, y1, y2, y3, y4, y5, y6, y7⟩ (fun h => by cases h) ?_
          · first | (go_simp; done) | (go_simp; with_reducible rfl) | rfl
          simp only [Act.put, List.getElem_toArray, List.getElem_cons_zero, List.getElem_cons_succ, List.setIfInBounds_toArray, List.set_cons_zero, List.set_cons_succ]
          refine late_take (i := 1) (v) false rfl (by kernel_rfl) (by kernel_rfl) (by kernel_rfl) (by kernel_rfl) (fun h => by cases h) (fun _ _ _ h => h) (by rfl) (fun W hS hT => ?_) (fun _ => trivial) ⟨z0, z1, z2, z3, z4, z5, z6, z7, y0, y1, y2, y3, y4, y5, y6, y7⟩ (fun h => by cases h) ?_
          · first | (go_simp; done) | (go_simp; with_reducible rfl) | rfl
          simp only [Act.put, List.getElem_toArray, List.getElem_cons_zero, List.getElem_cons_succ, List.setIfInBounds_toArray, List.set_cons_zero, List.set_cons_succ]
          refine late_take (i := 3) (.int .i64 1) false rfl (by kernel_rfl) (by kernel_rfl) (by kernel_rfl) (by kernel_rfl) (fun h => by cases h) (fun _ _ _ h => h) (by rfl) (fun W hS hT => ?_) (fun _ => trivial) ⟨z0, z1, z2, z3, z4, z5, z6, z7, y0, y1, y2, y3, y4, y5, y6, y7⟩ (fun h => by cases h) ?_
          · first | (go_simp; done) | (go_simp; with_reducible rfl) | rfl
          simp only [Act.put, List.getElem_toArray, List.getElem_cons_zero, List.getElem_cons_succ, List.setIfInBounds_toArray, List.set_cons_zero, List.set_cons_succ]
          refine late_take (i := 4) (.int .i64 (-1)) false rfl (by kernel_rfl) (by kernel_rfl) (by kernel_rfl) (by kernel_rfl) (fun h => by cases h) (fun _ _ _ h => h) (by rfl) (fun W hS hT => ?_) (fun _ => trivial) ⟨z0, z1, z2, z3, z4, z5, z6, z7, y0, y1, y2, y3, y4, y5, y6, y7⟩ (fun h => by cases h) ?_
          · first | (go_simp; done) | (go_simp; with_reducible rfl) | rfl
          simp only [Act.put, List.getElem_toArray, List.getElem_cons_zero, List.getElem_cons_succ, List.setIfInBounds_toArray, List.set_cons_zero, List.set_cons_succ]
          refine late_one 2 rfl (by kernel_rfl) (fun K hK => ?_)
          try simp only [List.getElem_toArray, List.getElem_cons_zero, List.getElem_cons_succ]
          rw [if_pos (by rfl)]
          go_simp
          refine (HC21r.out _ HBW).mono ?_
          rintro e wd ⟨rfl, hbN⟩
          (try go_simp)
          have z0 := cell_below hbN z0
          have z1 := cell_below hbN z1
          have z2 := cell_below hbN z2
          have z3 := cell_below hbN z3
          have z4 := cell_below hbN z4
          have z5 := cell_below hbN z5
          have z6 := cell_below hbN z6
          have z7 := cell_below hbN z7
          have y0 := cell_below hbN y0
          have y1 := cell_below hbN y1
          have y2 := cell_below hbN y2
          have y3 := cell_below hbN y3
          have y4 := cell_below hbN y4
          have y5 := cell_below hbN y5
          have y6 := cell_below hbN y6
          have y7 := cell_below hbN y7
          have HBW := HBW.next hbN
          refine hK _ _ (fun _ => trivial) ⟨z0, z1, z2, z3, z4, z5, z6, z7, y0, y1, y2, y3, y4, y5, y6, y7⟩ ?_
          clear hK K hbN
          try simp only [Act.put, List.getElem_toArray, List.getElem_cons_zero, List.getElem_cons_succ, List.setIfInBounds_toArray, List.set_cons_zero, List.set_cons_succ]
          refine late_take (i := 5) (.bool false) false rfl (by kernel_rfl) (by kernel_rfl) (by kernel_rfl) (by kernel_rfl) (fun h => by cases h) (fun _ _ _ h => h) (by rfl) (fun W hS hT => ?_) (fun _ => trivial) ⟨z0, z1, z2, z3, z4, z5, z6, z7, y0, y1, y2, y3, y4, y5, y6, y7⟩ (fun h => by cases h) ?_
          · first | (go_simp; done) | (go_simp; with_reducible rfl) | rfl
          simp only [Act.put, List.getElem_toArray, List.getElem_cons_zero, List.getElem_cons_succ, List.setIfInBounds_toArray, List.set_cons_zero, List.set_cons_succ]
          refine late_take (i := 6) (.bool false) false rfl (by kernel_rfl) (by kernel_rfl) (by kernel_rfl) (by kernel_rfl) (fun h => by cases h) (fun _ _ _ h => h) (by rfl) (fun W hS hT => ?_) (fun _ => trivial) ⟨z0, z1, z2, z3, z4, z5, z6, z7, y0, y1, y2, y3, y4, y5, y6, y7⟩ (fun h => by cases h) ?_
          · first | (go_simp; done) | (go_simp; with_reducible rfl) | rfl
          simp only [Act.put, List.getElem_toArray, List.getElem_cons_zero, List.getElem_cons_succ, List.setIfInBounds_toArray, List.set_cons_zero, List.set_cons_succ]
          refine late_take (i := 7) (.int .i64 1) false rfl (by kernel_rfl) (by kernel_rfl) (by kernel_rfl) (by kernel_rfl) (fun h => by cases h) (fun _ _ _ h => h) (by rfl) (fun W hS hT => ?_) (fun _ => trivial) ⟨z0, z1, z2, z3, z4, z5, z6, z7, y0, y1, y2, y3, y4, y5, y6, y7⟩ (fun h => by cases h) ?_
          · first | (go_simp; done) | (go_simp; with_reducible rfl) | rfl
          simp only [Act.put, List.getElem_toArray, List.getElem_cons_zero, List.getElem_cons_succ, List.setIfInBounds_toArray, List.set_cons_zero, List.set_cons_succ]
          refine late_take (i := 8) (.bool false) false rfl (by kernel_rfl) (by kernel_rfl) (by kernel_rfl) (by kernel_rfl) (fun h => by cases h) (fun _ _ _ h => h) (by rfl) (fun W hS hT => ?_) (fun _ => trivial) ⟨z0, z1, z2, z3, z4, z5, z6, z7, y0, y1, y2, y3, y4, y5, y6, y7⟩ (fun h => by cases h) ?_
          · first | (go_simp; done) | (go_simp; with_reducible rfl) | rfl
          simp only [Act.put, List.getElem_toArray, List.getElem_cons_zero, List.getElem_cons_succ, List.setIfInBounds_toArray, List.set_cons_zero, List.set_cons_succ]
          refine late_take (i := 9) (.agg #[.int .i64 k0x, .string tyx, .int .u64 b0x, .int .u64 i0x, .string txx, .slice a5x n5x c5x, .slice a6x n6x c6x, .int .i64 h0x]) false rfl (by kernel_rfl) (by kernel_rfl) (by kernel_rfl) (by kernel_rfl) (fun h => by cases h) (fun _ _ _ h => h) (by rfl) (fun W hS hT => ?_) (fun _ => trivial) ⟨z0, z1, z2, z3, z4, z5, z6, z7, y0, y1, y2, y3, y4, y5, y6, y7⟩ (fun h => by cases h) ?_
          · (obtain ⟨x0, x1, x2, x3, x4, x5, x6, x7, x8, x9, x10, x11, x12, x13, x14, x15⟩ := hT; first | (go_simp; done) | (go_simp; with_reducible rfl))
          simp only [Act.put, List.getElem_toArray, List.getElem_cons_zero, List.getElem_cons_succ, List.setIfInBounds_toArray, List.set_cons_zero, List.set_cons_succ]
          refine late_take (i := 11) (.agg #[.int .i64 k0y, .string tyy, .int .u64 b0y, .int .u64 i0y, .string txy, .slice a5y n5y c5y, .slice a6y n6y c6y, .int .i64 h0y]) false rfl (by kernel_rfl) (by kernel_rfl) (by kernel_rfl) (by kernel_rfl) (fun h => by cases h) (fun _ _ _ h => h) (by rfl) (fun W hS hT => ?_) (fun _ => trivial) ⟨z0, z1, z2, z3, z4, z5, z6, z7, y0, y1, y2, y3, y4, y5, y6, y7⟩ (fun h => by cases h) ?_
          · (obtain ⟨x0, x1, x2, x3, x4, x5, x6, x7, x8, x9, x10, x11, x12, x13, x14, x15⟩ := hT; first | (go_simp; done) | (go_simp; with_reducible rfl))
          simp only [Act.put, List.getElem_toArray, List.getElem_cons_zero, List.getElem_cons_succ, List.setIfInBounds_toArray, List.set_cons_zero, List.set_cons_succ]
          refine late_one 10 rfl (by kernel_rfl) (fun K hK => ?_)
          try simp only [List.getElem_toArray, List.getElem_cons_zero, List.getElem_cons_succ]
          rw [if_pos (by rfl)]
          go_simp
          refine (HC24x.out _ HBW).mono ?_
          rintro e we ⟨hbN, k0p, typ, b0p, i0p, txp, a5p, n5p, c5p, a6p, n6p, c6p, h0p, rfl, hdp⟩
          (try go_simp)
          have z0 := cell_below hbN z0
          have z1 := cell_below hbN z1
          have z2 := cell_below hbN z2
          have z3 := cell_below hbN z3
          have z4 := cell_below hbN z4
          have z5 := cell_below hbN z5
          have z6 := cell_below hbN z6
          have z7 := cell_below hbN z7
          have y0 := cell_below hbN y0
          have y1 := cell_below hbN y1
          have y2 := cell_below hbN y2
          have y3 := cell_below hbN y3
          have y4 := cell_below hbN y4
          have y5 := cell_below hbN y5
          have y6 := cell_below hbN y6
          have y7 := cell_below hbN y7
          have HBW := HBW.next hbN
          have HDP := Lib.hid hdp
          clear hdp
          refine hK _ _ (fun _ => trivial) ⟨z0, z1, z2, z3, z4, z5, z6, z7, y0, y1, y2, y3, y4, y5, y6, y7⟩ ?_
          clear hK K hbN
          try simp only [Act.put, List.getElem_toArray, List.getElem_cons_zero, List.getElem_cons_succ, List.setIfInBounds_toArray, List.set_cons_zero, List.set_cons_succ]
          refine late_one 12 rfl (by kernel_rfl) (fun K hK => ?_)
          try simp only [List.getElem_toArray, List.getElem_cons_zero, List.getElem_cons_succ]
          rw [if_pos (by rfl)]
          go_simp
          refine (HC24y.out _ HBW).mono ?_
          rintro e wf ⟨hbN, k0q, tyq, b0q, i0q, txq, a5q, n5q, c5q, a6q, n6q, c6q, h0q, rfl, hdq⟩
          (try go_simp)
          have z0 := cell_below hbN z0
          have z1 := cell_below hbN z1
          have z2 := cell_below hbN z2
          have z3 := cell_below hbN z3
          have z4 := cell_below hbN z4
          have z5 := cell_below hbN z5
          have z6 := cell_below hbN z6
          have z7 := cell_below hbN z7
          have y0 := cell_below hbN y0
          have y1 := cell_below hbN y1
          have y2 := cell_below hbN y2
          have y3 := cell_below hbN y3
          have y4 := cell_below hbN y4
          have y5 := cell_below hbN y5
          have y6 := cell_below hbN y6
          have y7 := cell_below hbN y7
          have HBW := HBW.next hbN
          have HDP := Lib.hid (HDP.out.later hbN)
          have HDQ := Lib.hid hdq
          clear hdq
          refine hK _ _ (fun _ => trivial) ⟨z0, z1, z2, z3, z4, z5, z6, z7, y0, y1, y2, y3, y4, y5, y6, y7⟩ ?_
          clear hK K hbN
          try simp only [Act.put, List.getElem_toArray, List.getElem_cons_zero, List.getElem_cons_succ, List.setIfInBounds_toArray, List.set_cons_zero, List.set_cons_succ]
          refine late_one 13 rfl (by kernel_rfl) (fun K hK => ?_)
          try simp only [List.getElem_toArray, List.getElem_cons_zero, List.getElem_cons_succ]
          rw [if_pos (by rfl)]
          go_simp
          refine (HC16.out _ _ _ HDP.out HDQ.out).mono ?_
          rintro e wg ⟨rfl, hbN⟩
          (try go_simp)
          have z0 := cell_below hbN z0
          have z1 := cell_below hbN z1
          have z2 := cell_below hbN z2
          have z3 := cell_below hbN z3
          have z4 := cell_below hbN z4
          have z5 := cell_below hbN z5
          have z6 := cell_below hbN z6
          have z7 := cell_below hbN z7
          have y0 := cell_below hbN y0
          have y1 := cell_below hbN y1
          have y2 := cell_below hbN y2
          have y3 := cell_below hbN y3
          have y4 := cell_below hbN y4
          have y5 := cell_below hbN y5
          have y6 := cell_below hbN y6
          have y7 := cell_below hbN y7
          have HBW := HBW.next hbN
          refine hK _ _ (fun _ => trivial) ⟨z0, z1, z2, z3, z4, z5, z6, z7, y0, y1, y2, y3, y4, y5, y6, y7⟩ ?_
          clear hK K hbN
          try simp only [Act.put, List.getElem_toArray, List.getElem_cons_zero, List.getElem_cons_succ, List.setIfInBounds_toArray, List.set_cons_zero, List.set_cons_succ]
          refine late_take (i := 14) (.bool false) false rfl (by kernel_rfl) (by kernel_rfl) (by kernel_rfl) (by kernel_rfl) (fun h => by cases h) (fun _ _ _ h => h) (by rfl) (fun W hS hT => ?_) (fun _ => trivial) ⟨z0, z1, z2, z3, z4, z5, z6, z7, y0, y1, y2, y3, y4, y5, y6, y7⟩ (fun h => by cases h) ?_
          · first | (go_simp; done) | (go_simp; with_reducible rfl) | rfl
          simp only [Act.put, List.getElem_toArray, List.getElem_cons_zero, List.getElem_cons_succ, List.setIfInBounds_toArray, List.set_cons_zero, List.set_cons_succ]
          refine late_take (i := 15) (.bool false) false rfl (by kernel_rfl) (by kernel_rfl) (by kernel_rfl) (by kernel_rfl) (fun h => by cases h) (fun _ _ _ h => h) (by rfl) (fun W hS hT => ?_) (fun _ => trivial) ⟨z0, z1, z2, z3, z4, z5, z6, z7, y0, y1, y2, y3, y4, y5, y6, y7⟩ (fun h => by cases h) ?_
          · first | (go_simp; done) | (go_simp; with_reducible rfl) | rfl
          simp only [Act.put, List.getElem_toArray, List.getElem_cons_zero, List.getElem_cons_succ, List.setIfInBounds_toArray, List.set_cons_zero, List.set_cons_succ]
          refine late_done (by kernel_rfl) ?_ _
          have HBf := Lib.hid (HBWc.out.next HBW)
          go_wp2_with fail
          refine (lives_any _).mono ?_
          rintro e wl ⟨rfl, hBl⟩
          have HBl := Lib.hid (HBf.out.next hBl)
          clear hBl
          go_wp2_with fail
          go_ret
          exact ⟨rfl, HBl.out⟩
  · have hor : (!ok || (!ok' || !ok2)) = true := by cases ok <;> cases ok' <;> cases ok2 <;> simp_all
    cases ok <;> cases ok' <;> (try (cases ok2)) <;> (try (exact absurd ⟨rfl, rfl, rfl⟩ hall))
    all_goals
      go_wp2_with fail
      refine (lives_any _).mono ?_
      rintro e wl ⟨rfl, hBl⟩
      have HBl := Lib.hid (((HBW2.out.next HB3.out).push _).next hBl)
      clear hBl
      go_wp2_with fail
      go_ret
      exact ⟨rfl, HBl.out⟩
end Go.Proofs.Ythpgnhmikffcpaa
