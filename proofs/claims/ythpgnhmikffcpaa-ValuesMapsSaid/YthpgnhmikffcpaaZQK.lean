/- Which of any two values comes first: the law's walk. No condition but that the arguments are descriptors. -/
import Derived.Test.YthpgnhmikffcpaaZQJ
import Derived.Deep.RegionHeld3
namespace Go.Proofs.Ythpgnhmikffcpaa
set_option linter.unusedVariables false
set_option linter.unusedSimpArgs false
open Go.RowKit

/-- What is known of a value that was built. -/
theorem built_facts {d : D} {x : V} (hr : DR d) (h : errD d = 0) (hx : mkV d = some x) : x.ok ∧ VR x := by
  obtain ⟨_, hk, _, _⟩ := err_zero h
  rw [allD_eq, Bool.and_eq_true] at hk
  have hk1 : 0 ≤ d.kind ∧ d.kind ≤ 22 := by simpa [kindB] using hk.1
  exact ⟨mkV_ok hk1.1 hk1.2 hx, mkV_rng d hr x hx⟩
set_option maxRecDepth 100000 in
set_option maxHeartbeats 8000000 in
theorem cmps_any {d d' : D} {w : World} {v v' : Value} (h : IsD w v d) (h' : IsD w v' d') : Calls Try.prog 7 #[v, v'] w fun e w' => e = .returned (.bool true) ∧ Below w.heap.size w w' := by
  have HD := Lib.hid h
  have HD' := Lib.hid h'
  have HR := Lib.hid h.rng
  have HR' := Lib.hid h'.rng
  obtain ⟨a5, c5, a6, c6, rfl, _⟩ := h.open
  obtain ⟨b5, e5, b6, e6, rfl, _⟩ := h'.open
  clear h h'
  unfold aggD at HD HD' ⊢
  go_enter Try.func7, Try.ntmps7
  go_wp2_with fail
  have HB0 := Lib.hid ((Below.new (w := w) (.cells #[.int .i64 d.kind, .string d.type, .int .u64 d.bits, .int .u64 d.imag, .string d.text, .slice a5 d.names.length c5, .slice a6 d.parts.length c6, .int .i64 d.hook] 26)).push (.cells #[.int .i64 d'.kind, .string d'.type, .int .u64 d'.bits, .int .u64 d'.imag, .string d'.text, .slice b5 d'.names.length e5, .slice b6 d'.parts.length e6, .int .i64 d'.hook] 26))
  have HBox : Hid (BoxD ((w.alloc (.cells #[.int .i64 d.kind, .string d.type, .int .u64 d.bits, .int .u64 d.imag, .string d.text, .slice a5 d.names.length c5, .slice a6 d.parts.length c6, .int .i64 d.hook] 26)).alloc (.cells #[.int .i64 d'.kind, .string d'.type, .int .u64 d'.bits, .int .u64 d'.imag, .string d'.text, .slice b5 d'.names.length e5, .slice b6 d'.parts.length e6, .int .i64 d'.hook] 26)) (w.heap.size + 1) d' b5 e5 b6 e6) := by
    have := BoxD.new (w.alloc (.cells #[.int .i64 d.kind, .string d.type, .int .u64 d.bits, .int .u64 d.imag, .string d.text, .slice a5 d.names.length c5, .slice a6 d.parts.length c6, .int .i64 d.hook] 26)) d' b5 e5 b6 e6
    unfold cellsD at this
    exact Lib.hid (by simpa using this)
  generalize (w.alloc (.cells #[.int .i64 d.kind, .string d.type, .int .u64 d.bits, .int .u64 d.imag, .string d.text, .slice a5 d.names.length c5, .slice a6 d.parts.length c6, .int .i64 d.hook] 26)).alloc (.cells #[.int .i64 d'.kind, .string d'.type, .int .u64 d'.bits, .int .u64 d'.imag, .string d'.text, .slice b5 d'.names.length e5, .slice b6 d'.parts.length e6, .int .i64 d'.hook] 26) = w0 at HB0 HBox ⊢
  refine (built_any (HD.out.later HB0.out)).mono ?_
  rintro e w1 ⟨hB1, v, ok, k0x, tyx, b0x, i0x, txx, a5x, n5x, c5x, a6x, n6x, c6x, h0x, du, rfl, hdu, hvs, hok⟩
  have HB1 := Lib.hid hB1
  have HDU := Lib.hid hdu
  have HVS := Lib.hid hvs
  have HOK := Lib.hid hok
  clear hB1 hdu hvs hok
  go_upto_region 2 with fail
  have hb1n : Below w1.heap.size w1 (w1.alloc (.cells #[.int .i64 k0x, .string tyx, .int .u64 b0x, .int .u64 i0x, .string txx, .slice a5x n5x c5x, .slice a6x n6x c6x, .int .i64 h0x] 26)) := Below.new _
  have HBx := Lib.hid (Blk.of (heap_alloc_new w1 (.cells #[.int .i64 k0x, .string tyx, .int .u64 b0x, .int .u64 i0x, .string txx, .slice a5x n5x c5x, .slice a6x n6x c6x, .int .i64 h0x] 26)))
  have HB1n := Lib.hid hb1n
  have HBoxn := Lib.hid ((HBox.out.later HB1.out).later hb1n)
  have HBW := Lib.hid ((HB0.out.next HB1.out).next hb1n)
  generalize w1.alloc (.cells #[.int .i64 k0x, .string tyx, .int .u64 b0x, .int .u64 i0x, .string txx, .slice a5x n5x c5x, .slice a6x n6x c6x, .int .i64 h0x] 26) = W1 at HBx HB1n hb1n HBoxn HBW ⊢
  clear hb1n
  obtain ⟨q0, q1, q2, q3, q4, q5, q6, q7⟩ := HBoxn.out
  go_wp2_with fail
  refine (built_any (HD'.out.later HBW.out)).mono ?_
  rintro e w2 ⟨hB2, v', ok', k0y, tyy, b0y, i0y, txy, a5y, n5y, c5y, a6y, n6y, c6y, h0y, du', rfl, hdu', hvs', hok'⟩
  have HB2 := Lib.hid hB2
  have HDU' := Lib.hid hdu'
  have HVS' := Lib.hid hvs'
  have HOK' := Lib.hid hok'
  clear hB2 hdu' hvs' hok' q0 q1 q2 q3 q4 q5 q6 q7
  cases ok with
  | false =>
    go_wp2_with fail
    refine (lives_any _).mono ?_
    rintro e wl ⟨rfl, hBl⟩
    have HBl := Lib.hid (((HBW.out.next HB2.out).push _).next hBl)
    clear hBl
    go_wp2_with fail
    go_ret
    exact ⟨rfl, HBl.out⟩
  | true =>
    cases ok' with
    | false =>
      go_wp2_with fail
      refine (lives_any _).mono ?_
      rintro e wl ⟨rfl, hBl⟩
      have HBl := Lib.hid (((HBW.out.next HB2.out).push _).next hBl)
      clear hBl
      go_wp2_with fail
      go_ret
      exact ⟨rfl, HBl.out⟩
    | true =>
      obtain ⟨_, he, x, hx, hvf, rfl⟩ := HOK.out rfl
      obtain ⟨_, he', y, hy, hvf', rfl⟩ := HOK'.out rfl
      have hfx := built_facts HR.out he hx
      have hfy := built_facts HR'.out he' hy
      have HFx := Lib.hid hfx
      have HFy := Lib.hid hfy
      have HVX := Lib.hid (((hvf.isV.later HB1n.out).later HB2.out))
      have HVY := Lib.hid hvf'.isV
      have HDX := Lib.hid ((HDU.out.later HB1n.out).later HB2.out)
      have HDY := Lib.hid HDU'.out
      have HBx2 := Lib.hid (HBx.out.below HB2.out)
      have HBW2 := Lib.hid (HBW.out.next HB2.out)
      clear hx hy hvf hvf' he he' hfx hfy HOK HOK'
      go_upto_region 5 with fail
      have hb2n : Below w2.heap.size w2 (w2.alloc (.cells #[.int .i64 k0y, .string tyy, .int .u64 b0y, .int .u64 i0y, .string txy, .slice a5y n5y c5y, .slice a6y n6y c6y, .int .i64 h0y] 26)) := Below.new _
      have HBy := Lib.hid (Blk.of (heap_alloc_new w2 (.cells #[.int .i64 k0y, .string tyy, .int .u64 b0y, .int .u64 i0y, .string txy, .slice a5y n5y c5y, .slice a6y n6y c6y, .int .i64 h0y] 26)))
      have HB2n := Lib.hid hb2n
      generalize w2.alloc (.cells #[.int .i64 k0y, .string tyy, .int .u64 b0y, .int .u64 i0y, .string txy, .slice a5y n5y c5y, .slice a6y n6y c6y, .int .i64 h0y] 26) = W2 at HBy HB2n hb2n ⊢
      clear hb2n
      have HBx3 := Lib.hid (HBx2.out.below HB2n.out)
      have HC21 : Hid (∀ W, Below W2.heap.size W2 W → Calls Try.prog 21 #[v, v'] W fun e w' => e = .returned (.int .i64 (ordV x y)) ∧ Below W.heap.size W w') :=
        fun W hW => Cmp_any ((HVX.out.later HB2n.out).later hW) ((HVY.out.later HB2n.out).later hW) HFx.out.1 HFy.out.1
      have HC22 : Hid (∀ W, Below W2.heap.size W2 W → Calls Try.prog 22 #[.agg #[.int .i64 k0x, .string tyx, .int .u64 b0x, .int .u64 i0x, .string txx, .slice a5x n5x c5x, .slice a6x n6x c6x, .int .i64 h0x], .agg #[.int .i64 k0y, .string tyy, .int .u64 b0y, .int .u64 i0y, .string txy, .slice a5y n5y c5y, .slice a6y n6y c6y, .int .i64 h0y]] W fun e w' => e = .returned (.int .i64 (ordV x y)) ∧ Below W.heap.size W w') := by
        intro W hW
        refine (refCmp_any ((HDX.out.later HB2n.out).later hW) ((HDY.out.later HB2n.out).later hW)).mono fun e w' h => ?_
        rw [← cmp_raw HFx.out.1 HFy.out.1 HFx.out.2 HFy.out.2]
        exact h
      have HC13 : Hid (∀ W, Calls Try.prog 13 #[] W fun e w' => e = .returned (.bool true) ∧ Below W.heap.size W w') := fun W => lives_any W
      have K : W2.cell? ⟨w1.heap.size, 0, none⟩ = some (.int .i64 k0x) ∧ W2.cell? ⟨w1.heap.size, 1, none⟩ = some (.string tyx) ∧ W2.cell? ⟨w1.heap.size, 2, none⟩ = some (.int .u64 b0x) ∧ W2.cell? ⟨w1.heap.size, 3, none⟩ = some (.int .u64 i0x) ∧ W2.cell? ⟨w1.heap.size, 4, none⟩ = some (.string txx) ∧ W2.cell? ⟨w1.heap.size, 5, none⟩ = some (.slice a5x n5x c5x) ∧ W2.cell? ⟨w1.heap.size, 6, none⟩ = some (.slice a6x n6x c6x) ∧ W2.cell? ⟨w1.heap.size, 7, none⟩ = some (.int .i64 h0x) ∧ W2.cell? ⟨w2.heap.size, 0, none⟩ = some (.int .i64 k0y) ∧ W2.cell? ⟨w2.heap.size, 1, none⟩ = some (.string tyy) ∧ W2.cell? ⟨w2.heap.size, 2, none⟩ = some (.int .u64 b0y) ∧ W2.cell? ⟨w2.heap.size, 3, none⟩ = some (.int .u64 i0y) ∧ W2.cell? ⟨w2.heap.size, 4, none⟩ = some (.string txy) ∧ W2.cell? ⟨w2.heap.size, 5, none⟩ = some (.slice a5y n5y c5y) ∧ W2.cell? ⟨w2.heap.size, 6, none⟩ = some (.slice a6y n6y c6y) ∧ W2.cell? ⟨w2.heap.size, 7, none⟩ = some (.int .i64 h0y) := ⟨HBx3.out.c0, HBx3.out.c1, HBx3.out.c2, HBx3.out.c3, HBx3.out.c4, HBx3.out.c5, HBx3.out.c6, HBx3.out.c7, HBy.out.c0, HBy.out.c1, HBy.out.c2, HBy.out.c3, HBy.out.c4, HBy.out.c5, HBy.out.c6, HBy.out.c7⟩
      have HBW : Below W2.heap.size W2 W2.drew := (Below.refl _ _).drew
      have HBW3 := Lib.hid (HBW2.out.next HB2n.out)
      obtain ⟨c, hc⟩ : ∃ c, ordV x y = c := ⟨_, rfl⟩
      rw [hc] at HC21 HC22
      clear hc
      have hcc : (c == c) = true := by simp
      go_region_held3 (fun w' => w'.cell? ⟨w1.heap.size, 0, none⟩ = some (.int .i64 k0x) ∧ w'.cell? ⟨w1.heap.size, 1, none⟩ = some (.string tyx) ∧ w'.cell? ⟨w1.heap.size, 2, none⟩ = some (.int .u64 b0x) ∧ w'.cell? ⟨w1.heap.size, 3, none⟩ = some (.int .u64 i0x) ∧ w'.cell? ⟨w1.heap.size, 4, none⟩ = some (.string txx) ∧ w'.cell? ⟨w1.heap.size, 5, none⟩ = some (.slice a5x n5x c5x) ∧ w'.cell? ⟨w1.heap.size, 6, none⟩ = some (.slice a6x n6x c6x) ∧ w'.cell? ⟨w1.heap.size, 7, none⟩ = some (.int .i64 h0x) ∧ w'.cell? ⟨w2.heap.size, 0, none⟩ = some (.int .i64 k0y) ∧ w'.cell? ⟨w2.heap.size, 1, none⟩ = some (.string tyy) ∧ w'.cell? ⟨w2.heap.size, 2, none⟩ = some (.int .u64 b0y) ∧ w'.cell? ⟨w2.heap.size, 3, none⟩ = some (.int .u64 i0y) ∧ w'.cell? ⟨w2.heap.size, 4, none⟩ = some (.string txy) ∧ w'.cell? ⟨w2.heap.size, 5, none⟩ = some (.slice a5y n5y c5y) ∧ w'.cell? ⟨w2.heap.size, 6, none⟩ = some (.slice a6y n6y c6y) ∧ w'.cell? ⟨w2.heap.size, 7, none⟩ = some (.int .i64 h0y)) (exact K) (first
        | (go_at_call 21; (with_reducible refine (HC21.out _ HBW).mono ?_); rintro e wa ⟨rfl, hbN⟩; have K := (show wa.cell? ⟨w1.heap.size, 0, none⟩ = some (.int .i64 k0x) ∧ wa.cell? ⟨w1.heap.size, 1, none⟩ = some (.string tyx) ∧ wa.cell? ⟨w1.heap.size, 2, none⟩ = some (.int .u64 b0x) ∧ wa.cell? ⟨w1.heap.size, 3, none⟩ = some (.int .u64 i0x) ∧ wa.cell? ⟨w1.heap.size, 4, none⟩ = some (.string txx) ∧ wa.cell? ⟨w1.heap.size, 5, none⟩ = some (.slice a5x n5x c5x) ∧ wa.cell? ⟨w1.heap.size, 6, none⟩ = some (.slice a6x n6x c6x) ∧ wa.cell? ⟨w1.heap.size, 7, none⟩ = some (.int .i64 h0x) ∧ wa.cell? ⟨w2.heap.size, 0, none⟩ = some (.int .i64 k0y) ∧ wa.cell? ⟨w2.heap.size, 1, none⟩ = some (.string tyy) ∧ wa.cell? ⟨w2.heap.size, 2, none⟩ = some (.int .u64 b0y) ∧ wa.cell? ⟨w2.heap.size, 3, none⟩ = some (.int .u64 i0y) ∧ wa.cell? ⟨w2.heap.size, 4, none⟩ = some (.string txy) ∧ wa.cell? ⟨w2.heap.size, 5, none⟩ = some (.slice a5y n5y c5y) ∧ wa.cell? ⟨w2.heap.size, 6, none⟩ = some (.slice a6y n6y c6y) ∧ wa.cell? ⟨w2.heap.size, 7, none⟩ = some (.int .i64 h0y) from ⟨cell_below hbN K.1, cell_below hbN K.2.1, cell_below hbN K.2.2.1, cell_below hbN K.2.2.2.1, cell_below hbN K.2.2.2.2.1, cell_below hbN K.2.2.2.2.2.1, cell_below hbN K.2.2.2.2.2.2.1, cell_below hbN K.2.2.2.2.2.2.2.1, cell_below hbN K.2.2.2.2.2.2.2.2.1, cell_below hbN K.2.2.2.2.2.2.2.2.2.1, cell_below hbN K.2.2.2.2.2.2.2.2.2.2.1, cell_below hbN K.2.2.2.2.2.2.2.2.2.2.2.1, cell_below hbN K.2.2.2.2.2.2.2.2.2.2.2.2.1, cell_below hbN K.2.2.2.2.2.2.2.2.2.2.2.2.2.1, cell_below hbN K.2.2.2.2.2.2.2.2.2.2.2.2.2.2.1, cell_below hbN K.2.2.2.2.2.2.2.2.2.2.2.2.2.2.2⟩); have HBW := HBW.next hbN; clear hbN)
        | (go_at_call 22; (with_reducible refine (HC22.out _ HBW).mono ?_); rintro e wb ⟨rfl, hbN⟩; have K := (show wb.cell? ⟨w1.heap.size, 0, none⟩ = some (.int .i64 k0x) ∧ wb.cell? ⟨w1.heap.size, 1, none⟩ = some (.string tyx) ∧ wb.cell? ⟨w1.heap.size, 2, none⟩ = some (.int .u64 b0x) ∧ wb.cell? ⟨w1.heap.size, 3, none⟩ = some (.int .u64 i0x) ∧ wb.cell? ⟨w1.heap.size, 4, none⟩ = some (.string txx) ∧ wb.cell? ⟨w1.heap.size, 5, none⟩ = some (.slice a5x n5x c5x) ∧ wb.cell? ⟨w1.heap.size, 6, none⟩ = some (.slice a6x n6x c6x) ∧ wb.cell? ⟨w1.heap.size, 7, none⟩ = some (.int .i64 h0x) ∧ wb.cell? ⟨w2.heap.size, 0, none⟩ = some (.int .i64 k0y) ∧ wb.cell? ⟨w2.heap.size, 1, none⟩ = some (.string tyy) ∧ wb.cell? ⟨w2.heap.size, 2, none⟩ = some (.int .u64 b0y) ∧ wb.cell? ⟨w2.heap.size, 3, none⟩ = some (.int .u64 i0y) ∧ wb.cell? ⟨w2.heap.size, 4, none⟩ = some (.string txy) ∧ wb.cell? ⟨w2.heap.size, 5, none⟩ = some (.slice a5y n5y c5y) ∧ wb.cell? ⟨w2.heap.size, 6, none⟩ = some (.slice a6y n6y c6y) ∧ wb.cell? ⟨w2.heap.size, 7, none⟩ = some (.int .i64 h0y) from ⟨cell_below hbN K.1, cell_below hbN K.2.1, cell_below hbN K.2.2.1, cell_below hbN K.2.2.2.1, cell_below hbN K.2.2.2.2.1, cell_below hbN K.2.2.2.2.2.1, cell_below hbN K.2.2.2.2.2.2.1, cell_below hbN K.2.2.2.2.2.2.2.1, cell_below hbN K.2.2.2.2.2.2.2.2.1, cell_below hbN K.2.2.2.2.2.2.2.2.2.1, cell_below hbN K.2.2.2.2.2.2.2.2.2.2.1, cell_below hbN K.2.2.2.2.2.2.2.2.2.2.2.1, cell_below hbN K.2.2.2.2.2.2.2.2.2.2.2.2.1, cell_below hbN K.2.2.2.2.2.2.2.2.2.2.2.2.2.1, cell_below hbN K.2.2.2.2.2.2.2.2.2.2.2.2.2.2.1, cell_below hbN K.2.2.2.2.2.2.2.2.2.2.2.2.2.2.2⟩); have HBW := HBW.next hbN; clear hbN)
        | (go_at_call 13; (with_reducible refine (HC13.out _).mono ?_); rintro e wc ⟨rfl, hbN⟩; have K := (show wc.cell? ⟨w1.heap.size, 0, none⟩ = some (.int .i64 k0x) ∧ wc.cell? ⟨w1.heap.size, 1, none⟩ = some (.string tyx) ∧ wc.cell? ⟨w1.heap.size, 2, none⟩ = some (.int .u64 b0x) ∧ wc.cell? ⟨w1.heap.size, 3, none⟩ = some (.int .u64 i0x) ∧ wc.cell? ⟨w1.heap.size, 4, none⟩ = some (.string txx) ∧ wc.cell? ⟨w1.heap.size, 5, none⟩ = some (.slice a5x n5x c5x) ∧ wc.cell? ⟨w1.heap.size, 6, none⟩ = some (.slice a6x n6x c6x) ∧ wc.cell? ⟨w1.heap.size, 7, none⟩ = some (.int .i64 h0x) ∧ wc.cell? ⟨w2.heap.size, 0, none⟩ = some (.int .i64 k0y) ∧ wc.cell? ⟨w2.heap.size, 1, none⟩ = some (.string tyy) ∧ wc.cell? ⟨w2.heap.size, 2, none⟩ = some (.int .u64 b0y) ∧ wc.cell? ⟨w2.heap.size, 3, none⟩ = some (.int .u64 i0y) ∧ wc.cell? ⟨w2.heap.size, 4, none⟩ = some (.string txy) ∧ wc.cell? ⟨w2.heap.size, 5, none⟩ = some (.slice a5y n5y c5y) ∧ wc.cell? ⟨w2.heap.size, 6, none⟩ = some (.slice a6y n6y c6y) ∧ wc.cell? ⟨w2.heap.size, 7, none⟩ = some (.int .i64 h0y) from ⟨cell_below hbN K.1, cell_below hbN K.2.1, cell_below hbN K.2.2.1, cell_below hbN K.2.2.2.1, cell_below hbN K.2.2.2.2.1, cell_below hbN K.2.2.2.2.2.1, cell_below hbN K.2.2.2.2.2.2.1, cell_below hbN K.2.2.2.2.2.2.2.1, cell_below hbN K.2.2.2.2.2.2.2.2.1, cell_below hbN K.2.2.2.2.2.2.2.2.2.1, cell_below hbN K.2.2.2.2.2.2.2.2.2.2.1, cell_below hbN K.2.2.2.2.2.2.2.2.2.2.2.1, cell_below hbN K.2.2.2.2.2.2.2.2.2.2.2.2.1, cell_below hbN K.2.2.2.2.2.2.2.2.2.2.2.2.2.1, cell_below hbN K.2.2.2.2.2.2.2.2.2.2.2.2.2.2.1, cell_below hbN K.2.2.2.2.2.2.2.2.2.2.2.2.2.2.2⟩); have HBW := HBW.next hbN; clear hbN))
      all_goals
        have HBF := Lib.hid (HBW3.out.next HBW)
        go_wp2_with fail
        go_ret
        exact ⟨rfl, HBF.out⟩
end Go.Proofs.Ythpgnhmikffcpaa
