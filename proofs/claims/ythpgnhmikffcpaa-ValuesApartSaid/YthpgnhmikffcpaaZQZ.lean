/- What is handed in stays, and is not kept: the law's walk. Condition: the argument is a descriptor whose lists of names are within a machine's reach. -/
import Derived.Test.YthpgnhmikffcpaaZQN
import Derived.Test.YthpgnhmikffcpaaZQL
import Derived.Test.YthpgnhmikffcpaaZQY
namespace Go.Proofs.Ythpgnhmikffcpaa
set_option linter.unusedVariables false
set_option linter.unusedSimpArgs false
open Go.RowKit

theorem built_small {d : D} {x : V} (h : errD d = 0) (hx : mkV d = some x) : wholeD (rawV x) ≤ 400 := by
  obtain ⟨h1, hk, hf, _⟩ := err_zero h
  have h2 := mk_size d hk hf x hx
  rw [whole_raw]
  omega
set_option maxRecDepth 100000 in
set_option maxHeartbeats 8000000 in
theorem apart_any {d : D} {w : World} {v0 : Value} (h : IsD w v0 d) (hwd : WideD d) : Calls Try.prog 6 #[v0] w fun e w' => e = .returned (.bool true) ∧ Below w.heap.size w w' := by
  have HD := Lib.hid h
  have HR := Lib.hid h.rng
  have HWD := Lib.hid hwd
  obtain ⟨a5, c5, a6, c6, rfl, _⟩ := h.open
  clear h hwd
  unfold aggD at HD ⊢
  go_enter Try.func6, Try.ntmps6
  go_wp2_with fail
  have HB0 := Lib.hid (Below.new (w := w) (.cells #[.int .i64 d.kind, .string d.type, .int .u64 d.bits, .int .u64 d.imag, .string d.text, .slice a5 d.names.length c5, .slice a6 d.parts.length c6, .int .i64 d.hook] 26))
  have HBq := Lib.hid (Blk.of (heap_alloc_new w (.cells #[.int .i64 d.kind, .string d.type, .int .u64 d.bits, .int .u64 d.imag, .string d.text, .slice a5 d.names.length c5, .slice a6 d.parts.length c6, .int .i64 d.hook] 26)))
  generalize w.alloc (.cells #[.int .i64 d.kind, .string d.type, .int .u64 d.bits, .int .u64 d.imag, .string d.text, .slice a5 d.names.length c5, .slice a6 d.parts.length c6, .int .i64 d.hook] 26) = w0 at HB0 HBq ⊢
  refine (built_any (HD.out.later HB0.out)).mono ?_
  rintro e w1 ⟨hB1, v, ok, k0x, tyx, b0x, i0x, txx, a5x, n5x, c5x, a6x, n6x, c6x, h0x, du, rfl, hdu, hvs, hok⟩
  have HB1 := Lib.hid hB1
  have HOK := Lib.hid hok
  have HDU := Lib.hid hdu
  clear hB1 hdu hvs hok
  cases ok with
  | false =>
    go_wp2_with fail
    refine (lives_any _).mono ?_
    rintro e wl ⟨rfl, hBl⟩
    have HBl := Lib.hid (((HB0.out.next HB1.out).push _).next hBl)
    clear hBl
    go_wp2_with fail
    go_ret
    exact ⟨rfl, HBl.out⟩
  | true =>
    obtain ⟨hwh, he, x, hx, hvf, rfl⟩ := HOK.out rfl
    have hwh' : wholeD d ≤ 400 := Nat.le_of_lt hwh
    have HWH := Lib.hid hwh'
    have HFx := Lib.hid (built_facts HR.out he hx)
    have HSm := Lib.hid (built_small he hx)
    have HE := Lib.hid he
    have HXX := Lib.hid hx
    have HVX := Lib.hid hvf.isV
    clear he hx hvf HOK hwh hwh'
    obtain ⟨r, hr⟩ : ∃ r, rawV x = r := ⟨_, rfl⟩
    rw [hr] at HDU HSm
    have HRr := Lib.hid hr
    clear hr
    go_upto_region 4 with fail
    have hb1n : Below w1.heap.size w1 (w1.alloc (.cells #[.int .i64 k0x, .string tyx, .int .u64 b0x, .int .u64 i0x, .string txx, .slice a5x n5x c5x, .slice a6x n6x c6x, .int .i64 h0x] 26)) := Below.new _
    have HBx := Lib.hid (Blk.of (heap_alloc_new w1 (.cells #[.int .i64 k0x, .string tyx, .int .u64 b0x, .int .u64 i0x, .string txx, .slice a5x n5x c5x, .slice a6x n6x c6x, .int .i64 h0x] 26)))
    have HZx : Hid ((w1.alloc (.cells #[.int .i64 k0x, .string tyx, .int .u64 b0x, .int .u64 i0x, .string txx, .slice a5x n5x c5x, .slice a6x n6x c6x, .int .i64 h0x] 26)).heap.size = w1.heap.size + 1) := Lib.hid (by simp)
    have HB1n := Lib.hid hb1n
    have HBW := Lib.hid ((HB0.out.next HB1.out).next hb1n)
    have HB01 := Lib.hid (HB1.out.next hb1n)
    have HBq1 := Lib.hid ((HBq.out.below HB1.out).below hb1n)
    generalize w1.alloc (.cells #[.int .i64 k0x, .string tyx, .int .u64 b0x, .int .u64 i0x, .string txx, .slice a5x n5x c5x, .slice a6x n6x c6x, .int .i64 h0x] 26) = W1 at HB1n hb1n HBW HBx HB01 HBq1 HZx ⊢
    clear hb1n
    obtain ⟨q0, q1, q2, q3, q4, q5, q6, q7, _⟩ := HBq1.out
    go_wp2_with fail
    refine (copied_any d HWH.out HWD.out W1 _ (HD.out.later HBW.out)).mono ?_
    rintro e w2 ⟨hB2, k0c, tyc, b0c, i0c, txc, a5c, n5c, c5c, a6c, n6c, c6c, h0c, rfl, hdc⟩
    have HB2 := Lib.hid hB2
    have HDC := Lib.hid hdc
    clear hdc hB2 q0 q1 q2 q3 q4 q5 q6 q7
    go_upto_region 5 with fail
    have hb2n : Below w2.heap.size w2 (w2.alloc (.cells #[.int .i64 k0c, .string tyc, .int .u64 b0c, .int .u64 i0c, .string txc, .slice a5c n5c c5c, .slice a6c n6c c6c, .int .i64 h0c] 26)) := Below.new _
    have HBc := Lib.hid (Blk.of (heap_alloc_new w2 (.cells #[.int .i64 k0c, .string tyc, .int .u64 b0c, .int .u64 i0c, .string txc, .slice a5c n5c c5c, .slice a6c n6c c6c, .int .i64 h0c] 26)))
    have HB2n := Lib.hid hb2n
    have HZc : Hid ((w2.alloc (.cells #[.int .i64 k0c, .string tyc, .int .u64 b0c, .int .u64 i0c, .string txc, .slice a5c n5c c5c, .slice a6c n6c c6c, .int .i64 h0c] 26)).heap.size = w2.heap.size + 1) := Lib.hid (by simp)
    generalize w2.alloc (.cells #[.int .i64 k0c, .string tyc, .int .u64 b0c, .int .u64 i0c, .string txc, .slice a5c n5c c5c, .slice a6c n6c c6c, .int .i64 h0c] 26) = W2 at HBc HB2n hb2n HZc ⊢
    clear hb2n
    obtain ⟨z0, z1, z2, z3, z4, z5, z6, z7, _⟩ := HBc.out
    go_wp2_with fail
    refine (build_any (HDC.out.isD.later HB2n.out)).mono ?_
    rintro e w3 ⟨hB3, _, hgood⟩
    obtain ⟨t', y', x', hx', rfl, hvf⟩ := hgood HE.out
    obtain rfl : x = x' := by
      have := HXX.out
      rw [hx'] at this
      injection this with this
      exact this.symm
    have HVF := Lib.hid hvf
    have HB3 := Lib.hid hB3
    have z0 := cell_below hB3 z0
    have z1 := cell_below hB3 z1
    have z2 := cell_below hB3 z2
    have z3 := cell_below hB3 z3
    have z4 := cell_below hB3 z4
    have z5 := cell_below hB3 z5
    have z6 := cell_below hB3 z6
    have z7 := cell_below hB3 z7
    have HBq3 := Lib.hid ((((HBq1.out.below HB2.out).below HB2n.out)).below hB3)
    obtain ⟨q0, q1, q2, q3, q4, q5, q6, q7, _⟩ := HBq3.out
    clear hgood hx' hvf hB3
    go_wp2_with fail
    refine (same_any d d w3 _ _ ((HDC.out.isD.later HB2n.out).later HB3.out) (HD.out.later (((HBW.out.next HB2.out).next HB2n.out).next HB3.out))).mono ?_
    rintro e w4 ⟨rfl, hB4⟩
    rw [sameD_true rfl]
    have HB4 := Lib.hid hB4
    have z0 := cell_below hB4 z0
    have z1 := cell_below hB4 z1
    have z2 := cell_below hB4 z2
    have z3 := cell_below hB4 z3
    have z4 := cell_below hB4 z4
    have z5 := cell_below hB4 z5
    have z6 := cell_below hB4 z6
    have z7 := cell_below hB4 z7
    clear hB4 q0 q1 q2 q3 q4 q5 q6 q7
    go_wp2_with fail
    have HC24 : Hid (Below w2.heap.size w2 w4) := (HB2n.out.next HB3.out).next HB4.out
    refine (spoil_any d HWH.out W1.heap.size w4 _ _ (HDC.out.clip.later HC24.out) (fun k hk => hk.1) (by have := HB2.out.size; have := HC24.out.size; omega)).mono ?_
    rintro e w5 ⟨rfl, hB5, hK5⟩
    have HB5 := Lib.hid hB5
    have HK5 := Lib.hid hK5
    have HK25 : Hid (∀ k, k < w4.heap.size → w2.heap.size ≤ k → w5.heap[k]? = w4.heap[k]?) := fun k hk h2 => hK5 k hk (fun q => by have := q.2; omega)
    have HV5 : Hid (IsV w5 (.iface t' y') x) := by
      refine Lib.hid (IsVF.isV (S := fun k => W2.heap.size ≤ k) ((HVF.out.later HB4.out).keep fun k hk hS => ⟨hS, HK25.out k hk ?_⟩))
      have := HB2n.out.size
      omega
    have HW15 : Hid (Below W1.heap.size W1 w5) := (((HB2.out.next HB2n.out).next HB3.out).next HB4.out).trans HB5.out
    have HVX5 := Lib.hid ((HVX.out.later HB1n.out).later HW15.out)
    have HDU5 := Lib.hid ((HDU.out.later HB1n.out).later HW15.out)
    have HBx5 := Lib.hid (HBx.out.below HW15.out)
    have HBW5 := Lib.hid (HBW.out.next HW15.out)
    clear hB5 hK5 z0 z1 z2 z3 z4 z5 z6 z7
    have hraw : Calls Try.prog 17 #[.iface t' y'] w5 (RawAt w5 r) := by
      rw [← HRr.out]
      exact Raw_at HFx.out.2 HV5.out
    go_wp2_with fail
    refine hraw.mono ?_
    rintro e w6 ⟨hB6, g5, g5', g6, g6', rfl, hdg⟩
    have HDG := Lib.hid hdg.isD
    have HB6 := Lib.hid hB6
    clear hdg hB6 hraw
    unfold aggD at HDG ⊢
    go_upto_region 10 with fail
    have hb6n : Below w6.heap.size w6 (w6.alloc (.cells #[.int .i64 r.kind, .string r.type, .int .u64 r.bits, .int .u64 r.imag, .string r.text, .slice g5 r.names.length g5', .slice g6 r.parts.length g6', .int .i64 r.hook] 26)) := Below.new _
    have HBg := Lib.hid (Blk.of (heap_alloc_new w6 (.cells #[.int .i64 r.kind, .string r.type, .int .u64 r.bits, .int .u64 r.imag, .string r.text, .slice g5 r.names.length g5', .slice g6 r.parts.length g6', .int .i64 r.hook] 26)))
    have HZ6 : Hid ((w6.alloc (.cells #[.int .i64 r.kind, .string r.type, .int .u64 r.bits, .int .u64 r.imag, .string r.text, .slice g5 r.names.length g5', .slice g6 r.parts.length g6', .int .i64 r.hook] 26)).heap.size = w6.heap.size + 1) := Lib.hid (by simp)
    have HB56 := Lib.hid (HB6.out.next hb6n)
    have HDG6 := Lib.hid (HDG.out.later hb6n)
    generalize w6.alloc (.cells #[.int .i64 r.kind, .string r.type, .int .u64 r.bits, .int .u64 r.imag, .string r.text, .slice g5 r.names.length g5', .slice g6 r.parts.length g6', .int .i64 r.hook] 26) = W6 at HBg HZ6 HB56 HDG6 ⊢
    clear hb6n
    have hraw : Calls Try.prog 17 #[.iface t' y'] W6 (RawAt W6 r) := by
      rw [← HRr.out]
      exact Raw_at HFx.out.2 (HV5.out.later HB56.out)
    go_wp2_with fail
    refine hraw.mono ?_
    rintro e w7 ⟨hB7, f5, f5', f6, f6', rfl, hdf⟩
    have HDF := Lib.hid hdf
    have HB7 := Lib.hid hB7
    clear hdf hB7 hraw
    unfold aggD at HDF ⊢
    go_wp2_with fail
    refine (spoil_any r HSm.out W6.heap.size w7 _ _ HDF.out (fun k hk => hk) HB7.out.size).mono ?_
    rintro e w8 ⟨rfl, hB8, hK8⟩
    have HW68 : Hid (Below W6.heap.size W6 w8) := HB7.out.trans hB8
    clear hB8 hK8 HDF
    have HV8 := Lib.hid ((HV5.out.later HB56.out).later HW68.out)
    have HVX8 := Lib.hid ((HVX5.out.later HB56.out).later HW68.out)
    have HDU8 := Lib.hid ((HDU5.out.later HB56.out).later HW68.out)
    have HDG8 := Lib.hid (HDG6.out.later HW68.out)
    have HBW8 := Lib.hid ((HBW5.out.next HB56.out).next HW68.out)
    have HBg8 := Lib.hid (HBg.out.below HW68.out)
    have HBx8 := Lib.hid ((HBx5.out.below HB56.out).below HW68.out)
    go_upto_region 11 with fail
    have HC17 : Hid (∀ W, Below w8.heap.size w8 W → Calls Try.prog 17 #[.iface t' y'] W (RawAt W r)) := by
      intro W hW
      rw [← HRr.out]
      exact Raw_at HFx.out.2 (HV8.out.later hW)
    have HC17' : Hid (∀ W, Below w8.heap.size w8 W → Calls Try.prog 17 #[v] W (RawAt W r)) := by
      intro W hW
      rw [← HRr.out]
      exact Raw_at HFx.out.2 (HVX8.out.later hW)
    have HC16 : Hid (∀ (W : World) (va : Value), Below w8.heap.size w8 W → IsD W va r → Calls Try.prog 16 #[va, .agg #[.int .i64 k0x, .string tyx, .int .u64 b0x, .int .u64 i0x, .string txx, .slice a5x n5x c5x, .slice a6x n6x c6x, .int .i64 h0x]] W fun e w' => e = .returned (.bool true) ∧ Below W.heap.size W w') := by
      intro W va hW hva
      refine (same_any r r W va _ hva (HDU8.out.later hW)).mono fun e w' h => ?_
      rw [← sameD_true (d := r) rfl]
      exact h
    have HC13 : Hid (∀ W, Calls Try.prog 13 #[] W fun e w' => e = .returned (.bool true) ∧ Below W.heap.size W w') := fun W => lives_any W
    have HBW : Below w8.heap.size w8 w8.drew := (Below.refl _ _).drew
    have K0 : w8.cell? ⟨w6.heap.size, 0, none⟩ = some (.int .i64 r.kind) ∧ w8.cell? ⟨w6.heap.size, 1, none⟩ = some (.string r.type) ∧ w8.cell? ⟨w6.heap.size, 2, none⟩ = some (.int .u64 r.bits) ∧ w8.cell? ⟨w6.heap.size, 3, none⟩ = some (.int .u64 r.imag) ∧ w8.cell? ⟨w6.heap.size, 4, none⟩ = some (.string r.text) ∧ w8.cell? ⟨w6.heap.size, 5, none⟩ = some (.slice g5 r.names.length g5') ∧ w8.cell? ⟨w6.heap.size, 6, none⟩ = some (.slice g6 r.parts.length g6') ∧ w8.cell? ⟨w6.heap.size, 7, none⟩ = some (.int .i64 r.hook) ∧ w8.cell? ⟨w1.heap.size, 0, none⟩ = some (.int .i64 k0x) ∧ w8.cell? ⟨w1.heap.size, 1, none⟩ = some (.string tyx) ∧ w8.cell? ⟨w1.heap.size, 2, none⟩ = some (.int .u64 b0x) ∧ w8.cell? ⟨w1.heap.size, 3, none⟩ = some (.int .u64 i0x) ∧ w8.cell? ⟨w1.heap.size, 4, none⟩ = some (.string txx) ∧ w8.cell? ⟨w1.heap.size, 5, none⟩ = some (.slice a5x n5x c5x) ∧ w8.cell? ⟨w1.heap.size, 6, none⟩ = some (.slice a6x n6x c6x) ∧ w8.cell? ⟨w1.heap.size, 7, none⟩ = some (.int .i64 h0x) := ⟨HBg8.out.c0, HBg8.out.c1, HBg8.out.c2, HBg8.out.c3, HBg8.out.c4, HBg8.out.c5, HBg8.out.c6, HBg8.out.c7, HBx8.out.c0, HBx8.out.c1, HBx8.out.c2, HBx8.out.c3, HBx8.out.c4, HBx8.out.c5, HBx8.out.c6, HBx8.out.c7⟩
    obtain ⟨z0, z1, z2, z3, z4, z5, z6, z7, z8, z9, z10, z11, z12, z13, z14, z15⟩ := K0
    refine late_begin [] (fun _ => True) (fun w' => w'.cell? ⟨w6.heap.size, 0, none⟩ = some (.int .i64 r.kind) ∧ w'.cell? ⟨w6.heap.size, 1, none⟩ = some (.string r.type) ∧ w'.cell? ⟨w6.heap.size, 2, none⟩ = some (.int .u64 r.bits) ∧ w'.cell? ⟨w6.heap.size, 3, none⟩ = some (.int .u64 r.imag) ∧ w'.cell? ⟨w6.heap.size, 4, none⟩ = some (.string r.text) ∧ w'.cell? ⟨w6.heap.size, 5, none⟩ = some (.slice g5 r.names.length g5') ∧ w'.cell? ⟨w6.heap.size, 6, none⟩ = some (.slice g6 r.parts.length g6') ∧ w'.cell? ⟨w6.heap.size, 7, none⟩ = some (.int .i64 r.hook) ∧ w'.cell? ⟨w1.heap.size, 0, none⟩ = some (.int .i64 k0x) ∧ w'.cell? ⟨w1.heap.size, 1, none⟩ = some (.string tyx) ∧ w'.cell? ⟨w1.heap.size, 2, none⟩ = some (.int .u64 b0x) ∧ w'.cell? ⟨w1.heap.size, 3, none⟩ = some (.int .u64 i0x) ∧ w'.cell? ⟨w1.heap.size, 4, none⟩ = some (.string txx) ∧ w'.cell? ⟨w1.heap.size, 5, none⟩ = some (.slice a5x n5x c5x) ∧ w'.cell? ⟨w1.heap.size, 6, none⟩ = some (.slice a6x n6x c6x) ∧ w'.cell? ⟨w1.heap.size, 7, none⟩ = some (.int .i64 h0x)) (by kernel_rfl) ?_
    refine late_take (i := 0) (.agg #[.int .i64 r.kind, .string r.type, .int .u64 r.bits, .int .u64 r.imag, .string r.text, .slice g5 r.names.length g5', .slice g6 r.parts.length g6', .int .i64 r.hook]) false rfl (by kernel_rfl) (by kernel_rfl) (by kernel_rfl) (by kernel_rfl) (fun h => by cases h) (fun _ _ _ h => h) (by rfl) (fun W hS hT => ?_) (fun _ => trivial) ⟨z0, z1, z2, z3, z4, z5, z6, z7, z8, z9, z10, z11, z12, z13, z14, z15⟩ (fun h => by cases h) ?_
    · (obtain ⟨x0, x1, x2, x3, x4, x5, x6, x7, x8, x9, x10, x11, x12, x13, x14, x15⟩ := hT; first | (go_simp; done) | (go_simp; with_reducible rfl))
    simp only [Act.put, List.getElem_toArray, List.getElem_cons_zero, List.getElem_cons_succ, List.setIfInBounds_toArray, List.set_cons_zero, List.set_cons_succ]
    refine late_take (i := 1) (.agg #[.int .i64 k0x, .string tyx, .int .u64 b0x, .int .u64 i0x, .string txx, .slice a5x n5x c5x, .slice a6x n6x c6x, .int .i64 h0x]) false rfl (by kernel_rfl) (by kernel_rfl) (by kernel_rfl) (by kernel_rfl) (fun h => by cases h) (fun _ _ _ h => h) (by rfl) (fun W hS hT => ?_) (fun _ => trivial) ⟨z0, z1, z2, z3, z4, z5, z6, z7, z8, z9, z10, z11, z12, z13, z14, z15⟩ (fun h => by cases h) ?_
    · (obtain ⟨x0, x1, x2, x3, x4, x5, x6, x7, x8, x9, x10, x11, x12, x13, x14, x15⟩ := hT; first | (go_simp; done) | (go_simp; with_reducible rfl))
    simp only [Act.put, List.getElem_toArray, List.getElem_cons_zero, List.getElem_cons_succ, List.setIfInBounds_toArray, List.set_cons_zero, List.set_cons_succ]
    refine late_one 2 rfl (by kernel_rfl) (fun K hK => ?_)
    try simp only [List.getElem_toArray, List.getElem_cons_zero, List.getElem_cons_succ]
    rw [if_pos (by rfl)]
    go_simp
    refine (HC16.out _ _ HBW (HDG8.out.later HBW)).mono ?_
    rintro e wa ⟨rfl, hbN⟩
    (try go_simp)
    have z0 := cell_below hbN z0
    have z1 := cell_below hbN z1
    have z2 := cell_below hbN z2
    have z3 := cell_below hbN z3
    have z4 := cell_below hbN z4
    have z5 := cell_below hbN z5
    have z6 := cell_below hbN z6
    have z7 := cell_below hbN z7
    have z8 := cell_below hbN z8
    have z9 := cell_below hbN z9
    have z10 := cell_below hbN z10
    have z11 := cell_below hbN z11
    have z12 := cell_below hbN z12
    have z13 := cell_below hbN z13
    have z14 := cell_below hbN z14
    have z15 := cell_below hbN z15
    have HBW := HBW.next hbN
    refine hK _ _ (fun _ => trivial) ⟨z0, z1, z2, z3, z4, z5, z6, z7, z8, z9, z10, z11, z12, z13, z14, z15⟩ ?_
    clear hK K hbN
    try simp only [Act.put, List.getElem_toArray, List.getElem_cons_zero, List.getElem_cons_succ, List.setIfInBounds_toArray, List.set_cons_zero, List.set_cons_succ]
    refine late_take (i := 3) (.bool true) false rfl (by kernel_rfl) (by kernel_rfl) (by kernel_rfl) (by kernel_rfl) (fun h => by cases h) (fun _ _ _ h => h) (by rfl) (fun W hS hT => ?_) (fun _ => trivial) ⟨z0, z1, z2, z3, z4, z5, z6, z7, z8, z9, z10, z11, z12, z13, z14, z15⟩ (fun h => by cases h) ?_
    · first | (go_simp; done) | (go_simp; with_reducible rfl) | rfl
    simp only [Act.put, List.getElem_toArray, List.getElem_cons_zero, List.getElem_cons_succ, List.setIfInBounds_toArray, List.set_cons_zero, List.set_cons_succ]
    refine late_take (i := 4) (.iface t' y') false rfl (by kernel_rfl) (by kernel_rfl) (by kernel_rfl) (by kernel_rfl) (fun h => by cases h) (fun _ _ _ h => h) (by rfl) (fun W hS hT => ?_) (fun _ => trivial) ⟨z0, z1, z2, z3, z4, z5, z6, z7, z8, z9, z10, z11, z12, z13, z14, z15⟩ (fun h => by cases h) ?_
    · first | (go_simp; done) | (go_simp; with_reducible rfl) | rfl
    simp only [Act.put, List.getElem_toArray, List.getElem_cons_zero, List.getElem_cons_succ, List.setIfInBounds_toArray, List.set_cons_zero, List.set_cons_succ]
    refine late_take (i := 6) (.agg #[.int .i64 k0x, .string tyx, .int .u64 b0x, .int .u64 i0x, .string txx, .slice a5x n5x c5x, .slice a6x n6x c6x, .int .i64 h0x]) false rfl (by kernel_rfl) (by kernel_rfl) (by kernel_rfl) (by kernel_rfl) (fun h => by cases h) (fun _ _ _ h => h) (by rfl) (fun W hS hT => ?_) (fun _ => trivial) ⟨z0, z1, z2, z3, z4, z5, z6, z7, z8, z9, z10, z11, z12, z13, z14, z15⟩ (fun h => by cases h) ?_
    · (obtain ⟨x0, x1, x2, x3, x4, x5, x6, x7, x8, x9, x10, x11, x12, x13, x14, x15⟩ := hT; first | (go_simp; done) | (go_simp; with_reducible rfl))
    simp only [Act.put, List.getElem_toArray, List.getElem_cons_zero, List.getElem_cons_succ, List.setIfInBounds_toArray, List.set_cons_zero, List.set_cons_succ]
    refine late_one 5 rfl (by kernel_rfl) (fun K hK => ?_)
    try simp only [List.getElem_toArray, List.getElem_cons_zero, List.getElem_cons_succ]
    rw [if_pos (by rfl)]
    go_simp
    refine (HC17.out _ HBW).mono ?_
    rintro e wb ⟨hbN, f5, f5', f6, f6', rfl, hdf⟩
    (try go_simp)
    have z0 := cell_below hbN z0
    have z1 := cell_below hbN z1
    have z2 := cell_below hbN z2
    have z3 := cell_below hbN z3
    have z4 := cell_below hbN z4
    have z5 := cell_below hbN z5
    have z6 := cell_below hbN z6
    have z7 := cell_below hbN z7
    have z8 := cell_below hbN z8
    have z9 := cell_below hbN z9
    have z10 := cell_below hbN z10
    have z11 := cell_below hbN z11
    have z12 := cell_below hbN z12
    have z13 := cell_below hbN z13
    have z14 := cell_below hbN z14
    have z15 := cell_below hbN z15
    have HBW := HBW.next hbN
    have HDR := Lib.hid hdf.isD
    clear hdf
    refine hK _ _ (fun _ => trivial) ⟨z0, z1, z2, z3, z4, z5, z6, z7, z8, z9, z10, z11, z12, z13, z14, z15⟩ ?_
    clear hK K hbN
    try simp only [Act.put, List.getElem_toArray, List.getElem_cons_zero, List.getElem_cons_succ, List.setIfInBounds_toArray, List.set_cons_zero, List.set_cons_succ]
    refine late_one 7 rfl (by kernel_rfl) (fun K hK => ?_)
    try simp only [List.getElem_toArray, List.getElem_cons_zero, List.getElem_cons_succ]
    rw [if_pos (by rfl)]
    go_simp
    refine (HC16.out _ _ HBW HDR.out).mono ?_
    rintro e wc ⟨rfl, hbN⟩
    (try go_simp)
    have z0 := cell_below hbN z0
    have z1 := cell_below hbN z1
    have z2 := cell_below hbN z2
    have z3 := cell_below hbN z3
    have z4 := cell_below hbN z4
    have z5 := cell_below hbN z5
    have z6 := cell_below hbN z6
    have z7 := cell_below hbN z7
    have z8 := cell_below hbN z8
    have z9 := cell_below hbN z9
    have z10 := cell_below hbN z10
    have z11 := cell_below hbN z11
    have z12 := cell_below hbN z12
    have z13 := cell_below hbN z13
    have z14 := cell_below hbN z14
    have z15 := cell_below hbN z15
    have HBW := HBW.next hbN
    refine hK _ _ (fun _ => trivial) ⟨z0, z1, z2, z3, z4, z5, z6, z7, z8, z9, z10, z11, z12, z13, z14, z15⟩ ?_
    clear hK K hbN
    try simp only [Act.put, List.getElem_toArray, List.getElem_cons_zero, List.getElem_cons_succ, List.setIfInBounds_toArray, List.set_cons_zero, List.set_cons_succ]
    refine late_take (i := 8) (.bool true) false rfl (by kernel_rfl) (by kernel_rfl) (by kernel_rfl) (by kernel_rfl) (fun h => by cases h) (fun _ _ _ h => h) (by rfl) (fun W hS hT => ?_) (fun _ => trivial) ⟨z0, z1, z2, z3, z4, z5, z6, z7, z8, z9, z10, z11, z12, z13, z14, z15⟩ (fun h => by cases h) ?_
    · first | (go_simp; done) | (go_simp; with_reducible rfl) | rfl
    simp only [Act.put, List.getElem_toArray, List.getElem_cons_zero, List.getElem_cons_succ, List.setIfInBounds_toArray, List.set_cons_zero, List.set_cons_succ]
    refine late_take (i := 9) (.bool true) false rfl (by kernel_rfl) (by kernel_rfl) (by kernel_rfl) (by kernel_rfl) (fun h => by cases h) (fun _ _ _ h => h) (by rfl) (fun W hS hT => ?_) (fun _ => trivial) ⟨z0, z1, z2, z3, z4, z5, z6, z7, z8, z9, z10, z11, z12, z13, z14, z15⟩ (fun h => by cases h) ?_
    · first | (go_simp; done) | (go_simp; with_reducible rfl) | rfl
    simp only [Act.put, List.getElem_toArray, List.getElem_cons_zero, List.getElem_cons_succ, List.setIfInBounds_toArray, List.set_cons_zero, List.set_cons_succ]
    refine late_take (i := 10) (v) false rfl (by kernel_rfl) (by kernel_rfl) (by kernel_rfl) (by kernel_rfl) (fun h => by cases h) (fun _ _ _ h => h) (by rfl) (fun W hS hT => ?_) (fun _ => trivial) ⟨z0, z1, z2, z3, z4, z5, z6, z7, z8, z9, z10, z11, z12, z13, z14, z15⟩ (fun h => by cases h) ?_
    · first | (go_simp; done) | (go_simp; with_reducible rfl) | rfl
    simp only [Act.put, List.getElem_toArray, List.getElem_cons_zero, List.getElem_cons_succ, List.setIfInBounds_toArray, List.set_cons_zero, List.set_cons_succ]
    refine late_take (i := 12) (.agg #[.int .i64 k0x, .string tyx, .int .u64 b0x, .int .u64 i0x, .string txx, .slice a5x n5x c5x, .slice a6x n6x c6x, .int .i64 h0x]) false rfl (by kernel_rfl) (by kernel_rfl) (by kernel_rfl) (by kernel_rfl) (fun h => by cases h) (fun _ _ _ h => h) (by rfl) (fun W hS hT => ?_) (fun _ => trivial) ⟨z0, z1, z2, z3, z4, z5, z6, z7, z8, z9, z10, z11, z12, z13, z14, z15⟩ (fun h => by cases h) ?_
    · (obtain ⟨x0, x1, x2, x3, x4, x5, x6, x7, x8, x9, x10, x11, x12, x13, x14, x15⟩ := hT; first | (go_simp; done) | (go_simp; with_reducible rfl))
    simp only [Act.put, List.getElem_toArray, List.getElem_cons_zero, List.getElem_cons_succ, List.setIfInBounds_toArray, List.set_cons_zero, List.set_cons_succ]
    refine late_one 11 rfl (by kernel_rfl) (fun K hK => ?_)
    try simp only [List.getElem_toArray, List.getElem_cons_zero, List.getElem_cons_succ]
    rw [if_pos (by rfl)]
    go_simp
    refine (HC17'.out _ HBW).mono ?_
    rintro e wd ⟨hbN, p5, p5', p6, p6', rfl, hdf⟩
    (try go_simp)
    have z0 := cell_below hbN z0
    have z1 := cell_below hbN z1
    have z2 := cell_below hbN z2
    have z3 := cell_below hbN z3
    have z4 := cell_below hbN z4
    have z5 := cell_below hbN z5
    have z6 := cell_below hbN z6
    have z7 := cell_below hbN z7
    have z8 := cell_below hbN z8
    have z9 := cell_below hbN z9
    have z10 := cell_below hbN z10
    have z11 := cell_below hbN z11
    have z12 := cell_below hbN z12
    have z13 := cell_below hbN z13
    have z14 := cell_below hbN z14
    have z15 := cell_below hbN z15
    have HBW := HBW.next hbN
    have HDR := Lib.hid hdf.isD
    clear hdf
    refine hK _ _ (fun _ => trivial) ⟨z0, z1, z2, z3, z4, z5, z6, z7, z8, z9, z10, z11, z12, z13, z14, z15⟩ ?_
    clear hK K hbN
    try simp only [Act.put, List.getElem_toArray, List.getElem_cons_zero, List.getElem_cons_succ, List.setIfInBounds_toArray, List.set_cons_zero, List.set_cons_succ]
    refine late_one 13 rfl (by kernel_rfl) (fun K hK => ?_)
    try simp only [List.getElem_toArray, List.getElem_cons_zero, List.getElem_cons_succ]
    rw [if_pos (by rfl)]
    go_simp
    refine (HC16.out _ _ HBW HDR.out).mono ?_
    rintro e we ⟨rfl, hbN⟩
    (try go_simp)
    have z0 := cell_below hbN z0
    have z1 := cell_below hbN z1
    have z2 := cell_below hbN z2
    have z3 := cell_below hbN z3
    have z4 := cell_below hbN z4
    have z5 := cell_below hbN z5
    have z6 := cell_below hbN z6
    have z7 := cell_below hbN z7
    have z8 := cell_below hbN z8
    have z9 := cell_below hbN z9
    have z10 := cell_below hbN z10
    have z11 := cell_below hbN z11
    have z12 := cell_below hbN z12
    have z13 := cell_below hbN z13
    have z14 := cell_below hbN z14
    have z15 := cell_below hbN z15
    have HBW := HBW.next hbN
    refine hK _ _ (fun _ => trivial) ⟨z0, z1, z2, z3, z4, z5, z6, z7, z8, z9, z10, z11, z12, z13, z14, z15⟩ ?_
    clear hK K hbN
    try simp only [Act.put, List.getElem_toArray, List.getElem_cons_zero, List.getElem_cons_succ, List.setIfInBounds_toArray, List.set_cons_zero, List.set_cons_succ]
    refine late_take (i := 14) (.bool true) false rfl (by kernel_rfl) (by kernel_rfl) (by kernel_rfl) (by kernel_rfl) (fun h => by cases h) (fun _ _ _ h => h) (by rfl) (fun W hS hT => ?_) (fun _ => trivial) ⟨z0, z1, z2, z3, z4, z5, z6, z7, z8, z9, z10, z11, z12, z13, z14, z15⟩ (fun h => by cases h) ?_
    · first | (go_simp; done) | (go_simp; with_reducible rfl) | rfl
    simp only [Act.put, List.getElem_toArray, List.getElem_cons_zero, List.getElem_cons_succ, List.setIfInBounds_toArray, List.set_cons_zero, List.set_cons_succ]
    refine late_take (i := 15) (.bool true) false rfl (by kernel_rfl) (by kernel_rfl) (by kernel_rfl) (by kernel_rfl) (fun h => by cases h) (fun _ _ _ h => h) (by rfl) (fun W hS hT => ?_) (fun _ => trivial) ⟨z0, z1, z2, z3, z4, z5, z6, z7, z8, z9, z10, z11, z12, z13, z14, z15⟩ (fun h => by cases h) ?_
    · first | (go_simp; done) | (go_simp; with_reducible rfl) | rfl
    simp only [Act.put, List.getElem_toArray, List.getElem_cons_zero, List.getElem_cons_succ, List.setIfInBounds_toArray, List.set_cons_zero, List.set_cons_succ]
    refine late_one 16 rfl (by kernel_rfl) (fun K hK => ?_)
    try simp only [List.getElem_toArray, List.getElem_cons_zero, List.getElem_cons_succ]
    rw [if_pos (by rfl)]
    go_simp
    refine (HC13.out _).mono ?_
    rintro e wf ⟨rfl, hbN⟩
    (try go_simp)
    have z0 := cell_below hbN z0
    have z1 := cell_below hbN z1
    have z2 := cell_below hbN z2
    have z3 := cell_below hbN z3
    have z4 := cell_below hbN z4
    have z5 := cell_below hbN z5
    have z6 := cell_below hbN z6
    have z7 := cell_below hbN z7
    have z8 := cell_below hbN z8
    have z9 := cell_below hbN z9
    have z10 := cell_below hbN z10
    have z11 := cell_below hbN z11
    have z12 := cell_below hbN z12
    have z13 := cell_below hbN z13
    have z14 := cell_below hbN z14
    have z15 := cell_below hbN z15
    have HBW := HBW.next hbN
    refine hK _ _ (fun _ => trivial) ⟨z0, z1, z2, z3, z4, z5, z6, z7, z8, z9, z10, z11, z12, z13, z14, z15⟩ ?_
    clear hK K hbN
    try simp only [Act.put, List.getElem_toArray, List.getElem_cons_zero, List.getElem_cons_succ, List.setIfInBounds_toArray, List.set_cons_zero, List.set_cons_succ]
    refine late_take (i := 17) (.bool true) false rfl (by kernel_rfl) (by kernel_rfl) (by kernel_rfl) (by kernel_rfl) (fun h => by cases h) (fun _ _ _ h => h) (by rfl) (fun W hS hT => ?_) (fun _ => trivial) ⟨z0, z1, z2, z3, z4, z5, z6, z7, z8, z9, z10, z11, z12, z13, z14, z15⟩ (fun h => by cases h) ?_
    · first | (go_simp; done) | (go_simp; with_reducible rfl) | rfl
    simp only [Act.put, List.getElem_toArray, List.getElem_cons_zero, List.getElem_cons_succ, List.setIfInBounds_toArray, List.set_cons_zero, List.set_cons_succ]
    refine late_take (i := 18) (.bool true) false rfl (by kernel_rfl) (by kernel_rfl) (by kernel_rfl) (by kernel_rfl) (fun h => by cases h) (fun _ _ _ h => h) (by rfl) (fun W hS hT => ?_) (fun _ => trivial) ⟨z0, z1, z2, z3, z4, z5, z6, z7, z8, z9, z10, z11, z12, z13, z14, z15⟩ (fun h => by cases h) ?_
    · first | (go_simp; done) | (go_simp; with_reducible rfl) | rfl
    simp only [Act.put, List.getElem_toArray, List.getElem_cons_zero, List.getElem_cons_succ, List.setIfInBounds_toArray, List.set_cons_zero, List.set_cons_succ]
    refine late_done (by kernel_rfl) ?_ _
    have HBF := Lib.hid (HBW8.out.next HBW)
    go_wp2_with fail
    go_ret
    exact ⟨rfl, HBF.out⟩
end Go.Proofs.Ythpgnhmikffcpaa
