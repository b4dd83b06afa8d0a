/- The law's helper Built. Condition: the argument is a descriptor. -/
import Derived.Test.YtkpfeodffhfejaaGreatDoorCA34
namespace Go.Proofs.YtkpfeodffhfejaaGreatDoor
set_option linter.unusedVariables false
set_option maxRecDepth 1000000
set_option linter.unusedSimpArgs false
open Go.RowKit

/-- What Built hands back: a value and its descriptor. -/
def BuiltPost (w : World) (d : D) (e : Ending) (w' : World) : Prop :=
  Below w.heap.size w w' ∧ ∃ v k0 ty b0 i0 tx a5 n5 c5 a6 n6 c6 h0 x, e = .returned (.tuple #[v, .agg #[.int .i64 k0, .string ty, .int .u64 b0, .int .u64 i0, .string tx, .slice a5 n5 c5, .slice a6 n6 c6, .int .i64 h0]]) ∧
    IsD w' (.agg #[.int .i64 k0, .string ty, .int .u64 b0, .int .u64 i0, .string tx, .slice a5 n5 c5, .slice a6 n6 c6, .int .i64 h0]) (rawV x) ∧
    (v = .nilIface ∧ x = .nil ∨ (∃ t y, v = .iface t y) ∧ wholeD d < 400 ∧ errD d = 0 ∧ mkV d = some x ∧ IsVF (w.heap.size ≤ ·) w' v x)
set_option maxRecDepth 100000 in
set_option maxHeartbeats 4000000 in
theorem built_any {w : World} {v : Value} {d : D} (h : IsD w v d) : Calls Tryz.prog 9 #[v] w (BuiltPost w d) := by
  have HD := Lib.hid h
  obtain ⟨a5, c5, a6, c6, rfl, hk, hb, hi, ht, hx, hn, hp⟩ := h.open
  clear hp hn hb hi hk ht hx h
  unfold aggD at HD ⊢
  go_enter Tryz.func9, Tryz.ntmps9
  go_wp2_with fail
  have HB0 := Lib.hid ((Below.new (w := w) (.cells #[.int .i64 d.kind, .string d.type, .int .u64 d.bits, .int .u64 d.imag, .string d.text, .slice a5 d.names.length c5, .slice a6 d.parts.length c6, .int .i64 d.hook] 26)).push (.cells #[.int .i64 0, .string ⟨#[]⟩, .int .u64 0, .int .u64 0, .string ⟨#[]⟩, .slice none 0 0, .slice none 0 0, .int .i64 0] 26))
  have HBox : Hid (BoxD ((w.alloc (.cells #[.int .i64 d.kind, .string d.type, .int .u64 d.bits, .int .u64 d.imag, .string d.text, .slice a5 d.names.length c5, .slice a6 d.parts.length c6, .int .i64 d.hook] 26)).alloc (.cells #[.int .i64 0, .string ⟨#[]⟩, .int .u64 0, .int .u64 0, .string ⟨#[]⟩, .slice none 0 0, .slice none 0 0, .int .i64 0] 26)) w.heap.size d a5 c5 a6 c6) := (BoxD.new w d a5 c5 a6 c6).later (Below.new _)
  have HBr : Hid (Blk ((w.alloc (.cells #[.int .i64 d.kind, .string d.type, .int .u64 d.bits, .int .u64 d.imag, .string d.text, .slice a5 d.names.length c5, .slice a6 d.parts.length c6, .int .i64 d.hook] 26)).alloc (.cells #[.int .i64 0, .string ⟨#[]⟩, .int .u64 0, .int .u64 0, .string ⟨#[]⟩, .slice none 0 0, .slice none 0 0, .int .i64 0] 26)) (w.heap.size + 1) (.int .i64 0) (.string ⟨#[]⟩) (.int .u64 0) (.int .u64 0) (.string ⟨#[]⟩) (.slice none 0 0) (.slice none 0 0) (.int .i64 0)) := by
    have := Blk.of (heap_alloc_new (w.alloc (.cells #[.int .i64 d.kind, .string d.type, .int .u64 d.bits, .int .u64 d.imag, .string d.text, .slice a5 d.names.length c5, .slice a6 d.parts.length c6, .int .i64 d.hook] 26)) (.cells #[.int .i64 0, .string ⟨#[]⟩, .int .u64 0, .int .u64 0, .string ⟨#[]⟩, .slice none 0 0, .slice none 0 0, .int .i64 0] 26))
    exact Lib.hid (by simpa using this)
  generalize (w.alloc (.cells #[.int .i64 d.kind, .string d.type, .int .u64 d.bits, .int .u64 d.imag, .string d.text, .slice a5 d.names.length c5, .slice a6 d.parts.length c6, .int .i64 d.hook] 26)).alloc (.cells #[.int .i64 0, .string ⟨#[]⟩, .int .u64 0, .int .u64 0, .string ⟨#[]⟩, .slice none 0 0, .slice none 0 0, .int .i64 0] 26) = w0 at HB0 HBox HBr ⊢
  refine (big_any (HD.out.later HB0.out)).mono ?_
  rintro e w1 ⟨rfl, hB1⟩
  have HB1 := Lib.hid hB1
  have HBx1 := Lib.hid (HBox.out.later hB1)
  have HBr1 := Lib.hid (HBr.out.below hB1)
  have HBW := Lib.hid (HB0.out.next hB1)
  clear hB1
  by_cases hbig : 400 ≤ wholeD d
  · rw [decide_eq_true hbig]
    have HBG := Lib.hid hbig
    clear hbig
    obtain ⟨r0, r1, r2, r3, r4, r5, r6, r7, rf⟩ := HBr1.out
    have rf0 := rf 0
    have rf1 := rf 1
    have rf2 := rf 2
    have rf3 := rf 3
    have rf4 := rf 4
    have rf5 := rf 5
    have rf6 := rf 6
    have rf7 := rf 7
    clear rf
    go_wp2_with fail
    change bodyPost Tryz.prog Tryz.f9 _ _ _ (st8 w1 (w.heap.size + 1) (.int .i64 0) (.string ⟨#[]⟩) (.int .u64 0) (.int .u64 0) (.string ⟨#[]⟩) (.slice none 0 0) (.slice none 0 0) (.int .i64 0))
    have hb3 := Blk.put w1 (w.heap.size + 1) HBr1.out (.int .i64 0) (.string ⟨#[]⟩) (.int .u64 0) (.int .u64 0) (.string ⟨#[]⟩) (.slice none 0 0) (.slice none 0 0) (.int .i64 0)
    have HBW3 := Lib.hid (st8_below HBW.out (by omega : w.heap.size ≤ w.heap.size + 1) (.int .i64 0) (.string ⟨#[]⟩) (.int .u64 0) (.int .u64 0) (.string ⟨#[]⟩) (.slice none 0 0) (.slice none 0 0) (.int .i64 0))
    generalize st8 w1 (w.heap.size + 1) (.int .i64 0) (.string ⟨#[]⟩) (.int .u64 0) (.int .u64 0) (.string ⟨#[]⟩) (.slice none 0 0) (.slice none 0 0) (.int .i64 0) = W9 at hb3 HBW3 ⊢
    clear r0 r1 r2 r3 r4 r5 r6 r7 rf0 rf1 rf2 rf3 rf4 rf5 rf6 rf7
    have zc0 := hb3.c0
    have zc1 := hb3.c1
    have zc2 := hb3.c2
    have zc3 := hb3.c3
    have zc4 := hb3.c4
    have zc5 := hb3.c5
    have zc6 := hb3.c6
    have zc7 := hb3.c7
    refine bodyPost_ret (v := .tuple #[.nilIface, .agg #[.int .i64 0, .string ⟨#[]⟩, .int .u64 0, .int .u64 0, .string ⟨#[]⟩, .slice none 0 0, .slice none 0 0, .int .i64 0]]) (by simp [results, Tryz.f9, go_sem, zc0, zc1, zc2, zc3, zc4, zc5, zc6, zc7]) rfl ?_
    exact ⟨HBW3.out, _, _, _, _, _, _, _, _, _, _, _, _, _, V.nil, rfl, zeroA_is _, .inl ⟨rfl, rfl⟩⟩
  · rw [decide_eq_false hbig]
    have HSM : Hid (wholeD d < 400) := by show _ < _; omega
    clear hbig
    obtain ⟨q0, q1, q2, q3, q4, q5, q6, q7⟩ := HBx1.out
    go_wp2_with fail
    refine (build_any (HD.out.later HBW.out)).mono ?_
    rintro e w2 ⟨hB2, hbad, hgood⟩
    have HB2 := Lib.hid hB2
    have HBx2 := Lib.hid (HBx1.out.later hB2)
    have HBr2 := Lib.hid (HBr1.out.below hB2)
    have HBW2 := Lib.hid (HBW.out.next hB2)
    have HV : Hid (∃ v, e = .returned (.tuple #[v, .int .i64 (errD d)]) ∧ (errD d = 0 → ∃ t y, v = .iface t y) ∧ (errD d = 0 → ∃ x, mkV d = some x ∧ IsVF (w1.heap.size ≤ ·) w2 v x)) := by
      by_cases h0 : errD d = 0
      · obtain ⟨t, y, x, h1, h2, h3⟩ := hgood h0
        exact Lib.hid ⟨.iface t y, by rw [h0]; exact h2, fun _ => ⟨t, y, rfl⟩, fun _ => ⟨x, h1, h3⟩⟩
      · exact Lib.hid ⟨.nilIface, hbad h0, fun h => absurd h h0, fun h => absurd h h0⟩
    obtain ⟨v, rfl, hv1, hv2⟩ := HV.out
    have HV1 := Lib.hid hv1
    have HV2 := Lib.hid hv2
    clear hB2 hbad hgood HV hv1 hv2 q0 q1 q2 q3 q4 q5 q6 q7
    obtain ⟨c, hc⟩ : ∃ c, errD d = c := ⟨_, rfl⟩
    have HC := Lib.hid hc
    rw [hc]
    clear hc
    obtain ⟨q0, q1, q2, q3, q4, q5, q6, q7⟩ := HBx2.out
    go_wp2_with fail
    refine (refBuild_any (HD.out.later HBW2.out)).mono ?_
    rintro e w3 ⟨hB3, k0, ty, b0, i0, tx, a5', n5, c5', a6', n6, c6', h0, du, rfl, hdu, hgood⟩
    rw [HC.out]
    have HB3 := Lib.hid hB3
    have HDU := Lib.hid hdu
    have HG := Lib.hid hgood
    have HBr3 := Lib.hid (HBr2.out.below hB3)
    have HBW3 := Lib.hid (HBW2.out.next hB3)
    clear hB3 hdu hgood q0 q1 q2 q3 q4 q5 q6 q7
    go_upto_region 5 with fail
    have HBr4 := Lib.hid (HBr3.out.below (Below.new (.cells #[.int .i64 k0, .string ty, .int .u64 b0, .int .u64 i0, .string tx, .slice a5' n5 c5', .slice a6' n6 c6', .int .i64 h0] 26)))
    have HB4 := Lib.hid (HBW3.out.push (.cells #[.int .i64 k0, .string ty, .int .u64 b0, .int .u64 i0, .string tx, .slice a5' n5 c5', .slice a6' n6 c6', .int .i64 h0] 26))
    have HBx := Lib.hid (Blk.of (heap_alloc_new w3 (.cells #[.int .i64 k0, .string ty, .int .u64 b0, .int .u64 i0, .string tx, .slice a5' n5 c5', .slice a6' n6 c6', .int .i64 h0] 26)))
    have HDU4 := Lib.hid (HDU.out.later (Below.new (.cells #[.int .i64 k0, .string ty, .int .u64 b0, .int .u64 i0, .string tx, .slice a5' n5 c5', .slice a6' n6 c6', .int .i64 h0] 26)))
    have HZ1 : Hid (w.heap.size + 1 < w1.heap.size) := World.block_lt_of_cell? w1 _ HBr1.out.c0
    have HZ12 := Lib.hid HB2.out.size
    have hB34 : Below w3.heap.size w3 (w3.alloc (.cells #[.int .i64 k0, .string ty, .int .u64 b0, .int .u64 i0, .string tx, .slice a5' n5 c5', .slice a6' n6 c6', .int .i64 h0] 26)) := Below.new _
    have HB34 := Lib.hid hB34
    have hne : w3.heap.size ≠ w.heap.size + 1 := by
      have := World.block_lt_of_cell? w3 _ HBr3.out.c0
      simp only at this
      omega
    generalize w3.alloc (.cells #[.int .i64 k0, .string ty, .int .u64 b0, .int .u64 i0, .string tx, .slice a5' n5 c5', .slice a6' n6 c6', .int .i64 h0] 26) = W4 at HBr4 HB4 HBx HDU4 HB34 hB34 ⊢
    clear hB34
    obtain ⟨r0, r1, r2, r3, r4, r5, r6, r7, rf⟩ := HBr4.out
    have rf0 := rf 0
    have rf1 := rf 1
    have rf2 := rf 2
    have rf3 := rf 3
    have rf4 := rf 4
    have rf5 := rf 5
    have rf6 := rf 6
    have rf7 := rf 7
    obtain ⟨s0, s1, s2, s3, s4, s5, s6, s7, sf⟩ := HBx.out
    clear rf sf
    by_cases hc0 : c = 0
    · have HC0 := Lib.hid hc0
      subst hc0
      go_upto_region 7 with fail
      go_region
      all_goals
        go_wp2_with fail
        change bodyPost Tryz.prog Tryz.f9 _ _ _ (st8 W4 (w.heap.size + 1) (.int .i64 k0) (.string ty) (.int .u64 b0) (.int .u64 i0) (.string tx) (.slice a5' n5 c5') (.slice a6' n6 c6') (.int .i64 h0)).drew
        have hb3 := (Blk.put W4 (w.heap.size + 1) HBr4.out (.int .i64 k0) (.string ty) (.int .u64 b0) (.int .u64 i0) (.string tx) (.slice a5' n5 c5') (.slice a6' n6 c6') (.int .i64 h0)).drew
        have HBW9 := Lib.hid (st8_below HB4.out (by omega : w.heap.size ≤ w.heap.size + 1) (.int .i64 k0) (.string ty) (.int .u64 b0) (.int .u64 i0) (.string tx) (.slice a5' n5 c5') (.slice a6' n6 c6') (.int .i64 h0)).drew
        have HKP : Hid (∀ k, k ≠ w.heap.size + 1 → (st8 W4 (w.heap.size + 1) (.int .i64 k0) (.string ty) (.int .u64 b0) (.int .u64 i0) (.string tx) (.slice a5' n5 c5') (.slice a6' n6 c6') (.int .i64 h0)).drew.heap[k]? = W4.heap[k]?) := fun k hk => st8_drew hk
        generalize (st8 W4 (w.heap.size + 1) (.int .i64 k0) (.string ty) (.int .u64 b0) (.int .u64 i0) (.string tx) (.slice a5' n5 c5') (.slice a6' n6 c6') (.int .i64 h0)).drew = W9 at hb3 HBW9 HKP ⊢
        clear r0 r1 r2 r3 r4 r5 r6 r7 rf0 rf1 rf2 rf3 rf4 rf5 rf6 rf7 s0 s1 s2 s3 s4 s5 s6 s7
        obtain ⟨zc0, zc1, zc2, zc3, zc4, zc5, zc6, zc7, _⟩ := hb3
        refine bodyPost_ret (v := .tuple #[v, .agg #[.int .i64 k0, .string ty, .int .u64 b0, .int .u64 i0, .string tx, .slice a5' n5 c5', .slice a6' n6 c6', .int .i64 h0]]) (by simp [results, Tryz.f9, go_sem, zc0, zc1, zc2, zc3, zc4, zc5, zc6, zc7]) rfl ?_
        obtain ⟨x, hx, hvf⟩ := HV2.out HC.out
        obtain ⟨x', hx', hdu⟩ := HG.out HC.out
        rw [hx] at hx'
        injection hx' with hx'
        subst hx'
        have hD9 := (HDU4.out.keep fun k _ hk => HKP.out k (ne_of2 HZ1.out HZ12.out hk)).isD
        rw [hdu] at hD9
        have hvf9 : IsVF (w.heap.size ≤ ·) W9 v x := by
          refine hvf.keep fun k hk hk' => ⟨le_of2 HB0.out HB1.out hk', ?_⟩
          have hk2 : w1.heap.size ≤ k := hk'
          have hz1 := HZ1.out
          have hz3 := HB3.out.size
          rw [HKP.out k (by omega), HB34.out.block k (by omega), HB3.out.block k hk]
        refine ⟨HBW9.out, _, _, _, _, _, _, _, _, _, _, _, _, _, x, rfl, hD9, ?_⟩
        exact .inr ⟨HV1.out HC.out, HSM.out, HC.out, hx, hvf9⟩
    · have hc1 : (c != 0) = true := by simpa using hc0
      clear hc0
      go_wp2_with fail
      change bodyPost Tryz.prog Tryz.f9 _ _ _ (st8 W4 (w.heap.size + 1) (.int .i64 0) (.string ⟨#[]⟩) (.int .u64 0) (.int .u64 0) (.string ⟨#[]⟩) (.slice none 0 0) (.slice none 0 0) (.int .i64 0))
      have hb3 := Blk.put W4 (w.heap.size + 1) HBr4.out (.int .i64 0) (.string ⟨#[]⟩) (.int .u64 0) (.int .u64 0) (.string ⟨#[]⟩) (.slice none 0 0) (.slice none 0 0) (.int .i64 0)
      have HBW9 := Lib.hid (st8_below HB4.out (by omega : w.heap.size ≤ w.heap.size + 1) (.int .i64 0) (.string ⟨#[]⟩) (.int .u64 0) (.int .u64 0) (.string ⟨#[]⟩) (.slice none 0 0) (.slice none 0 0) (.int .i64 0))
      generalize st8 W4 (w.heap.size + 1) (.int .i64 0) (.string ⟨#[]⟩) (.int .u64 0) (.int .u64 0) (.string ⟨#[]⟩) (.slice none 0 0) (.slice none 0 0) (.int .i64 0) = W9 at hb3 HBW9 ⊢
      clear r0 r1 r2 r3 r4 r5 r6 r7 rf0 rf1 rf2 rf3 rf4 rf5 rf6 rf7 s0 s1 s2 s3 s4 s5 s6 s7
      obtain ⟨zc0, zc1, zc2, zc3, zc4, zc5, zc6, zc7, _⟩ := hb3
      refine bodyPost_ret (v := .tuple #[.nilIface, .agg #[.int .i64 0, .string ⟨#[]⟩, .int .u64 0, .int .u64 0, .string ⟨#[]⟩, .slice none 0 0, .slice none 0 0, .int .i64 0]]) (by simp [results, Tryz.f9, go_sem, zc0, zc1, zc2, zc3, zc4, zc5, zc6, zc7]) rfl ?_
      exact ⟨HBW9.out, _, _, _, _, _, _, _, _, _, _, _, _, _, V.nil, rfl, zeroA_is _, .inl ⟨rfl, rfl⟩⟩
end Go.Proofs.YtkpfeodffhfejaaGreatDoor
