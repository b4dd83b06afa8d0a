/- The reference's Build, and the law's helper built. Condition: the argument is a descriptor. -/
import Derived.Test.YtkpfeodffhfejaaGreatDoorCA33
import Derived.Test.YtkpfeodffhfejaaGreatDoorCA31
import Derived.BigRegion
import Derived.Deep.RegionHeld3
namespace Go.Proofs.YtkpfeodffhfejaaGreatDoor
set_option linter.unusedVariables false
set_option maxRecDepth 1000000
set_option linter.unusedSimpArgs false
open Go.RowKit

theorem err_zero {d : D} (h : errD d = 0) : sizeD d ≤ 64 ∧ allD kindB d = true ∧ allD formB d = true ∧ ∃ x, mkV d = some x := by
  rw [errD_is] at h
  by_cases h1 : 64 < sizeD d ∨ 1024 < textD d
  · rw [if_pos h1] at h; cases h
  · rw [if_neg h1] at h
    by_cases h2 : 8 < depthD d
    · rw [if_pos h2] at h; cases h
    · rw [if_neg h2] at h
      by_cases h3 : allD kindB d = false
      · rw [if_pos h3] at h; cases h
      · rw [if_neg h3] at h
        by_cases h4 : allD formB d = false
        · rw [if_pos h4] at h; cases h
        · rw [if_neg h4] at h
          cases hm : mkV d with
          | none => rw [if_pos hm] at h; cases h
          | some x => exact ⟨by omega, by simpa using h3, by simpa using h4, x, rfl⟩
theorem ne_of2 {a b c k : Nat} (h1 : a + 1 < b) (h2 : b ≤ c) (hk : c ≤ k) : k ≠ a + 1 := by omega
theorem le_of2 {w w0 w1 : World} (h0 : Below w.heap.size w w0) (h1 : Below w0.heap.size w0 w1) {k : Nat} (hk : w1.heap.size ≤ k) : w.heap.size ≤ k := by
  have := h0.size
  have := h1.size
  omega
theorem drew_heap (w : World) : w.drew.heap = w.heap := rfl
theorem st8_drew {w : World} {b : Nat} {u0 u1 u2 u3 u4 u5 u6 u7 : Value} {k : Nat} (h : k ≠ b) : (st8 w b u0 u1 u2 u3 u4 u5 u6 u7).drew.heap[k]? = w.heap[k]? := by
  rw [drew_heap]
  exact st8_other h
def zeroA : Value := .agg #[.int .i64 0, .string ⟨#[]⟩, .int .u64 0, .int .u64 0, .string ⟨#[]⟩, .slice none 0 0, .slice none 0 0, .int .i64 0]
theorem zeroA_is (w : World) : IsD w zeroA zeroD := bareV_is (k := 0) (b := 0) I64_0 U64_0 w
/-- What the reference's Build hands back. -/
def RefPost (w : World) (d : D) (e : Ending) (w' : World) : Prop :=
  Below w.heap.size w w' ∧ ∃ k0 ty b0 i0 tx a5 n5 c5 a6 n6 c6 h0 du, e = .returned (.tuple #[.agg #[.int .i64 k0, .string ty, .int .u64 b0, .int .u64 i0, .string tx, .slice a5 n5 c5, .slice a6 n6 c6, .int .i64 h0], .int .i64 (errD d)]) ∧
    IsDF w' (w.heap.size ≤ ·) (.agg #[.int .i64 k0, .string ty, .int .u64 b0, .int .u64 i0, .string tx, .slice a5 n5 c5, .slice a6 n6 c6, .int .i64 h0]) du ∧ (errD d = 0 → ∃ x, mkV d = some x ∧ du = rawV x)
theorem tup2 {a : Value} {k : IntKind} {x y : Int} (h : x = y) : Ending.returned (.tuple #[a, .int k x]) = .returned (.tuple #[a, .int k y]) := by rw [h]
set_option maxRecDepth 100000 in
set_option maxHeartbeats 2000000 in
theorem refBuild_any {w : World} {v : Value} {d : D} (h : IsD w v d) : Calls Tryz.prog 23 #[v] w (RefPost w d) := by
  have HD := Lib.hid h
  obtain ⟨a5, c5, a6, c6, rfl, hk, hb, hi, ht, hx, hn, hp⟩ := h.open
  clear hp hn hb hi hk ht hx h
  unfold aggD at HD ⊢
  go_enter Tryz.func23, Tryz.ntmps23
  go_wp2_with fail
  have HB0 := Lib.hid ((Below.new (w := w) (.cells #[.int .i64 d.kind, .string d.type, .int .u64 d.bits, .int .u64 d.imag, .string d.text, .slice a5 d.names.length c5, .slice a6 d.parts.length c6, .int .i64 d.hook] 26)).push (.cells #[.int .i64 0, .string ⟨#[]⟩, .int .u64 0, .int .u64 0, .string ⟨#[]⟩, .slice none 0 0, .slice none 0 0, .int .i64 0] 26))
  have HBox : Hid (BoxD ((w.alloc (.cells #[.int .i64 d.kind, .string d.type, .int .u64 d.bits, .int .u64 d.imag, .string d.text, .slice a5 d.names.length c5, .slice a6 d.parts.length c6, .int .i64 d.hook] 26)).alloc (.cells #[.int .i64 0, .string ⟨#[]⟩, .int .u64 0, .int .u64 0, .string ⟨#[]⟩, .slice none 0 0, .slice none 0 0, .int .i64 0] 26)) w.heap.size d a5 c5 a6 c6) := (BoxD.new w d a5 c5 a6 c6).later (Below.new _)
  have HBr : Hid (Blk ((w.alloc (.cells #[.int .i64 d.kind, .string d.type, .int .u64 d.bits, .int .u64 d.imag, .string d.text, .slice a5 d.names.length c5, .slice a6 d.parts.length c6, .int .i64 d.hook] 26)).alloc (.cells #[.int .i64 0, .string ⟨#[]⟩, .int .u64 0, .int .u64 0, .string ⟨#[]⟩, .slice none 0 0, .slice none 0 0, .int .i64 0] 26)) (w.heap.size + 1) (.int .i64 0) (.string ⟨#[]⟩) (.int .u64 0) (.int .u64 0) (.string ⟨#[]⟩) (.slice none 0 0) (.slice none 0 0) (.int .i64 0)) := by
    have := Blk.of (heap_alloc_new (w.alloc (.cells #[.int .i64 d.kind, .string d.type, .int .u64 d.bits, .int .u64 d.imag, .string d.text, .slice a5 d.names.length c5, .slice a6 d.parts.length c6, .int .i64 d.hook] 26)) (.cells #[.int .i64 0, .string ⟨#[]⟩, .int .u64 0, .int .u64 0, .string ⟨#[]⟩, .slice none 0 0, .slice none 0 0, .int .i64 0] 26))
    exact Lib.hid (by simpa using this)
  generalize (w.alloc (.cells #[.int .i64 d.kind, .string d.type, .int .u64 d.bits, .int .u64 d.imag, .string d.text, .slice a5 d.names.length c5, .slice a6 d.parts.length c6, .int .i64 d.hook] 26)).alloc (.cells #[.int .i64 0, .string ⟨#[]⟩, .int .u64 0, .int .u64 0, .string ⟨#[]⟩, .slice none 0 0, .slice none 0 0, .int .i64 0] 26) = w0 at HB0 HBox HBr ⊢
  refine (refCheck_any (HD.out.later HB0.out)).mono ?_
  rintro e w1 ⟨rfl, hB1⟩
  have HB1 := Lib.hid hB1
  have HBx1 := Lib.hid (HBox.out.later hB1)
  have HBr1 := Lib.hid (HBr.out.below hB1)
  have HBW := Lib.hid (HB0.out.next hB1)
  clear hB1
  obtain ⟨c, hc⟩ : ∃ c, errD d = c := ⟨_, rfl⟩
  have HC := Lib.hid hc
  rw [hc]
  clear hc
  obtain ⟨r0, r1, r2, r3, r4, r5, r6, r7, rf⟩ := HBr1.out
  have rf0 := rf 0
  have rf1 := rf 1
  have rf2 := rf 2
  have rf3 := rf 3
  have rf4 := rf 4
  have rf5 := rf 5
  have rf6 := rf 6
  have rf7 := rf 7
  clear rf
  by_cases hc0 : c = 0
  · subst hc0
    obtain ⟨q0, q1, q2, q3, q4, q5, q6, q7⟩ := HBx1.out
    obtain ⟨z1, z2, z3, x, hx⟩ := err_zero HC.out
    have HIn : Hid (∀ W, Below w.heap.size w W → Calls Tryz.prog 40 #[.agg #[.int .i64 d.kind, .string d.type, .int .u64 d.bits, .int .u64 d.imag, .string d.text, .slice a5 d.names.length c5, .slice a6 d.parts.length c6, .int .i64 d.hook]] W (RawOpen W x)) :=
      fun W hW => (in_any d z1 z2 z3 x hx W _ (HD.out.later hW)).mono fun e w' h => raw_open h
    have HX := Lib.hid hx
    clear z1 z2 z3 hx
    go_wp2_with fail
    refine (HIn.out _ HBW.out).mono ?_
    rintro e w2 ⟨hB2, k0, ty, b0, i0, tx, a5', n5, c5', a6', n6, c6', h0, rfl, hDF⟩
    have HB2 := Lib.hid hB2
    have HDF := Lib.hid hDF
    have HBr2 := Lib.hid (HBr1.out.below hB2)
    have HBW2 := Lib.hid (HBW.out.next hB2)
    have hz : w.heap.size + 1 < w1.heap.size := World.block_lt_of_cell? w1 _ r0
    have HZ := Lib.hid hz
    clear hB2 hDF q0 q1 q2 q3 q4 q5 q6 q7 r0 r1 r2 r3 r4 r5 r6 r7 rf0 rf1 rf2 rf3 rf4 rf5 rf6 rf7 hz
    obtain ⟨r0, r1, r2, r3, r4, r5, r6, r7, rf⟩ := HBr2.out
    have rf0 := rf 0
    have rf1 := rf 1
    have rf2 := rf 2
    have rf3 := rf 3
    have rf4 := rf 4
    have rf5 := rf 5
    have rf6 := rf 6
    have rf7 := rf 7
    clear rf
    go_wp2_with fail
    change bodyPost Tryz.prog Tryz.f23 _ _ _ (st8 w2 (w.heap.size + 1) (.int .i64 k0) (.string ty) (.int .u64 b0) (.int .u64 i0) (.string tx) (.slice a5' n5 c5') (.slice a6' n6 c6') (.int .i64 h0))
    have hb3 := Blk.put w2 (w.heap.size + 1) HBr2.out (.int .i64 k0) (.string ty) (.int .u64 b0) (.int .u64 i0) (.string tx) (.slice a5' n5 c5') (.slice a6' n6 c6') (.int .i64 h0)
    have HBW3 := Lib.hid (st8_below HBW2.out (by omega : w.heap.size ≤ w.heap.size + 1) (.int .i64 k0) (.string ty) (.int .u64 b0) (.int .u64 i0) (.string tx) (.slice a5' n5 c5') (.slice a6' n6 c6') (.int .i64 h0))
    have HDF3 := Lib.hid (HDF.out.keep (w' := st8 w2 (w.heap.size + 1) (.int .i64 k0) (.string ty) (.int .u64 b0) (.int .u64 i0) (.string tx) (.slice a5' n5 c5') (.slice a6' n6 c6') (.int .i64 h0)) fun k _ hk => st8_other (by have := HZ.out; omega))
    generalize st8 w2 (w.heap.size + 1) (.int .i64 k0) (.string ty) (.int .u64 b0) (.int .u64 i0) (.string tx) (.slice a5' n5 c5') (.slice a6' n6 c6') (.int .i64 h0) = W9 at hb3 HBW3 HDF3 ⊢
    clear r0 r1 r2 r3 r4 r5 r6 r7 rf0 rf1 rf2 rf3 rf4 rf5 rf6 rf7
    have zc0 := hb3.c0
    have zc1 := hb3.c1
    have zc2 := hb3.c2
    have zc3 := hb3.c3
    have zc4 := hb3.c4
    have zc5 := hb3.c5
    have zc6 := hb3.c6
    have zc7 := hb3.c7
    refine bodyPost_ret (v := .tuple #[.agg #[.int .i64 k0, .string ty, .int .u64 b0, .int .u64 i0, .string tx, .slice a5' n5 c5', .slice a6' n6 c6', .int .i64 h0], .int .i64 0]) (by simp [results, Tryz.f23, go_sem, zc0, zc1, zc2, zc3, zc4, zc5, zc6, zc7]) rfl ?_
    exact ⟨HBW3.out, _, _, _, _, _, _, _, _, _, _, _, _, _, tup2 HC.out.symm, HDF3.out.mono (fun k hk => le_of2 HB0.out HB1.out hk), fun _ => ⟨x, HX.out, rfl⟩⟩
  · have hc1 : (c != 0) = true := by simpa using hc0
    have HC0 := Lib.hid hc0
    clear hc0
    go_wp2_with fail
    change bodyPost Tryz.prog Tryz.f23 _ _ _ (st8 w1 (w.heap.size + 1) (.int .i64 0) (.string ⟨#[]⟩) (.int .u64 0) (.int .u64 0) (.string ⟨#[]⟩) (.slice none 0 0) (.slice none 0 0) (.int .i64 0))
    have hb3 := Blk.put w1 (w.heap.size + 1) HBr1.out (.int .i64 0) (.string ⟨#[]⟩) (.int .u64 0) (.int .u64 0) (.string ⟨#[]⟩) (.slice none 0 0) (.slice none 0 0) (.int .i64 0)
    have HBW3 := Lib.hid (st8_below HBW.out (by omega : w.heap.size ≤ w.heap.size + 1) (.int .i64 0) (.string ⟨#[]⟩) (.int .u64 0) (.int .u64 0) (.string ⟨#[]⟩) (.slice none 0 0) (.slice none 0 0) (.int .i64 0))
    generalize st8 w1 (w.heap.size + 1) (.int .i64 0) (.string ⟨#[]⟩) (.int .u64 0) (.int .u64 0) (.string ⟨#[]⟩) (.slice none 0 0) (.slice none 0 0) (.int .i64 0) = W9 at hb3 HBW3 ⊢
    clear r0 r1 r2 r3 r4 r5 r6 r7 rf0 rf1 rf2 rf3 rf4 rf5 rf6 rf7
    have zc0 := hb3.c0
    have zc1 := hb3.c1
    have zc2 := hb3.c2
    have zc3 := hb3.c3
    have zc4 := hb3.c4
    have zc5 := hb3.c5
    have zc6 := hb3.c6
    have zc7 := hb3.c7
    refine bodyPost_ret (v := .tuple #[.agg #[.int .i64 0, .string ⟨#[]⟩, .int .u64 0, .int .u64 0, .string ⟨#[]⟩, .slice none 0 0, .slice none 0 0, .int .i64 0], .int .i64 c]) (by simp [results, Tryz.f23, go_sem, zc0, zc1, zc2, zc3, zc4, zc5, zc6, zc7]) rfl ?_
    exact ⟨HBW3.out, _, _, _, _, _, _, _, _, _, _, _, _, zeroD, tup2 HC.out.symm, IsDF.bare I64_0 U64_0 U64_0 I64_0 cap_0 cap_0, fun h => absurd (HC.out.symm.trans h) HC0.out⟩

end Go.Proofs.YtkpfeodffhfejaaGreatDoor

/- Which of any two values comes first: the law's walk. No condition but that the arguments are descriptors. -/
namespace Go.Proofs.YtkpfeodffhfejaaGreatDoor
set_option linter.unusedVariables false
set_option maxRecDepth 1000000
set_option linter.unusedSimpArgs false
open Go.RowKit

/-- What is known of a value that was built. -/
theorem built_facts {d : D} {x : V} (hr : DR d) (h : errD d = 0) (hx : mkV d = some x) : x.ok ∧ VR x := by
  obtain ⟨_, hk, _, _⟩ := err_zero h
  rw [allD_eq, Bool.and_eq_true] at hk
  have hk1 : 0 ≤ d.kind ∧ d.kind ≤ 22 := by simpa [kindB] using hk.1
  exact ⟨mkV_ok hk1.1 hk1.2 hx, mkV_rng d hr x hx⟩
end Go.Proofs.YtkpfeodffhfejaaGreatDoor

/- The reference's name of a type. No condition but a kind among 0 to 22. -/
namespace Go.Proofs.YtkpfeodffhfejaaGreatDoor
set_option linter.unusedVariables false
set_option maxRecDepth 1000000
set_option linter.unusedSimpArgs false
open Go.RowKit

def typeD (d : D) : ByteArray := if d.type = ⟨#[]⟩ then kindNames.getD d.kind.toNat ⟨#[]⟩ else d.type
theorem type_raw (x : V) : typeD (rawV x) = typeV x := by
  unfold typeD typeV
  rw [rawV_kind, rawV_type]
theorem names_cell (w : World) {b : Nat} (hb : w.heap.size = b) (k : Int) (h0 : 0 ≤ k) (h1 : k ≤ 22) : (w.alloc (.cells #[.string ⟨#[60, 110, 105, 108, 62]⟩, .string ⟨#[98, 111, 111, 108]⟩, .string ⟨#[105, 110, 116, 56]⟩, .string ⟨#[105, 110, 116, 49, 54]⟩, .string ⟨#[105, 110, 116, 51, 50]⟩, .string ⟨#[105, 110, 116, 54, 52]⟩, .string ⟨#[105, 110, 116]⟩, .string ⟨#[117, 105, 110, 116, 56]⟩, .string ⟨#[117, 105, 110, 116, 49, 54]⟩, .string ⟨#[117, 105, 110, 116, 51, 50]⟩, .string ⟨#[117, 105, 110, 116, 54, 52]⟩, .string ⟨#[117, 105, 110, 116]⟩, .string ⟨#[102, 108, 111, 97, 116, 51, 50]⟩, .string ⟨#[102, 108, 111, 97, 116, 54, 52]⟩, .string ⟨#[99, 111, 109, 112, 108, 101, 120, 54, 52]⟩, .string ⟨#[99, 111, 109, 112, 108, 101, 120, 49, 50, 56]⟩, .string ⟨#[115, 116, 114, 105, 110, 103]⟩, .string ⟨#[91, 93, 117, 105, 110, 116, 56]⟩, .string ⟨#[115, 116, 114, 117, 99, 116]⟩, .string ⟨#[97, 114, 114, 97, 121]⟩, .string ⟨#[115, 108, 105, 99, 101]⟩, .string ⟨#[109, 97, 112]⟩, .string ⟨#[112, 116, 114]⟩] 9)).cell? ⟨b, k.toNat, none⟩ = some (.string (kindNames.getD k.toNat ⟨#[]⟩)) := by
  subst hb
  have h := heap_alloc_new w (.cells #[.string ⟨#[60, 110, 105, 108, 62]⟩, .string ⟨#[98, 111, 111, 108]⟩, .string ⟨#[105, 110, 116, 56]⟩, .string ⟨#[105, 110, 116, 49, 54]⟩, .string ⟨#[105, 110, 116, 51, 50]⟩, .string ⟨#[105, 110, 116, 54, 52]⟩, .string ⟨#[105, 110, 116]⟩, .string ⟨#[117, 105, 110, 116, 56]⟩, .string ⟨#[117, 105, 110, 116, 49, 54]⟩, .string ⟨#[117, 105, 110, 116, 51, 50]⟩, .string ⟨#[117, 105, 110, 116, 54, 52]⟩, .string ⟨#[117, 105, 110, 116]⟩, .string ⟨#[102, 108, 111, 97, 116, 51, 50]⟩, .string ⟨#[102, 108, 111, 97, 116, 54, 52]⟩, .string ⟨#[99, 111, 109, 112, 108, 101, 120, 54, 52]⟩, .string ⟨#[99, 111, 109, 112, 108, 101, 120, 49, 50, 56]⟩, .string ⟨#[115, 116, 114, 105, 110, 103]⟩, .string ⟨#[91, 93, 117, 105, 110, 116, 56]⟩, .string ⟨#[115, 116, 114, 117, 99, 116]⟩, .string ⟨#[97, 114, 114, 97, 121]⟩, .string ⟨#[115, 108, 105, 99, 101]⟩, .string ⟨#[109, 97, 112]⟩, .string ⟨#[112, 116, 114]⟩] 9)
  rcases (show k = 0 ∨ k = 1 ∨ k = 2 ∨ k = 3 ∨ k = 4 ∨ k = 5 ∨ k = 6 ∨ k = 7 ∨ k = 8 ∨ k = 9 ∨ k = 10 ∨ k = 11 ∨ k = 12 ∨ k = 13 ∨ k = 14 ∨ k = 15 ∨ k = 16 ∨ k = 17 ∨ k = 18 ∨ k = 19 ∨ k = 20 ∨ k = 21 ∨ k = 22 by omega) with h' | h' | h' | h' | h' | h' | h' | h' | h' | h' | h' | h' | h' | h' | h' | h' | h' | h' | h' | h' | h' | h' | h'
  all_goals
    subst h'
    unfold World.cell?
    simp only [h]
    rfl
set_option maxRecDepth 100000 in
set_option maxHeartbeats 2000000 in
theorem refType_any {d : D} {w : World} {v : Value} (h : IsD w v d) (h0 : 0 ≤ d.kind) (h22 : d.kind ≤ 22) : Calls Tryz.prog 14 #[v] w fun e w' => e = .returned (.string (typeD d)) ∧ Below w.heap.size w w' := by
  have HD := Lib.hid h
  obtain ⟨a5, c5, a6, c6, rfl, _⟩ := h.open
  clear h
  have hT : typeD d = if d.type = ⟨#[]⟩ then kindNames.getD d.kind.toNat ⟨#[]⟩ else d.type := rfl
  generalize typeD d = T at hT ⊢
  unfold aggD
  obtain ⟨k, hk⟩ : ∃ k, d.kind = k := ⟨_, rfl⟩
  rw [hk] at hT h0 h22 ⊢
  rcases empty_or d.type with ⟨e1, e2⟩ | ⟨e1, e2⟩
  · rw [if_pos e1] at hT
    have HT := Lib.hid hT
    clear e1 hT
    go_enter Tryz.func14, Tryz.ntmps14
    go_upto_region 4 with fail
    have hB : Below w.heap.size w ((w.alloc (.cells #[.int .i64 k, .string d.type, .int .u64 d.bits, .int .u64 d.imag, .string d.text, .slice a5 d.names.length c5, .slice a6 d.parts.length c6, .int .i64 d.hook] 26)).alloc (.cells #[.string ⟨#[60, 110, 105, 108, 62]⟩, .string ⟨#[98, 111, 111, 108]⟩, .string ⟨#[105, 110, 116, 56]⟩, .string ⟨#[105, 110, 116, 49, 54]⟩, .string ⟨#[105, 110, 116, 51, 50]⟩, .string ⟨#[105, 110, 116, 54, 52]⟩, .string ⟨#[105, 110, 116]⟩, .string ⟨#[117, 105, 110, 116, 56]⟩, .string ⟨#[117, 105, 110, 116, 49, 54]⟩, .string ⟨#[117, 105, 110, 116, 51, 50]⟩, .string ⟨#[117, 105, 110, 116, 54, 52]⟩, .string ⟨#[117, 105, 110, 116]⟩, .string ⟨#[102, 108, 111, 97, 116, 51, 50]⟩, .string ⟨#[102, 108, 111, 97, 116, 54, 52]⟩, .string ⟨#[99, 111, 109, 112, 108, 101, 120, 54, 52]⟩, .string ⟨#[99, 111, 109, 112, 108, 101, 120, 49, 50, 56]⟩, .string ⟨#[115, 116, 114, 105, 110, 103]⟩, .string ⟨#[91, 93, 117, 105, 110, 116, 56]⟩, .string ⟨#[115, 116, 114, 117, 99, 116]⟩, .string ⟨#[97, 114, 114, 97, 121]⟩, .string ⟨#[115, 108, 105, 99, 101]⟩, .string ⟨#[109, 97, 112]⟩, .string ⟨#[112, 116, 114]⟩] 9)) := (Below.new _).push _
    have hq : ((w.alloc (.cells #[.int .i64 k, .string d.type, .int .u64 d.bits, .int .u64 d.imag, .string d.text, .slice a5 d.names.length c5, .slice a6 d.parts.length c6, .int .i64 d.hook] 26)).alloc (.cells #[.string ⟨#[60, 110, 105, 108, 62]⟩, .string ⟨#[98, 111, 111, 108]⟩, .string ⟨#[105, 110, 116, 56]⟩, .string ⟨#[105, 110, 116, 49, 54]⟩, .string ⟨#[105, 110, 116, 51, 50]⟩, .string ⟨#[105, 110, 116, 54, 52]⟩, .string ⟨#[105, 110, 116]⟩, .string ⟨#[117, 105, 110, 116, 56]⟩, .string ⟨#[117, 105, 110, 116, 49, 54]⟩, .string ⟨#[117, 105, 110, 116, 51, 50]⟩, .string ⟨#[117, 105, 110, 116, 54, 52]⟩, .string ⟨#[117, 105, 110, 116]⟩, .string ⟨#[102, 108, 111, 97, 116, 51, 50]⟩, .string ⟨#[102, 108, 111, 97, 116, 54, 52]⟩, .string ⟨#[99, 111, 109, 112, 108, 101, 120, 54, 52]⟩, .string ⟨#[99, 111, 109, 112, 108, 101, 120, 49, 50, 56]⟩, .string ⟨#[115, 116, 114, 105, 110, 103]⟩, .string ⟨#[91, 93, 117, 105, 110, 116, 56]⟩, .string ⟨#[115, 116, 114, 117, 99, 116]⟩, .string ⟨#[97, 114, 114, 97, 121]⟩, .string ⟨#[115, 108, 105, 99, 101]⟩, .string ⟨#[109, 97, 112]⟩, .string ⟨#[112, 116, 114]⟩] 9)).cell? ⟨w.heap.size, 0, none⟩ = some (.int .i64 k) := cell_below (Below.new _) (Blk.of (heap_alloc_new w (.cells #[.int .i64 k, .string d.type, .int .u64 d.bits, .int .u64 d.imag, .string d.text, .slice a5 d.names.length c5, .slice a6 d.parts.length c6, .int .i64 d.hook] 26))).c0
    have hc : ((w.alloc (.cells #[.int .i64 k, .string d.type, .int .u64 d.bits, .int .u64 d.imag, .string d.text, .slice a5 d.names.length c5, .slice a6 d.parts.length c6, .int .i64 d.hook] 26)).alloc (.cells #[.string ⟨#[60, 110, 105, 108, 62]⟩, .string ⟨#[98, 111, 111, 108]⟩, .string ⟨#[105, 110, 116, 56]⟩, .string ⟨#[105, 110, 116, 49, 54]⟩, .string ⟨#[105, 110, 116, 51, 50]⟩, .string ⟨#[105, 110, 116, 54, 52]⟩, .string ⟨#[105, 110, 116]⟩, .string ⟨#[117, 105, 110, 116, 56]⟩, .string ⟨#[117, 105, 110, 116, 49, 54]⟩, .string ⟨#[117, 105, 110, 116, 51, 50]⟩, .string ⟨#[117, 105, 110, 116, 54, 52]⟩, .string ⟨#[117, 105, 110, 116]⟩, .string ⟨#[102, 108, 111, 97, 116, 51, 50]⟩, .string ⟨#[102, 108, 111, 97, 116, 54, 52]⟩, .string ⟨#[99, 111, 109, 112, 108, 101, 120, 54, 52]⟩, .string ⟨#[99, 111, 109, 112, 108, 101, 120, 49, 50, 56]⟩, .string ⟨#[115, 116, 114, 105, 110, 103]⟩, .string ⟨#[91, 93, 117, 105, 110, 116, 56]⟩, .string ⟨#[115, 116, 114, 117, 99, 116]⟩, .string ⟨#[97, 114, 114, 97, 121]⟩, .string ⟨#[115, 108, 105, 99, 101]⟩, .string ⟨#[109, 97, 112]⟩, .string ⟨#[112, 116, 114]⟩] 9)).cell? ⟨w.heap.size + 1, k.toNat, none⟩ = some (.string T) := by
      rw [HT.out]
      refine names_cell (w.alloc (.cells #[.int .i64 k, .string d.type, .int .u64 d.bits, .int .u64 d.imag, .string d.text, .slice a5 d.names.length c5, .slice a6 d.parts.length c6, .int .i64 d.hook] 26)) ?_ k h0 h22
      simp
    generalize (w.alloc (.cells #[.int .i64 k, .string d.type, .int .u64 d.bits, .int .u64 d.imag, .string d.text, .slice a5 d.names.length c5, .slice a6 d.parts.length c6, .int .i64 d.hook] 26)).alloc (.cells #[.string ⟨#[60, 110, 105, 108, 62]⟩, .string ⟨#[98, 111, 111, 108]⟩, .string ⟨#[105, 110, 116, 56]⟩, .string ⟨#[105, 110, 116, 49, 54]⟩, .string ⟨#[105, 110, 116, 51, 50]⟩, .string ⟨#[105, 110, 116, 54, 52]⟩, .string ⟨#[105, 110, 116]⟩, .string ⟨#[117, 105, 110, 116, 56]⟩, .string ⟨#[117, 105, 110, 116, 49, 54]⟩, .string ⟨#[117, 105, 110, 116, 51, 50]⟩, .string ⟨#[117, 105, 110, 116, 54, 52]⟩, .string ⟨#[117, 105, 110, 116]⟩, .string ⟨#[102, 108, 111, 97, 116, 51, 50]⟩, .string ⟨#[102, 108, 111, 97, 116, 54, 52]⟩, .string ⟨#[99, 111, 109, 112, 108, 101, 120, 54, 52]⟩, .string ⟨#[99, 111, 109, 112, 108, 101, 120, 49, 50, 56]⟩, .string ⟨#[115, 116, 114, 105, 110, 103]⟩, .string ⟨#[91, 93, 117, 105, 110, 116, 56]⟩, .string ⟨#[115, 116, 114, 117, 99, 116]⟩, .string ⟨#[97, 114, 114, 97, 121]⟩, .string ⟨#[115, 108, 105, 99, 101]⟩, .string ⟨#[109, 97, 112]⟩, .string ⟨#[112, 116, 114]⟩] 9) = W at hB hq hc ⊢
    have hkn : ((k.toNat : Nat) : Int) = k := by omega
    have hlt : k < 23 := by omega
    have hB := Lib.hid hB
    clear HT h22
    go_wp2_with fail
    go_ret
    exact ⟨rfl, hB.out⟩
  · rw [if_neg e1] at hT
    have HT := Lib.hid hT
    clear e1 hT
    go_enter Tryz.func14, Tryz.ntmps14
    go_wp2_with fail
    go_ret
    exact ⟨by rw [HT.out]; rfl, Below.new _⟩
end Go.Proofs.YtkpfeodffhfejaaGreatDoor
