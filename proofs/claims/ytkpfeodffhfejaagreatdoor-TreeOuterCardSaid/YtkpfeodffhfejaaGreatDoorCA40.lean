/- A whole number by its verb: ints' write at v, d, b, o, O, x, X; Signed, Unsigned. No condition but the numbers' bounds. -/
import Derived.Test.YtkpfeodffhfejaaGreatDoorCA37
import Derived.Test.YtkpfeodffhfejaaGreatDoorCA39
namespace Go.Proofs.YtkpfeodffhfejaaGreatDoor
set_option linter.unusedVariables false
set_option linter.unusedSimpArgs false
open Go.RowKit

def sharpB (f : SpecD) (mark : ByteArray) : ByteArray := if f.sharp then mark else ⟨#[]⟩
set_option maxRecDepth 1000000 in
theorem sharp_any (f : SpecD) (mark : ByteArray) (w : World) : Calls Tryz.prog 124 #[.agg #[.bool f.plus, .bool f.minus, .bool f.sharp, .bool f.space, .bool f.zero, .int .i64 f.wid, .int .i64 f.prec, .int .i32 f.verb], .string mark] w (Ret w (.string (sharpB f mark))) := by
  obtain ⟨sh, hsh⟩ : ∃ sh, f.sharp = sh := ⟨_, rfl⟩
  unfold sharpB
  rw [hsh]
  clear hsh
  cases sh
  all_goals
    go_enter Tryz.func124, Tryz.ntmps124
    go_wp2_with fail
    go_ret
    exact ⟨rfl, Below.new _⟩
set_option maxHeartbeats 8000000 in
set_option maxRecDepth 1000000 in
theorem write_d (x : NumD') (pl mi sh sp ze : Bool) (wi pr : Int) (w : World) (hf : (⟨pl, mi, sh, sp, ze, wi, pr, 100⟩ : SpecD).Rng) (hn : x.n < 18446744073709551616) :
    Calls Tryz.prog 100 #[.agg #[.bool x.neg, .int .u64 (x.n : Int), .int .u64 (x.bits : Int), .bool x.uns], .agg #[.bool pl, .bool mi, .bool sh, .bool sp, .bool ze, .int .i64 wi, .int .i64 pr, .int .i32 100]] w (Ret2 w (basedB x ⟨pl, mi, sh, sp, ze, wi, pr, 100⟩ 10 ⟨#[]⟩) true) := by
  have HF := Lib.hid hf
  clear hf
  go_enter Tryz.func100, Tryz.ntmps100
  go_upto_region 8 with fail
  have HB1 := Lib.hid ((Below.new (w := w) (.cells #[.bool x.neg, .int .u64 (x.n : Int), .int .u64 (x.bits : Int), .bool x.uns] 163)).push (.cells #[.bool pl, .bool mi, .bool sh, .bool sp, .bool ze, .int .i64 wi, .int .i64 pr, .int .i32 100] 33))
  have HX := Lib.hid ((NumAt.of (heap_alloc_new w (.cells #[.bool x.neg, .int .u64 (x.n : Int), .int .u64 (x.bits : Int), .bool x.uns] 163))).below (Below.new (.cells #[.bool pl, .bool mi, .bool sh, .bool sp, .bool ze, .int .i64 wi, .int .i64 pr, .int .i32 100] 33)))
  have hs := SpecAt.of (f := ⟨pl, mi, sh, sp, ze, wi, pr, 100⟩) (heap_alloc_new (w.alloc (.cells #[.bool x.neg, .int .u64 (x.n : Int), .int .u64 (x.bits : Int), .bool x.uns] 163)) (.cells #[.bool pl, .bool mi, .bool sh, .bool sp, .bool ze, .int .i64 wi, .int .i64 pr, .int .i32 100] 33))
  rw [show (w.alloc (.cells #[.bool x.neg, .int .u64 (x.n : Int), .int .u64 (x.bits : Int), .bool x.uns] 163)).heap.size = w.heap.size + 1 by simp] at hs
  have HS := Lib.hid hs
  clear hs
  generalize (w.alloc (.cells #[.bool x.neg, .int .u64 (x.n : Int), .int .u64 (x.bits : Int), .bool x.uns] 163)).alloc (.cells #[.bool pl, .bool mi, .bool sh, .bool sp, .bool ze, .int .i64 wi, .int .i64 pr, .int .i32 100] 33) = W1 at HB1 HX HS ⊢
  obtain ⟨x0, x1, x2, x3⟩ := HX.out
  obtain ⟨z0, z1, z2, z3, z4, z5, z6, z7, _⟩ := HS.out
  go_wp2_with fail
  refine (based_any x ⟨pl, mi, sh, sp, ze, wi, pr, 100⟩ 10 ⟨#[]⟩ _ HF.out hn (by decide) (by decide) (by decide)).mono ?_
  rintro e w2 ⟨rfl, hB2⟩
  have HB2 := Lib.hid (HB1.out.next hB2)
  clear hB2 x0 x1 x2 x3 z0 z1 z2 z3 z4 z5 z6 z7
  go_wp2_with fail
  go_ret2
  exact ⟨rfl, HB2.out⟩
set_option maxHeartbeats 8000000 in
set_option maxRecDepth 1000000 in
theorem write_O (x : NumD') (pl mi sh sp ze : Bool) (wi pr : Int) (w : World) (hf : (⟨pl, mi, sh, sp, ze, wi, pr, 79⟩ : SpecD).Rng) (hn : x.n < 18446744073709551616) :
    Calls Tryz.prog 100 #[.agg #[.bool x.neg, .int .u64 (x.n : Int), .int .u64 (x.bits : Int), .bool x.uns], .agg #[.bool pl, .bool mi, .bool sh, .bool sp, .bool ze, .int .i64 wi, .int .i64 pr, .int .i32 79]] w (Ret2 w (basedB x ⟨pl, mi, sh, sp, ze, wi, pr, 79⟩ 8 ⟨#[48, 111]⟩) true) := by
  have HF := Lib.hid hf
  clear hf
  go_enter Tryz.func100, Tryz.ntmps100
  go_upto_region 14 with fail
  have HB1 := Lib.hid ((Below.new (w := w) (.cells #[.bool x.neg, .int .u64 (x.n : Int), .int .u64 (x.bits : Int), .bool x.uns] 163)).push (.cells #[.bool pl, .bool mi, .bool sh, .bool sp, .bool ze, .int .i64 wi, .int .i64 pr, .int .i32 79] 33))
  have HX := Lib.hid ((NumAt.of (heap_alloc_new w (.cells #[.bool x.neg, .int .u64 (x.n : Int), .int .u64 (x.bits : Int), .bool x.uns] 163))).below (Below.new (.cells #[.bool pl, .bool mi, .bool sh, .bool sp, .bool ze, .int .i64 wi, .int .i64 pr, .int .i32 79] 33)))
  have hs := SpecAt.of (f := ⟨pl, mi, sh, sp, ze, wi, pr, 79⟩) (heap_alloc_new (w.alloc (.cells #[.bool x.neg, .int .u64 (x.n : Int), .int .u64 (x.bits : Int), .bool x.uns] 163)) (.cells #[.bool pl, .bool mi, .bool sh, .bool sp, .bool ze, .int .i64 wi, .int .i64 pr, .int .i32 79] 33))
  rw [show (w.alloc (.cells #[.bool x.neg, .int .u64 (x.n : Int), .int .u64 (x.bits : Int), .bool x.uns] 163)).heap.size = w.heap.size + 1 by simp] at hs
  have HS := Lib.hid hs
  clear hs
  generalize (w.alloc (.cells #[.bool x.neg, .int .u64 (x.n : Int), .int .u64 (x.bits : Int), .bool x.uns] 163)).alloc (.cells #[.bool pl, .bool mi, .bool sh, .bool sp, .bool ze, .int .i64 wi, .int .i64 pr, .int .i32 79] 33) = W1 at HB1 HX HS ⊢
  obtain ⟨x0, x1, x2, x3⟩ := HX.out
  obtain ⟨z0, z1, z2, z3, z4, z5, z6, z7, _⟩ := HS.out
  go_wp2_with fail
  refine (based_any x ⟨pl, mi, sh, sp, ze, wi, pr, 79⟩ 8 ⟨#[48, 111]⟩ _ HF.out hn (by decide) (by decide) (by decide)).mono ?_
  rintro e w2 ⟨rfl, hB2⟩
  have HB2 := Lib.hid (HB1.out.next hB2)
  clear hB2 x0 x1 x2 x3 z0 z1 z2 z3 z4 z5 z6 z7
  go_wp2_with fail
  go_ret2
  exact ⟨rfl, HB2.out⟩
set_option maxHeartbeats 8000000 in
set_option maxRecDepth 1000000 in
theorem write_b (x : NumD') (pl mi sh sp ze : Bool) (wi pr : Int) (w : World) (hf : (⟨pl, mi, sh, sp, ze, wi, pr, 98⟩ : SpecD).Rng) (hn : x.n < 18446744073709551616) :
    Calls Tryz.prog 100 #[.agg #[.bool x.neg, .int .u64 (x.n : Int), .int .u64 (x.bits : Int), .bool x.uns], .agg #[.bool pl, .bool mi, .bool sh, .bool sp, .bool ze, .int .i64 wi, .int .i64 pr, .int .i32 98]] w (Ret2 w (basedB x ⟨pl, mi, sh, sp, ze, wi, pr, 98⟩ 2 (sharpB ⟨pl, mi, sh, sp, ze, wi, pr, 98⟩ ⟨#[48, 98]⟩)) true) := by
  have HF := Lib.hid hf
  clear hf
  have hms : (sharpB ⟨pl, mi, sh, sp, ze, wi, pr, 98⟩ ⟨#[48, 98]⟩).size ≤ 2 := by unfold sharpB; split <;> decide
  have HCs : Hid (∀ W, Calls Tryz.prog 124 #[.agg #[.bool pl, .bool mi, .bool sh, .bool sp, .bool ze, .int .i64 wi, .int .i64 pr, .int .i32 98], .string ⟨#[48, 98]⟩] W (Ret W (.string (sharpB ⟨pl, mi, sh, sp, ze, wi, pr, 98⟩ ⟨#[48, 98]⟩)))) := fun W => sharp_any ⟨pl, mi, sh, sp, ze, wi, pr, 98⟩ ⟨#[48, 98]⟩ W
  have HCb : Hid (∀ W, Calls Tryz.prog 123 #[.agg #[.bool x.neg, .int .u64 (x.n : Int), .int .u64 (x.bits : Int), .bool x.uns], .agg #[.bool pl, .bool mi, .bool sh, .bool sp, .bool ze, .int .i64 wi, .int .i64 pr, .int .i32 98], .int .u64 2, .string (sharpB ⟨pl, mi, sh, sp, ze, wi, pr, 98⟩ ⟨#[48, 98]⟩)] W (Ret W (.string (basedB x ⟨pl, mi, sh, sp, ze, wi, pr, 98⟩ 2 (sharpB ⟨pl, mi, sh, sp, ze, wi, pr, 98⟩ ⟨#[48, 98]⟩))))) := fun W => based_any x ⟨pl, mi, sh, sp, ze, wi, pr, 98⟩ 2 (sharpB ⟨pl, mi, sh, sp, ze, wi, pr, 98⟩ ⟨#[48, 98]⟩) W HF.out hn (by decide) (by decide) hms
  obtain ⟨ms, hmse⟩ : ∃ ms, sharpB ⟨pl, mi, sh, sp, ze, wi, pr, 98⟩ ⟨#[48, 98]⟩ = ms := ⟨_, rfl⟩
  rw [hmse] at HCs HCb ⊢
  clear hmse hms
  go_enter Tryz.func100, Tryz.ntmps100
  go_upto_region 10 with fail
  have HB1 := Lib.hid ((Below.new (w := w) (.cells #[.bool x.neg, .int .u64 (x.n : Int), .int .u64 (x.bits : Int), .bool x.uns] 163)).push (.cells #[.bool pl, .bool mi, .bool sh, .bool sp, .bool ze, .int .i64 wi, .int .i64 pr, .int .i32 98] 33))
  have HX := Lib.hid ((NumAt.of (heap_alloc_new w (.cells #[.bool x.neg, .int .u64 (x.n : Int), .int .u64 (x.bits : Int), .bool x.uns] 163))).below (Below.new (.cells #[.bool pl, .bool mi, .bool sh, .bool sp, .bool ze, .int .i64 wi, .int .i64 pr, .int .i32 98] 33)))
  have hs := SpecAt.of (f := ⟨pl, mi, sh, sp, ze, wi, pr, 98⟩) (heap_alloc_new (w.alloc (.cells #[.bool x.neg, .int .u64 (x.n : Int), .int .u64 (x.bits : Int), .bool x.uns] 163)) (.cells #[.bool pl, .bool mi, .bool sh, .bool sp, .bool ze, .int .i64 wi, .int .i64 pr, .int .i32 98] 33))
  rw [show (w.alloc (.cells #[.bool x.neg, .int .u64 (x.n : Int), .int .u64 (x.bits : Int), .bool x.uns] 163)).heap.size = w.heap.size + 1 by simp] at hs
  have HS := Lib.hid hs
  clear hs
  generalize (w.alloc (.cells #[.bool x.neg, .int .u64 (x.n : Int), .int .u64 (x.bits : Int), .bool x.uns] 163)).alloc (.cells #[.bool pl, .bool mi, .bool sh, .bool sp, .bool ze, .int .i64 wi, .int .i64 pr, .int .i32 98] 33) = W1 at HB1 HX HS ⊢
  obtain ⟨x0, x1, x2, x3⟩ := HX.out
  obtain ⟨z0, z1, z2, z3, z4, z5, z6, z7, _⟩ := HS.out
  have K : W1.cell? ⟨w.heap.size, 0, none⟩ = some (.bool x.neg) ∧ W1.cell? ⟨w.heap.size, 1, none⟩ = some (.int .u64 (x.n : Int)) ∧ W1.cell? ⟨w.heap.size, 2, none⟩ = some (.int .u64 (x.bits : Int)) ∧ W1.cell? ⟨w.heap.size, 3, none⟩ = some (.bool x.uns) ∧ W1.cell? ⟨w.heap.size + 1, 0, none⟩ = some (.bool pl) ∧ W1.cell? ⟨w.heap.size + 1, 1, none⟩ = some (.bool mi) ∧ W1.cell? ⟨w.heap.size + 1, 2, none⟩ = some (.bool sh) ∧ W1.cell? ⟨w.heap.size + 1, 3, none⟩ = some (.bool sp) ∧ W1.cell? ⟨w.heap.size + 1, 4, none⟩ = some (.bool ze) ∧ W1.cell? ⟨w.heap.size + 1, 5, none⟩ = some (.int .i64 wi) ∧ W1.cell? ⟨w.heap.size + 1, 6, none⟩ = some (.int .i64 pr) ∧ W1.cell? ⟨w.heap.size + 1, 7, none⟩ = some (.int .i32 98) := ⟨x0, x1, x2, x3, z0, z1, z2, z3, z4, z5, z6, z7⟩
  have HBW : Below W1.heap.size W1 W1.drew := (Below.refl _ _).drew
  clear x0 x1 x2 x3 z0 z1 z2 z3 z4 z5 z6 z7
  go_region_held3 (fun w' => w'.cell? ⟨w.heap.size, 0, none⟩ = some (.bool x.neg) ∧ w'.cell? ⟨w.heap.size, 1, none⟩ = some (.int .u64 (x.n : Int)) ∧ w'.cell? ⟨w.heap.size, 2, none⟩ = some (.int .u64 (x.bits : Int)) ∧ w'.cell? ⟨w.heap.size, 3, none⟩ = some (.bool x.uns) ∧ w'.cell? ⟨w.heap.size + 1, 0, none⟩ = some (.bool pl) ∧ w'.cell? ⟨w.heap.size + 1, 1, none⟩ = some (.bool mi) ∧ w'.cell? ⟨w.heap.size + 1, 2, none⟩ = some (.bool sh) ∧ w'.cell? ⟨w.heap.size + 1, 3, none⟩ = some (.bool sp) ∧ w'.cell? ⟨w.heap.size + 1, 4, none⟩ = some (.bool ze) ∧ w'.cell? ⟨w.heap.size + 1, 5, none⟩ = some (.int .i64 wi) ∧ w'.cell? ⟨w.heap.size + 1, 6, none⟩ = some (.int .i64 pr) ∧ w'.cell? ⟨w.heap.size + 1, 7, none⟩ = some (.int .i32 98)) (exact K) (first
    | ((go_at_call 124; (with_reducible refine (HCs.out _).mono ?_); rintro e wa ⟨rfl, hbN⟩; have K := (show wa.cell? ⟨w.heap.size, 0, none⟩ = some (.bool x.neg) ∧ wa.cell? ⟨w.heap.size, 1, none⟩ = some (.int .u64 (x.n : Int)) ∧ wa.cell? ⟨w.heap.size, 2, none⟩ = some (.int .u64 (x.bits : Int)) ∧ wa.cell? ⟨w.heap.size, 3, none⟩ = some (.bool x.uns) ∧ wa.cell? ⟨w.heap.size + 1, 0, none⟩ = some (.bool pl) ∧ wa.cell? ⟨w.heap.size + 1, 1, none⟩ = some (.bool mi) ∧ wa.cell? ⟨w.heap.size + 1, 2, none⟩ = some (.bool sh) ∧ wa.cell? ⟨w.heap.size + 1, 3, none⟩ = some (.bool sp) ∧ wa.cell? ⟨w.heap.size + 1, 4, none⟩ = some (.bool ze) ∧ wa.cell? ⟨w.heap.size + 1, 5, none⟩ = some (.int .i64 wi) ∧ wa.cell? ⟨w.heap.size + 1, 6, none⟩ = some (.int .i64 pr) ∧ wa.cell? ⟨w.heap.size + 1, 7, none⟩ = some (.int .i32 98) from ⟨cell_below hbN K.1, cell_below hbN K.2.1, cell_below hbN K.2.2.1, cell_below hbN K.2.2.2.1, cell_below hbN K.2.2.2.2.1, cell_below hbN K.2.2.2.2.2.1, cell_below hbN K.2.2.2.2.2.2.1, cell_below hbN K.2.2.2.2.2.2.2.1, cell_below hbN K.2.2.2.2.2.2.2.2.1, cell_below hbN K.2.2.2.2.2.2.2.2.2.1, cell_below hbN K.2.2.2.2.2.2.2.2.2.2.1, cell_below hbN K.2.2.2.2.2.2.2.2.2.2.2⟩); have HBW := HBW.next hbN))
    | ((go_at_call 123; (with_reducible refine (HCb.out _).mono ?_); rintro e wb ⟨rfl, hbN⟩; have K := (show wb.cell? ⟨w.heap.size, 0, none⟩ = some (.bool x.neg) ∧ wb.cell? ⟨w.heap.size, 1, none⟩ = some (.int .u64 (x.n : Int)) ∧ wb.cell? ⟨w.heap.size, 2, none⟩ = some (.int .u64 (x.bits : Int)) ∧ wb.cell? ⟨w.heap.size, 3, none⟩ = some (.bool x.uns) ∧ wb.cell? ⟨w.heap.size + 1, 0, none⟩ = some (.bool pl) ∧ wb.cell? ⟨w.heap.size + 1, 1, none⟩ = some (.bool mi) ∧ wb.cell? ⟨w.heap.size + 1, 2, none⟩ = some (.bool sh) ∧ wb.cell? ⟨w.heap.size + 1, 3, none⟩ = some (.bool sp) ∧ wb.cell? ⟨w.heap.size + 1, 4, none⟩ = some (.bool ze) ∧ wb.cell? ⟨w.heap.size + 1, 5, none⟩ = some (.int .i64 wi) ∧ wb.cell? ⟨w.heap.size + 1, 6, none⟩ = some (.int .i64 pr) ∧ wb.cell? ⟨w.heap.size + 1, 7, none⟩ = some (.int .i32 98) from ⟨cell_below hbN K.1, cell_below hbN K.2.1, cell_below hbN K.2.2.1, cell_below hbN K.2.2.2.1, cell_below hbN K.2.2.2.2.1, cell_below hbN K.2.2.2.2.2.1, cell_below hbN K.2.2.2.2.2.2.1, cell_below hbN K.2.2.2.2.2.2.2.1, cell_below hbN K.2.2.2.2.2.2.2.2.1, cell_below hbN K.2.2.2.2.2.2.2.2.2.1, cell_below hbN K.2.2.2.2.2.2.2.2.2.2.1, cell_below hbN K.2.2.2.2.2.2.2.2.2.2.2⟩); have HBW := HBW.next hbN)))
  all_goals
    have HB2 := Lib.hid (HB1.out.next HBW)
    clear hbN K
    go_wp2_with fail
    go_ret2
    exact ⟨rfl, HB2.out⟩
set_option maxHeartbeats 8000000 in
set_option maxRecDepth 1000000 in
theorem write_o (x : NumD') (pl mi sh sp ze : Bool) (wi pr : Int) (w : World) (hf : (⟨pl, mi, sh, sp, ze, wi, pr, 111⟩ : SpecD).Rng) (hn : x.n < 18446744073709551616) :
    Calls Tryz.prog 100 #[.agg #[.bool x.neg, .int .u64 (x.n : Int), .int .u64 (x.bits : Int), .bool x.uns], .agg #[.bool pl, .bool mi, .bool sh, .bool sp, .bool ze, .int .i64 wi, .int .i64 pr, .int .i32 111]] w (Ret2 w (basedB x ⟨pl, mi, sh, sp, ze, wi, pr, 111⟩ 8 (sharpB ⟨pl, mi, sh, sp, ze, wi, pr, 111⟩ ⟨#[48]⟩)) true) := by
  have HF := Lib.hid hf
  clear hf
  have hms : (sharpB ⟨pl, mi, sh, sp, ze, wi, pr, 111⟩ ⟨#[48]⟩).size ≤ 2 := by unfold sharpB; split <;> decide
  have HCs : Hid (∀ W, Calls Tryz.prog 124 #[.agg #[.bool pl, .bool mi, .bool sh, .bool sp, .bool ze, .int .i64 wi, .int .i64 pr, .int .i32 111], .string ⟨#[48]⟩] W (Ret W (.string (sharpB ⟨pl, mi, sh, sp, ze, wi, pr, 111⟩ ⟨#[48]⟩)))) := fun W => sharp_any ⟨pl, mi, sh, sp, ze, wi, pr, 111⟩ ⟨#[48]⟩ W
  have HCb : Hid (∀ W, Calls Tryz.prog 123 #[.agg #[.bool x.neg, .int .u64 (x.n : Int), .int .u64 (x.bits : Int), .bool x.uns], .agg #[.bool pl, .bool mi, .bool sh, .bool sp, .bool ze, .int .i64 wi, .int .i64 pr, .int .i32 111], .int .u64 8, .string (sharpB ⟨pl, mi, sh, sp, ze, wi, pr, 111⟩ ⟨#[48]⟩)] W (Ret W (.string (basedB x ⟨pl, mi, sh, sp, ze, wi, pr, 111⟩ 8 (sharpB ⟨pl, mi, sh, sp, ze, wi, pr, 111⟩ ⟨#[48]⟩))))) := fun W => based_any x ⟨pl, mi, sh, sp, ze, wi, pr, 111⟩ 8 (sharpB ⟨pl, mi, sh, sp, ze, wi, pr, 111⟩ ⟨#[48]⟩) W HF.out hn (by decide) (by decide) hms
  obtain ⟨ms, hmse⟩ : ∃ ms, sharpB ⟨pl, mi, sh, sp, ze, wi, pr, 111⟩ ⟨#[48]⟩ = ms := ⟨_, rfl⟩
  rw [hmse] at HCs HCb ⊢
  clear hmse hms
  go_enter Tryz.func100, Tryz.ntmps100
  go_upto_region 12 with fail
  have HB1 := Lib.hid ((Below.new (w := w) (.cells #[.bool x.neg, .int .u64 (x.n : Int), .int .u64 (x.bits : Int), .bool x.uns] 163)).push (.cells #[.bool pl, .bool mi, .bool sh, .bool sp, .bool ze, .int .i64 wi, .int .i64 pr, .int .i32 111] 33))
  have HX := Lib.hid ((NumAt.of (heap_alloc_new w (.cells #[.bool x.neg, .int .u64 (x.n : Int), .int .u64 (x.bits : Int), .bool x.uns] 163))).below (Below.new (.cells #[.bool pl, .bool mi, .bool sh, .bool sp, .bool ze, .int .i64 wi, .int .i64 pr, .int .i32 111] 33)))
  have hs := SpecAt.of (f := ⟨pl, mi, sh, sp, ze, wi, pr, 111⟩) (heap_alloc_new (w.alloc (.cells #[.bool x.neg, .int .u64 (x.n : Int), .int .u64 (x.bits : Int), .bool x.uns] 163)) (.cells #[.bool pl, .bool mi, .bool sh, .bool sp, .bool ze, .int .i64 wi, .int .i64 pr, .int .i32 111] 33))
  rw [show (w.alloc (.cells #[.bool x.neg, .int .u64 (x.n : Int), .int .u64 (x.bits : Int), .bool x.uns] 163)).heap.size = w.heap.size + 1 by simp] at hs
  have HS := Lib.hid hs
  clear hs
  generalize (w.alloc (.cells #[.bool x.neg, .int .u64 (x.n : Int), .int .u64 (x.bits : Int), .bool x.uns] 163)).alloc (.cells #[.bool pl, .bool mi, .bool sh, .bool sp, .bool ze, .int .i64 wi, .int .i64 pr, .int .i32 111] 33) = W1 at HB1 HX HS ⊢
  obtain ⟨x0, x1, x2, x3⟩ := HX.out
  obtain ⟨z0, z1, z2, z3, z4, z5, z6, z7, _⟩ := HS.out
  have K : W1.cell? ⟨w.heap.size, 0, none⟩ = some (.bool x.neg) ∧ W1.cell? ⟨w.heap.size, 1, none⟩ = some (.int .u64 (x.n : Int)) ∧ W1.cell? ⟨w.heap.size, 2, none⟩ = some (.int .u64 (x.bits : Int)) ∧ W1.cell? ⟨w.heap.size, 3, none⟩ = some (.bool x.uns) ∧ W1.cell? ⟨w.heap.size + 1, 0, none⟩ = some (.bool pl) ∧ W1.cell? ⟨w.heap.size + 1, 1, none⟩ = some (.bool mi) ∧ W1.cell? ⟨w.heap.size + 1, 2, none⟩ = some (.bool sh) ∧ W1.cell? ⟨w.heap.size + 1, 3, none⟩ = some (.bool sp) ∧ W1.cell? ⟨w.heap.size + 1, 4, none⟩ = some (.bool ze) ∧ W1.cell? ⟨w.heap.size + 1, 5, none⟩ = some (.int .i64 wi) ∧ W1.cell? ⟨w.heap.size + 1, 6, none⟩ = some (.int .i64 pr) ∧ W1.cell? ⟨w.heap.size + 1, 7, none⟩ = some (.int .i32 111) := ⟨x0, x1, x2, x3, z0, z1, z2, z3, z4, z5, z6, z7⟩
  have HBW : Below W1.heap.size W1 W1.drew := (Below.refl _ _).drew
  clear x0 x1 x2 x3 z0 z1 z2 z3 z4 z5 z6 z7
  go_region_held3 (fun w' => w'.cell? ⟨w.heap.size, 0, none⟩ = some (.bool x.neg) ∧ w'.cell? ⟨w.heap.size, 1, none⟩ = some (.int .u64 (x.n : Int)) ∧ w'.cell? ⟨w.heap.size, 2, none⟩ = some (.int .u64 (x.bits : Int)) ∧ w'.cell? ⟨w.heap.size, 3, none⟩ = some (.bool x.uns) ∧ w'.cell? ⟨w.heap.size + 1, 0, none⟩ = some (.bool pl) ∧ w'.cell? ⟨w.heap.size + 1, 1, none⟩ = some (.bool mi) ∧ w'.cell? ⟨w.heap.size + 1, 2, none⟩ = some (.bool sh) ∧ w'.cell? ⟨w.heap.size + 1, 3, none⟩ = some (.bool sp) ∧ w'.cell? ⟨w.heap.size + 1, 4, none⟩ = some (.bool ze) ∧ w'.cell? ⟨w.heap.size + 1, 5, none⟩ = some (.int .i64 wi) ∧ w'.cell? ⟨w.heap.size + 1, 6, none⟩ = some (.int .i64 pr) ∧ w'.cell? ⟨w.heap.size + 1, 7, none⟩ = some (.int .i32 111)) (exact K) (first
    | ((go_at_call 124; (with_reducible refine (HCs.out _).mono ?_); rintro e wa ⟨rfl, hbN⟩; have K := (show wa.cell? ⟨w.heap.size, 0, none⟩ = some (.bool x.neg) ∧ wa.cell? ⟨w.heap.size, 1, none⟩ = some (.int .u64 (x.n : Int)) ∧ wa.cell? ⟨w.heap.size, 2, none⟩ = some (.int .u64 (x.bits : Int)) ∧ wa.cell? ⟨w.heap.size, 3, none⟩ = some (.bool x.uns) ∧ wa.cell? ⟨w.heap.size + 1, 0, none⟩ = some (.bool pl) ∧ wa.cell? ⟨w.heap.size + 1, 1, none⟩ = some (.bool mi) ∧ wa.cell? ⟨w.heap.size + 1, 2, none⟩ = some (.bool sh) ∧ wa.cell? ⟨w.heap.size + 1, 3, none⟩ = some (.bool sp) ∧ wa.cell? ⟨w.heap.size + 1, 4, none⟩ = some (.bool ze) ∧ wa.cell? ⟨w.heap.size + 1, 5, none⟩ = some (.int .i64 wi) ∧ wa.cell? ⟨w.heap.size + 1, 6, none⟩ = some (.int .i64 pr) ∧ wa.cell? ⟨w.heap.size + 1, 7, none⟩ = some (.int .i32 111) from ⟨cell_below hbN K.1, cell_below hbN K.2.1, cell_below hbN K.2.2.1, cell_below hbN K.2.2.2.1, cell_below hbN K.2.2.2.2.1, cell_below hbN K.2.2.2.2.2.1, cell_below hbN K.2.2.2.2.2.2.1, cell_below hbN K.2.2.2.2.2.2.2.1, cell_below hbN K.2.2.2.2.2.2.2.2.1, cell_below hbN K.2.2.2.2.2.2.2.2.2.1, cell_below hbN K.2.2.2.2.2.2.2.2.2.2.1, cell_below hbN K.2.2.2.2.2.2.2.2.2.2.2⟩); have HBW := HBW.next hbN))
    | ((go_at_call 123; (with_reducible refine (HCb.out _).mono ?_); rintro e wb ⟨rfl, hbN⟩; have K := (show wb.cell? ⟨w.heap.size, 0, none⟩ = some (.bool x.neg) ∧ wb.cell? ⟨w.heap.size, 1, none⟩ = some (.int .u64 (x.n : Int)) ∧ wb.cell? ⟨w.heap.size, 2, none⟩ = some (.int .u64 (x.bits : Int)) ∧ wb.cell? ⟨w.heap.size, 3, none⟩ = some (.bool x.uns) ∧ wb.cell? ⟨w.heap.size + 1, 0, none⟩ = some (.bool pl) ∧ wb.cell? ⟨w.heap.size + 1, 1, none⟩ = some (.bool mi) ∧ wb.cell? ⟨w.heap.size + 1, 2, none⟩ = some (.bool sh) ∧ wb.cell? ⟨w.heap.size + 1, 3, none⟩ = some (.bool sp) ∧ wb.cell? ⟨w.heap.size + 1, 4, none⟩ = some (.bool ze) ∧ wb.cell? ⟨w.heap.size + 1, 5, none⟩ = some (.int .i64 wi) ∧ wb.cell? ⟨w.heap.size + 1, 6, none⟩ = some (.int .i64 pr) ∧ wb.cell? ⟨w.heap.size + 1, 7, none⟩ = some (.int .i32 111) from ⟨cell_below hbN K.1, cell_below hbN K.2.1, cell_below hbN K.2.2.1, cell_below hbN K.2.2.2.1, cell_below hbN K.2.2.2.2.1, cell_below hbN K.2.2.2.2.2.1, cell_below hbN K.2.2.2.2.2.2.1, cell_below hbN K.2.2.2.2.2.2.2.1, cell_below hbN K.2.2.2.2.2.2.2.2.1, cell_below hbN K.2.2.2.2.2.2.2.2.2.1, cell_below hbN K.2.2.2.2.2.2.2.2.2.2.1, cell_below hbN K.2.2.2.2.2.2.2.2.2.2.2⟩); have HBW := HBW.next hbN)))
  all_goals
    have HB2 := Lib.hid (HB1.out.next HBW)
    clear hbN K
    go_wp2_with fail
    go_ret2
    exact ⟨rfl, HB2.out⟩
set_option maxHeartbeats 8000000 in
set_option maxRecDepth 1000000 in
theorem write_x (x : NumD') (pl mi sh sp ze : Bool) (wi pr : Int) (w : World) (hf : (⟨pl, mi, sh, sp, ze, wi, pr, 120⟩ : SpecD).Rng) (hn : x.n < 18446744073709551616) :
    Calls Tryz.prog 100 #[.agg #[.bool x.neg, .int .u64 (x.n : Int), .int .u64 (x.bits : Int), .bool x.uns], .agg #[.bool pl, .bool mi, .bool sh, .bool sp, .bool ze, .int .i64 wi, .int .i64 pr, .int .i32 120]] w (Ret2 w (basedB x ⟨pl, mi, sh, sp, ze, wi, pr, 120⟩ 16 (sharpB ⟨pl, mi, sh, sp, ze, wi, pr, 120⟩ ⟨#[48, 120]⟩)) true) := by
  have HF := Lib.hid hf
  clear hf
  have hms : (sharpB ⟨pl, mi, sh, sp, ze, wi, pr, 120⟩ ⟨#[48, 120]⟩).size ≤ 2 := by unfold sharpB; split <;> decide
  have HCs : Hid (∀ W, Calls Tryz.prog 124 #[.agg #[.bool pl, .bool mi, .bool sh, .bool sp, .bool ze, .int .i64 wi, .int .i64 pr, .int .i32 120], .string ⟨#[48, 120]⟩] W (Ret W (.string (sharpB ⟨pl, mi, sh, sp, ze, wi, pr, 120⟩ ⟨#[48, 120]⟩)))) := fun W => sharp_any ⟨pl, mi, sh, sp, ze, wi, pr, 120⟩ ⟨#[48, 120]⟩ W
  have HCb : Hid (∀ W, Calls Tryz.prog 123 #[.agg #[.bool x.neg, .int .u64 (x.n : Int), .int .u64 (x.bits : Int), .bool x.uns], .agg #[.bool pl, .bool mi, .bool sh, .bool sp, .bool ze, .int .i64 wi, .int .i64 pr, .int .i32 120], .int .u64 16, .string (sharpB ⟨pl, mi, sh, sp, ze, wi, pr, 120⟩ ⟨#[48, 120]⟩)] W (Ret W (.string (basedB x ⟨pl, mi, sh, sp, ze, wi, pr, 120⟩ 16 (sharpB ⟨pl, mi, sh, sp, ze, wi, pr, 120⟩ ⟨#[48, 120]⟩))))) := fun W => based_any x ⟨pl, mi, sh, sp, ze, wi, pr, 120⟩ 16 (sharpB ⟨pl, mi, sh, sp, ze, wi, pr, 120⟩ ⟨#[48, 120]⟩) W HF.out hn (by decide) (by decide) hms
  obtain ⟨ms, hmse⟩ : ∃ ms, sharpB ⟨pl, mi, sh, sp, ze, wi, pr, 120⟩ ⟨#[48, 120]⟩ = ms := ⟨_, rfl⟩
  rw [hmse] at HCs HCb ⊢
  clear hmse hms
  go_enter Tryz.func100, Tryz.ntmps100
  go_upto_region 16 with fail
  have HB1 := Lib.hid ((Below.new (w := w) (.cells #[.bool x.neg, .int .u64 (x.n : Int), .int .u64 (x.bits : Int), .bool x.uns] 163)).push (.cells #[.bool pl, .bool mi, .bool sh, .bool sp, .bool ze, .int .i64 wi, .int .i64 pr, .int .i32 120] 33))
  have HX := Lib.hid ((NumAt.of (heap_alloc_new w (.cells #[.bool x.neg, .int .u64 (x.n : Int), .int .u64 (x.bits : Int), .bool x.uns] 163))).below (Below.new (.cells #[.bool pl, .bool mi, .bool sh, .bool sp, .bool ze, .int .i64 wi, .int .i64 pr, .int .i32 120] 33)))
  have hs := SpecAt.of (f := ⟨pl, mi, sh, sp, ze, wi, pr, 120⟩) (heap_alloc_new (w.alloc (.cells #[.bool x.neg, .int .u64 (x.n : Int), .int .u64 (x.bits : Int), .bool x.uns] 163)) (.cells #[.bool pl, .bool mi, .bool sh, .bool sp, .bool ze, .int .i64 wi, .int .i64 pr, .int .i32 120] 33))
  rw [show (w.alloc (.cells #[.bool x.neg, .int .u64 (x.n : Int), .int .u64 (x.bits : Int), .bool x.uns] 163)).heap.size = w.heap.size + 1 by simp] at hs
  have HS := Lib.hid hs
  clear hs
  generalize (w.alloc (.cells #[.bool x.neg, .int .u64 (x.n : Int), .int .u64 (x.bits : Int), .bool x.uns] 163)).alloc (.cells #[.bool pl, .bool mi, .bool sh, .bool sp, .bool ze, .int .i64 wi, .int .i64 pr, .int .i32 120] 33) = W1 at HB1 HX HS ⊢
  obtain ⟨x0, x1, x2, x3⟩ := HX.out
  obtain ⟨z0, z1, z2, z3, z4, z5, z6, z7, _⟩ := HS.out
  have K : W1.cell? ⟨w.heap.size, 0, none⟩ = some (.bool x.neg) ∧ W1.cell? ⟨w.heap.size, 1, none⟩ = some (.int .u64 (x.n : Int)) ∧ W1.cell? ⟨w.heap.size, 2, none⟩ = some (.int .u64 (x.bits : Int)) ∧ W1.cell? ⟨w.heap.size, 3, none⟩ = some (.bool x.uns) ∧ W1.cell? ⟨w.heap.size + 1, 0, none⟩ = some (.bool pl) ∧ W1.cell? ⟨w.heap.size + 1, 1, none⟩ = some (.bool mi) ∧ W1.cell? ⟨w.heap.size + 1, 2, none⟩ = some (.bool sh) ∧ W1.cell? ⟨w.heap.size + 1, 3, none⟩ = some (.bool sp) ∧ W1.cell? ⟨w.heap.size + 1, 4, none⟩ = some (.bool ze) ∧ W1.cell? ⟨w.heap.size + 1, 5, none⟩ = some (.int .i64 wi) ∧ W1.cell? ⟨w.heap.size + 1, 6, none⟩ = some (.int .i64 pr) ∧ W1.cell? ⟨w.heap.size + 1, 7, none⟩ = some (.int .i32 120) := ⟨x0, x1, x2, x3, z0, z1, z2, z3, z4, z5, z6, z7⟩
  have HBW : Below W1.heap.size W1 W1.drew := (Below.refl _ _).drew
  clear x0 x1 x2 x3 z0 z1 z2 z3 z4 z5 z6 z7
  go_region_held3 (fun w' => w'.cell? ⟨w.heap.size, 0, none⟩ = some (.bool x.neg) ∧ w'.cell? ⟨w.heap.size, 1, none⟩ = some (.int .u64 (x.n : Int)) ∧ w'.cell? ⟨w.heap.size, 2, none⟩ = some (.int .u64 (x.bits : Int)) ∧ w'.cell? ⟨w.heap.size, 3, none⟩ = some (.bool x.uns) ∧ w'.cell? ⟨w.heap.size + 1, 0, none⟩ = some (.bool pl) ∧ w'.cell? ⟨w.heap.size + 1, 1, none⟩ = some (.bool mi) ∧ w'.cell? ⟨w.heap.size + 1, 2, none⟩ = some (.bool sh) ∧ w'.cell? ⟨w.heap.size + 1, 3, none⟩ = some (.bool sp) ∧ w'.cell? ⟨w.heap.size + 1, 4, none⟩ = some (.bool ze) ∧ w'.cell? ⟨w.heap.size + 1, 5, none⟩ = some (.int .i64 wi) ∧ w'.cell? ⟨w.heap.size + 1, 6, none⟩ = some (.int .i64 pr) ∧ w'.cell? ⟨w.heap.size + 1, 7, none⟩ = some (.int .i32 120)) (exact K) (first
    | ((go_at_call 124; (with_reducible refine (HCs.out _).mono ?_); rintro e wa ⟨rfl, hbN⟩; have K := (show wa.cell? ⟨w.heap.size, 0, none⟩ = some (.bool x.neg) ∧ wa.cell? ⟨w.heap.size, 1, none⟩ = some (.int .u64 (x.n : Int)) ∧ wa.cell? ⟨w.heap.size, 2, none⟩ = some (.int .u64 (x.bits : Int)) ∧ wa.cell? ⟨w.heap.size, 3, none⟩ = some (.bool x.uns) ∧ wa.cell? ⟨w.heap.size + 1, 0, none⟩ = some (.bool pl) ∧ wa.cell? ⟨w.heap.size + 1, 1, none⟩ = some (.bool mi) ∧ wa.cell? ⟨w.heap.size + 1, 2, none⟩ = some (.bool sh) ∧ wa.cell? ⟨w.heap.size + 1, 3, none⟩ = some (.bool sp) ∧ wa.cell? ⟨w.heap.size + 1, 4, none⟩ = some (.bool ze) ∧ wa.cell? ⟨w.heap.size + 1, 5, none⟩ = some (.int .i64 wi) ∧ wa.cell? ⟨w.heap.size + 1, 6, none⟩ = some (.int .i64 pr) ∧ wa.cell? ⟨w.heap.size + 1, 7, none⟩ = some (.int .i32 120) from ⟨cell_below hbN K.1, cell_below hbN K.2.1, cell_below hbN K.2.2.1, cell_below hbN K.2.2.2.1, cell_below hbN K.2.2.2.2.1, cell_below hbN K.2.2.2.2.2.1, cell_below hbN K.2.2.2.2.2.2.1, cell_below hbN K.2.2.2.2.2.2.2.1, cell_below hbN K.2.2.2.2.2.2.2.2.1, cell_below hbN K.2.2.2.2.2.2.2.2.2.1, cell_below hbN K.2.2.2.2.2.2.2.2.2.2.1, cell_below hbN K.2.2.2.2.2.2.2.2.2.2.2⟩); have HBW := HBW.next hbN))
    | ((go_at_call 123; (with_reducible refine (HCb.out _).mono ?_); rintro e wb ⟨rfl, hbN⟩; have K := (show wb.cell? ⟨w.heap.size, 0, none⟩ = some (.bool x.neg) ∧ wb.cell? ⟨w.heap.size, 1, none⟩ = some (.int .u64 (x.n : Int)) ∧ wb.cell? ⟨w.heap.size, 2, none⟩ = some (.int .u64 (x.bits : Int)) ∧ wb.cell? ⟨w.heap.size, 3, none⟩ = some (.bool x.uns) ∧ wb.cell? ⟨w.heap.size + 1, 0, none⟩ = some (.bool pl) ∧ wb.cell? ⟨w.heap.size + 1, 1, none⟩ = some (.bool mi) ∧ wb.cell? ⟨w.heap.size + 1, 2, none⟩ = some (.bool sh) ∧ wb.cell? ⟨w.heap.size + 1, 3, none⟩ = some (.bool sp) ∧ wb.cell? ⟨w.heap.size + 1, 4, none⟩ = some (.bool ze) ∧ wb.cell? ⟨w.heap.size + 1, 5, none⟩ = some (.int .i64 wi) ∧ wb.cell? ⟨w.heap.size + 1, 6, none⟩ = some (.int .i64 pr) ∧ wb.cell? ⟨w.heap.size + 1, 7, none⟩ = some (.int .i32 120) from ⟨cell_below hbN K.1, cell_below hbN K.2.1, cell_below hbN K.2.2.1, cell_below hbN K.2.2.2.1, cell_below hbN K.2.2.2.2.1, cell_below hbN K.2.2.2.2.2.1, cell_below hbN K.2.2.2.2.2.2.1, cell_below hbN K.2.2.2.2.2.2.2.1, cell_below hbN K.2.2.2.2.2.2.2.2.1, cell_below hbN K.2.2.2.2.2.2.2.2.2.1, cell_below hbN K.2.2.2.2.2.2.2.2.2.2.1, cell_below hbN K.2.2.2.2.2.2.2.2.2.2.2⟩); have HBW := HBW.next hbN)))
  all_goals
    have HB2 := Lib.hid (HB1.out.next HBW)
    clear hbN K
    go_wp2_with fail
    go_ret2
    exact ⟨rfl, HB2.out⟩
set_option maxHeartbeats 8000000 in
set_option maxRecDepth 1000000 in
theorem write_X (x : NumD') (pl mi sh sp ze : Bool) (wi pr : Int) (w : World) (hf : (⟨pl, mi, sh, sp, ze, wi, pr, 88⟩ : SpecD).Rng) (hn : x.n < 18446744073709551616) :
    Calls Tryz.prog 100 #[.agg #[.bool x.neg, .int .u64 (x.n : Int), .int .u64 (x.bits : Int), .bool x.uns], .agg #[.bool pl, .bool mi, .bool sh, .bool sp, .bool ze, .int .i64 wi, .int .i64 pr, .int .i32 88]] w (Ret2 w (basedB x ⟨pl, mi, sh, sp, ze, wi, pr, 88⟩ 16 (sharpB ⟨pl, mi, sh, sp, ze, wi, pr, 88⟩ ⟨#[48, 88]⟩)) true) := by
  have HF := Lib.hid hf
  clear hf
  have hms : (sharpB ⟨pl, mi, sh, sp, ze, wi, pr, 88⟩ ⟨#[48, 88]⟩).size ≤ 2 := by unfold sharpB; split <;> decide
  have HCs : Hid (∀ W, Calls Tryz.prog 124 #[.agg #[.bool pl, .bool mi, .bool sh, .bool sp, .bool ze, .int .i64 wi, .int .i64 pr, .int .i32 88], .string ⟨#[48, 88]⟩] W (Ret W (.string (sharpB ⟨pl, mi, sh, sp, ze, wi, pr, 88⟩ ⟨#[48, 88]⟩)))) := fun W => sharp_any ⟨pl, mi, sh, sp, ze, wi, pr, 88⟩ ⟨#[48, 88]⟩ W
  have HCb : Hid (∀ W, Calls Tryz.prog 123 #[.agg #[.bool x.neg, .int .u64 (x.n : Int), .int .u64 (x.bits : Int), .bool x.uns], .agg #[.bool pl, .bool mi, .bool sh, .bool sp, .bool ze, .int .i64 wi, .int .i64 pr, .int .i32 88], .int .u64 16, .string (sharpB ⟨pl, mi, sh, sp, ze, wi, pr, 88⟩ ⟨#[48, 88]⟩)] W (Ret W (.string (basedB x ⟨pl, mi, sh, sp, ze, wi, pr, 88⟩ 16 (sharpB ⟨pl, mi, sh, sp, ze, wi, pr, 88⟩ ⟨#[48, 88]⟩))))) := fun W => based_any x ⟨pl, mi, sh, sp, ze, wi, pr, 88⟩ 16 (sharpB ⟨pl, mi, sh, sp, ze, wi, pr, 88⟩ ⟨#[48, 88]⟩) W HF.out hn (by decide) (by decide) hms
  obtain ⟨ms, hmse⟩ : ∃ ms, sharpB ⟨pl, mi, sh, sp, ze, wi, pr, 88⟩ ⟨#[48, 88]⟩ = ms := ⟨_, rfl⟩
  rw [hmse] at HCs HCb ⊢
  clear hmse hms
  go_enter Tryz.func100, Tryz.ntmps100
  go_upto_region 18 with fail
  have HB1 := Lib.hid ((Below.new (w := w) (.cells #[.bool x.neg, .int .u64 (x.n : Int), .int .u64 (x.bits : Int), .bool x.uns] 163)).push (.cells #[.bool pl, .bool mi, .bool sh, .bool sp, .bool ze, .int .i64 wi, .int .i64 pr, .int .i32 88] 33))
  have HX := Lib.hid ((NumAt.of (heap_alloc_new w (.cells #[.bool x.neg, .int .u64 (x.n : Int), .int .u64 (x.bits : Int), .bool x.uns] 163))).below (Below.new (.cells #[.bool pl, .bool mi, .bool sh, .bool sp, .bool ze, .int .i64 wi, .int .i64 pr, .int .i32 88] 33)))
  have hs := SpecAt.of (f := ⟨pl, mi, sh, sp, ze, wi, pr, 88⟩) (heap_alloc_new (w.alloc (.cells #[.bool x.neg, .int .u64 (x.n : Int), .int .u64 (x.bits : Int), .bool x.uns] 163)) (.cells #[.bool pl, .bool mi, .bool sh, .bool sp, .bool ze, .int .i64 wi, .int .i64 pr, .int .i32 88] 33))
  rw [show (w.alloc (.cells #[.bool x.neg, .int .u64 (x.n : Int), .int .u64 (x.bits : Int), .bool x.uns] 163)).heap.size = w.heap.size + 1 by simp] at hs
  have HS := Lib.hid hs
  clear hs
  generalize (w.alloc (.cells #[.bool x.neg, .int .u64 (x.n : Int), .int .u64 (x.bits : Int), .bool x.uns] 163)).alloc (.cells #[.bool pl, .bool mi, .bool sh, .bool sp, .bool ze, .int .i64 wi, .int .i64 pr, .int .i32 88] 33) = W1 at HB1 HX HS ⊢
  obtain ⟨x0, x1, x2, x3⟩ := HX.out
  obtain ⟨z0, z1, z2, z3, z4, z5, z6, z7, _⟩ := HS.out
  have K : W1.cell? ⟨w.heap.size, 0, none⟩ = some (.bool x.neg) ∧ W1.cell? ⟨w.heap.size, 1, none⟩ = some (.int .u64 (x.n : Int)) ∧ W1.cell? ⟨w.heap.size, 2, none⟩ = some (.int .u64 (x.bits : Int)) ∧ W1.cell? ⟨w.heap.size, 3, none⟩ = some (.bool x.uns) ∧ W1.cell? ⟨w.heap.size + 1, 0, none⟩ = some (.bool pl) ∧ W1.cell? ⟨w.heap.size + 1, 1, none⟩ = some (.bool mi) ∧ W1.cell? ⟨w.heap.size + 1, 2, none⟩ = some (.bool sh) ∧ W1.cell? ⟨w.heap.size + 1, 3, none⟩ = some (.bool sp) ∧ W1.cell? ⟨w.heap.size + 1, 4, none⟩ = some (.bool ze) ∧ W1.cell? ⟨w.heap.size + 1, 5, none⟩ = some (.int .i64 wi) ∧ W1.cell? ⟨w.heap.size + 1, 6, none⟩ = some (.int .i64 pr) ∧ W1.cell? ⟨w.heap.size + 1, 7, none⟩ = some (.int .i32 88) := ⟨x0, x1, x2, x3, z0, z1, z2, z3, z4, z5, z6, z7⟩
  have HBW : Below W1.heap.size W1 W1.drew := (Below.refl _ _).drew
  clear x0 x1 x2 x3 z0 z1 z2 z3 z4 z5 z6 z7
  go_region_held3 (fun w' => w'.cell? ⟨w.heap.size, 0, none⟩ = some (.bool x.neg) ∧ w'.cell? ⟨w.heap.size, 1, none⟩ = some (.int .u64 (x.n : Int)) ∧ w'.cell? ⟨w.heap.size, 2, none⟩ = some (.int .u64 (x.bits : Int)) ∧ w'.cell? ⟨w.heap.size, 3, none⟩ = some (.bool x.uns) ∧ w'.cell? ⟨w.heap.size + 1, 0, none⟩ = some (.bool pl) ∧ w'.cell? ⟨w.heap.size + 1, 1, none⟩ = some (.bool mi) ∧ w'.cell? ⟨w.heap.size + 1, 2, none⟩ = some (.bool sh) ∧ w'.cell? ⟨w.heap.size + 1, 3, none⟩ = some (.bool sp) ∧ w'.cell? ⟨w.heap.size + 1, 4, none⟩ = some (.bool ze) ∧ w'.cell? ⟨w.heap.size + 1, 5, none⟩ = some (.int .i64 wi) ∧ w'.cell? ⟨w.heap.size + 1, 6, none⟩ = some (.int .i64 pr) ∧ w'.cell? ⟨w.heap.size + 1, 7, none⟩ = some (.int .i32 88)) (exact K) (first
    | ((go_at_call 124; (with_reducible refine (HCs.out _).mono ?_); rintro e wa ⟨rfl, hbN⟩; have K := (show wa.cell? ⟨w.heap.size, 0, none⟩ = some (.bool x.neg) ∧ wa.cell? ⟨w.heap.size, 1, none⟩ = some (.int .u64 (x.n : Int)) ∧ wa.cell? ⟨w.heap.size, 2, none⟩ = some (.int .u64 (x.bits : Int)) ∧ wa.cell? ⟨w.heap.size, 3, none⟩ = some (.bool x.uns) ∧ wa.cell? ⟨w.heap.size + 1, 0, none⟩ = some (.bool pl) ∧ wa.cell? ⟨w.heap.size + 1, 1, none⟩ = some (.bool mi) ∧ wa.cell? ⟨w.heap.size + 1, 2, none⟩ = some (.bool sh) ∧ wa.cell? ⟨w.heap.size + 1, 3, none⟩ = some (.bool sp) ∧ wa.cell? ⟨w.heap.size + 1, 4, none⟩ = some (.bool ze) ∧ wa.cell? ⟨w.heap.size + 1, 5, none⟩ = some (.int .i64 wi) ∧ wa.cell? ⟨w.heap.size + 1, 6, none⟩ = some (.int .i64 pr) ∧ wa.cell? ⟨w.heap.size + 1, 7, none⟩ = some (.int .i32 88) from ⟨cell_below hbN K.1, cell_below hbN K.2.1, cell_below hbN K.2.2.1, cell_below hbN K.2.2.2.1, cell_below hbN K.2.2.2.2.1, cell_below hbN K.2.2.2.2.2.1, cell_below hbN K.2.2.2.2.2.2.1, cell_below hbN K.2.2.2.2.2.2.2.1, cell_below hbN K.2.2.2.2.2.2.2.2.1, cell_below hbN K.2.2.2.2.2.2.2.2.2.1, cell_below hbN K.2.2.2.2.2.2.2.2.2.2.1, cell_below hbN K.2.2.2.2.2.2.2.2.2.2.2⟩); have HBW := HBW.next hbN))
    | ((go_at_call 123; (with_reducible refine (HCb.out _).mono ?_); rintro e wb ⟨rfl, hbN⟩; have K := (show wb.cell? ⟨w.heap.size, 0, none⟩ = some (.bool x.neg) ∧ wb.cell? ⟨w.heap.size, 1, none⟩ = some (.int .u64 (x.n : Int)) ∧ wb.cell? ⟨w.heap.size, 2, none⟩ = some (.int .u64 (x.bits : Int)) ∧ wb.cell? ⟨w.heap.size, 3, none⟩ = some (.bool x.uns) ∧ wb.cell? ⟨w.heap.size + 1, 0, none⟩ = some (.bool pl) ∧ wb.cell? ⟨w.heap.size + 1, 1, none⟩ = some (.bool mi) ∧ wb.cell? ⟨w.heap.size + 1, 2, none⟩ = some (.bool sh) ∧ wb.cell? ⟨w.heap.size + 1, 3, none⟩ = some (.bool sp) ∧ wb.cell? ⟨w.heap.size + 1, 4, none⟩ = some (.bool ze) ∧ wb.cell? ⟨w.heap.size + 1, 5, none⟩ = some (.int .i64 wi) ∧ wb.cell? ⟨w.heap.size + 1, 6, none⟩ = some (.int .i64 pr) ∧ wb.cell? ⟨w.heap.size + 1, 7, none⟩ = some (.int .i32 88) from ⟨cell_below hbN K.1, cell_below hbN K.2.1, cell_below hbN K.2.2.1, cell_below hbN K.2.2.2.1, cell_below hbN K.2.2.2.2.1, cell_below hbN K.2.2.2.2.2.1, cell_below hbN K.2.2.2.2.2.2.1, cell_below hbN K.2.2.2.2.2.2.2.1, cell_below hbN K.2.2.2.2.2.2.2.2.1, cell_below hbN K.2.2.2.2.2.2.2.2.2.1, cell_below hbN K.2.2.2.2.2.2.2.2.2.2.1, cell_below hbN K.2.2.2.2.2.2.2.2.2.2.2⟩); have HBW := HBW.next hbN)))
  all_goals
    have HB2 := Lib.hid (HB1.out.next HBW)
    clear hbN K
    go_wp2_with fail
    go_ret2
    exact ⟨rfl, HB2.out⟩
set_option maxHeartbeats 8000000 in
set_option maxRecDepth 1000000 in
theorem write_v (x : NumD') (pl mi sh sp ze : Bool) (wi pr : Int) (w : World) (hf : (⟨pl, mi, sh, sp, ze, wi, pr, 118⟩ : SpecD).Rng) (hn : x.n < 18446744073709551616) (hu : (x.uns && sh) = false) :
    Calls Tryz.prog 100 #[.agg #[.bool x.neg, .int .u64 (x.n : Int), .int .u64 (x.bits : Int), .bool x.uns], .agg #[.bool pl, .bool mi, .bool sh, .bool sp, .bool ze, .int .i64 wi, .int .i64 pr, .int .i32 118]] w (Ret2 w (basedB x ⟨pl, mi, sh, sp, ze, wi, pr, 118⟩ 10 ⟨#[]⟩) true) := by
  have HF := Lib.hid hf
  have HU := Lib.hid hu
  clear hf hu
  go_enter Tryz.func100, Tryz.ntmps100
  go_upto_region 3 with fail
  have HB1 := Lib.hid ((Below.new (w := w) (.cells #[.bool x.neg, .int .u64 (x.n : Int), .int .u64 (x.bits : Int), .bool x.uns] 163)).push (.cells #[.bool pl, .bool mi, .bool sh, .bool sp, .bool ze, .int .i64 wi, .int .i64 pr, .int .i32 118] 33))
  have HX := Lib.hid ((NumAt.of (heap_alloc_new w (.cells #[.bool x.neg, .int .u64 (x.n : Int), .int .u64 (x.bits : Int), .bool x.uns] 163))).below (Below.new (.cells #[.bool pl, .bool mi, .bool sh, .bool sp, .bool ze, .int .i64 wi, .int .i64 pr, .int .i32 118] 33)))
  have hs := SpecAt.of (f := ⟨pl, mi, sh, sp, ze, wi, pr, 118⟩) (heap_alloc_new (w.alloc (.cells #[.bool x.neg, .int .u64 (x.n : Int), .int .u64 (x.bits : Int), .bool x.uns] 163)) (.cells #[.bool pl, .bool mi, .bool sh, .bool sp, .bool ze, .int .i64 wi, .int .i64 pr, .int .i32 118] 33))
  rw [show (w.alloc (.cells #[.bool x.neg, .int .u64 (x.n : Int), .int .u64 (x.bits : Int), .bool x.uns] 163)).heap.size = w.heap.size + 1 by simp] at hs
  have HS := Lib.hid hs
  clear hs
  generalize (w.alloc (.cells #[.bool x.neg, .int .u64 (x.n : Int), .int .u64 (x.bits : Int), .bool x.uns] 163)).alloc (.cells #[.bool pl, .bool mi, .bool sh, .bool sp, .bool ze, .int .i64 wi, .int .i64 pr, .int .i32 118] 33) = W1 at HB1 HX HS ⊢
  obtain ⟨x0, x1, x2, x3⟩ := HX.out
  obtain ⟨z0, z1, z2, z3, z4, z5, z6, z7, _⟩ := HS.out
  go_cut [15] (fun v15 wx => v15 = .bool false ∧ wx = W1)
  case first =>
    rcases Bool.eq_false_or_eq_true x.uns with hu | hu
    · rw [hu] at x3
      obtain rfl : sh = false := by have := HU.out; rw [hu] at this; simpa using this
      clear hu
      go_wp2_with fail
      go_meet
      exact ⟨rfl, rfl⟩
    · rw [hu] at x3
      clear hu
      go_wp2_with fail
      go_meet
      exact ⟨rfl, rfl⟩
  case rest =>
  obtain ⟨rfl, rfl⟩ := hcut
  apply_assumption
  have x3 := HX.out.c3
  go_wp2_with fail
  refine (based_any x ⟨pl, mi, sh, sp, ze, wi, pr, 118⟩ 10 ⟨#[]⟩ _ HF.out hn (by decide) (by decide) (by decide)).mono ?_
  rintro e w2 ⟨rfl, hB2⟩
  have HB2 := Lib.hid (HB1.out.next hB2)
  clear hB2 x0 x1 x2 x3 z0 z1 z2 z3 z4 z5 z6 z7
  go_wp2_with fail
  go_ret2
  exact ⟨rfl, HB2.out⟩
end Go.Proofs.YtkpfeodffhfejaaGreatDoor
