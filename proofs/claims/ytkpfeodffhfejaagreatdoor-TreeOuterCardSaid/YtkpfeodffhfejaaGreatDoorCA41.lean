/- A whole number by its verb, with its sign: ints' Signed and Unsigned. Condition: the verb is one of v, d, b, o, O, x, X. -/
import Derived.Test.YtkpfeodffhfejaaGreatDoorCA40
import Derived.Test.YtkpfeodffhfejaaGreatDoorCA38
import Derived.Test.YtkpfeodffhfejaaGreatDoorCA30
import Derived.Test.YtkpfeodffhfejaaGreatDoorCA04
import Derived.Test.YtkpfeodffhfejaaGreatDoorCA00
import Derived.Test.YtkpfeodffhfejaaGreatDoorCA36
import Derived.Lib.Builder
import Derived.Lib.AppendStr
import Derived.Lib.UnsafeStr
import Derived.Lib.OthersKept
import Derived.ShutString
namespace Go.Proofs.YtkpfeodffhfejaaGreatDoor
set_option linter.unusedVariables false
set_option linter.unusedSimpArgs false
open Go.RowKit

def writeB (x : NumD') (f : SpecD) : ByteArray :=
  if f.verb = 98 then basedB x f 2 (sharpB f ⟨#[48, 98]⟩) else if f.verb = 111 then basedB x f 8 (sharpB f ⟨#[48]⟩) else if f.verb = 79 then basedB x f 8 ⟨#[48, 111]⟩
  else if f.verb = 120 then basedB x f 16 (sharpB f ⟨#[48, 120]⟩) else if f.verb = 88 then basedB x f 16 (sharpB f ⟨#[48, 88]⟩) else basedB x f 10 ⟨#[]⟩
/-- The verbs that write digits. -/
def DigV (f : SpecD) : Prop := f.verb = 118 ∨ f.verb = 100 ∨ f.verb = 98 ∨ f.verb = 111 ∨ f.verb = 79 ∨ f.verb = 120 ∨ f.verb = 88
theorem write_any (x : NumD') (f : SpecD) (w : World) (hf : f.Rng) (hn : x.n < 18446744073709551616) (hv : DigV f) (hu : f.verb = 118 → (x.uns && f.sharp) = false) :
    Calls Tryz.prog 100 #[.agg #[.bool x.neg, .int .u64 (x.n : Int), .int .u64 (x.bits : Int), .bool x.uns], .agg #[.bool f.plus, .bool f.minus, .bool f.sharp, .bool f.space, .bool f.zero, .int .i64 f.wid, .int .i64 f.prec, .int .i32 f.verb]] w (Ret2 w (writeB x f) true) := by
  obtain ⟨pl, mi, sh, sp, ze, wi, pr, vb⟩ := f
  rcases hv with h | h | h | h | h | h | h
  all_goals (simp only at h; subst h)
  · exact write_v x pl mi sh sp ze wi pr w hf hn (hu rfl)
  · exact write_d x pl mi sh sp ze wi pr w hf hn
  · exact write_b x pl mi sh sp ze wi pr w hf hn
  · exact write_o x pl mi sh sp ze wi pr w hf hn
  · exact write_O x pl mi sh sp ze wi pr w hf hn
  · exact write_x x pl mi sh sp ze wi pr w hf hn
  · exact write_X x pl mi sh sp ze wi pr w hf hn
/-- A number with a sign, under way. -/
def sgnD (v : Int) : NumD' := ⟨decide (v < 0), (if v < 0 then -v else v).toNat, (v % 18446744073709551616).toNat, false⟩
def unsD (v : Nat) : NumD' := ⟨false, v, v, true⟩
set_option maxHeartbeats 4000000 in
set_option maxRecDepth 1000000 in
theorem signed_any (v : Int) (f : SpecD) (w : World) (hf : f.Rng) (hv : DigV f) (h1 : -9223372036854775808 ≤ v) (h2 : v ≤ 9223372036854775807) :
    Calls Tryz.prog 74 #[.int .i64 v, .agg #[.bool f.plus, .bool f.minus, .bool f.sharp, .bool f.space, .bool f.zero, .int .i64 f.wid, .int .i64 f.prec, .int .i32 f.verb]] w (Ret2 w (writeB (sgnD v) f) true) := by
  have HF := Lib.hid hf
  have HV := Lib.hid hv
  have HW : Hid (∀ W, Calls Tryz.prog 100 #[.agg #[.bool (decide (v < 0)), .int .u64 ((sgnD v).n : Int), .int .u64 ((sgnD v).bits : Int), .bool false], .agg #[.bool f.plus, .bool f.minus, .bool f.sharp, .bool f.space, .bool f.zero, .int .i64 f.wid, .int .i64 f.prec, .int .i32 f.verb]] W (Ret2 W (writeB (sgnD v) f) true)) :=
    fun W => write_any (sgnD v) f W hf (by show (if v < 0 then -v else v).toNat < _; split <;> omega) hv (fun _ => rfl)
  obtain ⟨r, hr⟩ : ∃ r, writeB (sgnD v) f = r := ⟨_, rfl⟩
  rw [hr] at HW ⊢
  clear hf hv hr
  obtain ⟨b, e1⟩ : ∃ b, IntKind.u64.wrap v = b := ⟨_, rfl⟩
  have HBT : Hid (((sgnD v).bits : Int) = b) := by
    rw [IntKind.wrap_u64] at e1
    show ((v % 18446744073709551616).toNat : Int) = b
    omega
  have HNN : Hid (((sgnD v).n : Int) = if v < 0 then -v else v) := by
    show (((if v < 0 then -v else v).toNat : Nat) : Int) = _
    split <;> omega
  rw [HBT.out, HNN.out] at HW
  clear HBT HNN
  by_cases hneg : v < 0
  · have e2 : IntKind.u64.wrap (-b) = -v := by
      rw [IntKind.wrap_u64] at e1 ⊢
      omega
    have e3 : decide (v < 0) = true := by simpa using hneg
    rw [if_pos hneg, e3] at HW
    go_enter Tryz.func74, Tryz.ntmps74
    go_wp2_with fail
    refine (HW.out _).mono ?_
    rintro e w2 ⟨rfl, hB⟩
    have HB := Lib.hid (((Below.new (w := w) _).push _).next hB)
    clear hB e1 e2
    go_wp2_with fail
    go_ret2
    exact ⟨rfl, HB.out⟩
  · have e2 : b = v := by
      rw [IntKind.wrap_u64] at e1
      omega
    subst e2
    have e3 : decide (b < 0) = false := by simpa using hneg
    rw [if_neg hneg, e3] at HW
    go_enter Tryz.func74, Tryz.ntmps74
    go_wp2_with fail
    refine (HW.out _).mono ?_
    rintro e w2 ⟨rfl, hB⟩
    have HB := Lib.hid (((Below.new (w := w) _).push _).next hB)
    clear hB e1
    go_wp2_with fail
    go_ret2
    exact ⟨rfl, HB.out⟩
set_option maxHeartbeats 4000000 in
set_option maxRecDepth 1000000 in
theorem unsigned_any (v : Nat) (f : SpecD) (w : World) (hf : f.Rng) (hv : DigV f) (h2 : v < 18446744073709551616) (hu : f.verb = 118 → f.sharp = false) :
    Calls Tryz.prog 76 #[.int .u64 (v : Int), .agg #[.bool f.plus, .bool f.minus, .bool f.sharp, .bool f.space, .bool f.zero, .int .i64 f.wid, .int .i64 f.prec, .int .i32 f.verb]] w (Ret2 w (writeB (unsD v) f) true) := by
  have HW : Hid (∀ W, Calls Tryz.prog 100 #[.agg #[.bool false, .int .u64 (v : Int), .int .u64 (v : Int), .bool true], .agg #[.bool f.plus, .bool f.minus, .bool f.sharp, .bool f.space, .bool f.zero, .int .i64 f.wid, .int .i64 f.prec, .int .i32 f.verb]] W (Ret2 W (writeB (unsD v) f) true)) :=
    fun W => write_any (unsD v) f W hf h2 hv (fun h => by rw [hu h]; rfl)
  obtain ⟨r, hr⟩ : ∃ r, writeB (unsD v) f = r := ⟨_, rfl⟩
  rw [hr] at HW ⊢
  clear hf hv hr hu
  go_enter Tryz.func76, Tryz.ntmps76
  go_wp2_with fail
  refine (HW.out _).mono ?_
  rintro e w2 ⟨rfl, hB⟩
  have HB := Lib.hid ((Below.new (w := w) _).next hB)
  clear hB
  go_wp2_with fail
  go_ret2
  exact ⟨rfl, HB.out⟩
end Go.Proofs.YtkpfeodffhfejaaGreatDoor

/- A whole number is written: tree's kind at an Int. Condition: the verb is one that numbers have. -/
namespace Go.Proofs.YtkpfeodffhfejaaGreatDoor
set_option linter.unusedVariables false
set_option linter.unusedSimpArgs false
open Go.RowKit

set_option maxHeartbeats 4000000 in
set_option maxRecDepth 1000000 in
theorem kind_int (f : SpecD) (k : Value) (b : B) (x dep : Int) (w : World) (hf : (numSpec f).Rng) (hv : DigV (numSpec f)) (h1 : -9223372036854775808 ≤ x) (h2 : x ≤ 9223372036854775807) :
    Calls Tryz.prog 48 #[.agg #[.bool f.plus, .bool f.minus, .bool f.sharp, .bool f.space, .bool f.zero, .int .i64 f.wid, .int .i64 f.prec, .int .i32 f.verb, k], (Leaf.int b x).val, .int .i64 dep] w (Ret2 w (writeB (sgnD x) (numSpec f)) true) := by
  unfold Leaf.val
  have t82 := as82
  have t85 := as85
  obtain ⟨g, hg⟩ : ∃ g, numSpec f = g := ⟨_, rfl⟩
  have HNUM : Hid (∀ W, Calls Tryz.prog 75 #[.agg #[.bool f.plus, .bool f.minus, .bool f.sharp, .bool f.space, .bool f.zero, .int .i64 f.wid, .int .i64 f.prec, .int .i32 f.verb, k]] W (Ret W (.agg (specCells g)))) := Lib.hid fun W => hg ▸ tnumber_any f k W
  rw [hg] at hf hv ⊢
  clear hg
  obtain ⟨r, hr⟩ : ∃ r, writeB (sgnD x) g = r := ⟨_, rfl⟩
  have HSG : Hid (∀ W, Calls Tryz.prog 74 #[.int .i64 x, .agg (specCells g)] W (Ret2 W r true)) := Lib.hid fun W => hr ▸ signed_any x g W hf hv h1 h2
  rw [hr]
  clear hr hf hv h1 h2
  go_enter Tryz.func48, Tryz.ntmps48
  go_upto_region 11 with fail
  have HW : Hid (((w.alloc (.cells #[.bool f.plus, .bool f.minus, .bool f.sharp, .bool f.space, .bool f.zero, .int .i64 f.wid, .int .i64 f.prec, .int .i32 f.verb, k] 57)).alloc (.cells #[.int .i64 b.kind, .string b.name, .int .i64 b.hook, .int .i64 x] 87)).heap[w.heap.size]? = some (.cells #[.bool f.plus, .bool f.minus, .bool f.sharp, .bool f.space, .bool f.zero, .int .i64 f.wid, .int .i64 f.prec, .int .i32 f.verb, k] 57 (0, 0))) := Lib.hid (heap_alloc_old (w := w.alloc _) _ (by simp) |>.trans (heap_alloc_new w _))
  have HI : Hid (((w.alloc (.cells #[.bool f.plus, .bool f.minus, .bool f.sharp, .bool f.space, .bool f.zero, .int .i64 f.wid, .int .i64 f.prec, .int .i32 f.verb, k] 57)).alloc (.cells #[.int .i64 b.kind, .string b.name, .int .i64 b.hook, .int .i64 x] 87)).heap[w.heap.size + 1]? = some (.cells #[.int .i64 b.kind, .string b.name, .int .i64 b.hook, .int .i64 x] 87 (0, 0))) := by
    have h := heap_alloc_new (w.alloc (.cells #[.bool f.plus, .bool f.minus, .bool f.sharp, .bool f.space, .bool f.zero, .int .i64 f.wid, .int .i64 f.prec, .int .i32 f.verb, k] 57)) (.cells #[.int .i64 b.kind, .string b.name, .int .i64 b.hook, .int .i64 x] 87)
    have hz : (w.alloc (.cells #[.bool f.plus, .bool f.minus, .bool f.sharp, .bool f.space, .bool f.zero, .int .i64 f.wid, .int .i64 f.prec, .int .i32 f.verb, k] 57)).heap.size = w.heap.size + 1 := by simp
    rw [hz] at h
    exact Lib.hid h
  have HB : Hid (Below w.heap.size w ((w.alloc (.cells #[.bool f.plus, .bool f.minus, .bool f.sharp, .bool f.space, .bool f.zero, .int .i64 f.wid, .int .i64 f.prec, .int .i32 f.verb, k] 57)).alloc (.cells #[.int .i64 b.kind, .string b.name, .int .i64 b.hook, .int .i64 x] 87))) := Lib.hid ((Below.new _).push _)
  generalize ((w.alloc (.cells #[.bool f.plus, .bool f.minus, .bool f.sharp, .bool f.space, .bool f.zero, .int .i64 f.wid, .int .i64 f.prec, .int .i32 f.verb, k] 57)).alloc (.cells #[.int .i64 b.kind, .string b.name, .int .i64 b.hook, .int .i64 x] 87)) = W2 at HW HI HB ⊢
  have c0 : W2.cell? ⟨w.heap.size, 0, none⟩ = some (.bool f.plus) := cell_of_heap' HW.out 0
  have c1 : W2.cell? ⟨w.heap.size, 1, none⟩ = some (.bool f.minus) := cell_of_heap' HW.out 1
  have c2 : W2.cell? ⟨w.heap.size, 2, none⟩ = some (.bool f.sharp) := cell_of_heap' HW.out 2
  have c3 : W2.cell? ⟨w.heap.size, 3, none⟩ = some (.bool f.space) := cell_of_heap' HW.out 3
  have c4 : W2.cell? ⟨w.heap.size, 4, none⟩ = some (.bool f.zero) := cell_of_heap' HW.out 4
  have c5 : W2.cell? ⟨w.heap.size, 5, none⟩ = some (.int .i64 f.wid) := cell_of_heap' HW.out 5
  have c6 : W2.cell? ⟨w.heap.size, 6, none⟩ = some (.int .i64 f.prec) := cell_of_heap' HW.out 6
  have c7 : W2.cell? ⟨w.heap.size, 7, none⟩ = some (.int .i32 f.verb) := cell_of_heap' HW.out 7
  have c8 : W2.cell? ⟨w.heap.size, 8, none⟩ = some (k) := cell_of_heap' HW.out 8
  have d3 : W2.cell? ⟨w.heap.size + 1, 3, none⟩ = some (.int .i64 x) := cell_of_heap' HI.out 3
  have HB := Lib.hid (HB.out.next (Below.refl _ W2).drew)
  go_region_with (first
    | ((with_reducible refine (HNUM.out _).mono ?_); rintro e wa ⟨rfl, hwa⟩; have d3 := cell_below hwa d3; have HB := Lib.hid (HB.out.next hwa); clear hwa)
    | ((with_reducible refine (HSG.out _).mono ?_); rintro e wb ⟨rfl, hwb⟩; have HB := Lib.hid (HB.out.next hwb); clear hwb))
  all_goals
    have HE : Hid (Ret2 w r true (.returned (.tuple #[.string r, .bool true])) _) := Lib.hid ⟨rfl, HB.out⟩
    clear d3 c0 c1 c2 c3 c4 c5 c6 c7 c8
    go_wp2_with fail
    refine bodyPost_ret (v := .tuple #[.string r, .bool true]) (by simp [results, Tryz.f48, go_sem]) rfl ?_
    exact HE.out
end Go.Proofs.YtkpfeodffhfejaaGreatDoor

/- A text is written: quote's Text by v (not as in a program's text) and by s. Condition: the text's size, the verb. -/
namespace Go.Proofs.YtkpfeodffhfejaaGreatDoor
set_option linter.unusedVariables false
set_option linter.unusedSimpArgs false
open Go.RowKit

theorem cutB_size (s : ByteArray) (n : Int) : (cutB s n).size ≤ s.size := by
  unfold cutB
  split
  · exact Nat.le_refl _
  · rw [ByteArray.size_extract]; omega
set_option maxHeartbeats 4000000 in
set_option maxRecDepth 1000000 in
theorem qtext_any (s : ByteArray) (f : SpecD) (w : World) (hs : s.size ≤ 140737488355328) (hf : f.Rng) (hv : (f.verb = 118 ∧ f.sharp = false) ∨ f.verb = 115) :
    Calls Tryz.prog 24 #[.string s, .agg #[.bool f.plus, .bool f.minus, .bool f.sharp, .bool f.space, .bool f.zero, .int .i64 f.wid, .int .i64 f.prec, .int .i32 f.verb]] w (Ret2 w (padB (cutB s f.prec) f) true) := by
  have HCUT : Hid (∀ W, Calls Tryz.prog 43 #[.string s, .int .i64 f.prec] W (Ret W (.string (cutB s f.prec)))) := Lib.hid fun W => cut_any s f.prec W hs hf.p2
  have hcs := cutB_size s f.prec
  obtain ⟨c, hc⟩ : ∃ c, cutB s f.prec = c := ⟨_, rfl⟩
  rw [hc] at HCUT hcs ⊢
  have HPAD : Hid (∀ W, Calls Tryz.prog 41 #[.string c, .agg #[.bool f.plus, .bool f.minus, .bool f.sharp, .bool f.space, .bool f.zero, .int .i64 f.wid, .int .i64 f.prec, .int .i32 f.verb]] W (Ret W (.string (padB c f)))) := Lib.hid fun W => pad_any c f W (by omega) hf
  obtain ⟨r, hr⟩ : ∃ r, padB c f = r := ⟨_, rfl⟩
  rw [hr] at HPAD ⊢
  have HSB : Hid ((w.alloc (.cells #[.bool f.plus, .bool f.minus, .bool f.sharp, .bool f.space, .bool f.zero, .int .i64 f.wid, .int .i64 f.prec, .int .i32 f.verb] 33)).heap[w.heap.size]? = some (.cells #[.bool f.plus, .bool f.minus, .bool f.sharp, .bool f.space, .bool f.zero, .int .i64 f.wid, .int .i64 f.prec, .int .i32 f.verb] 33 (0, 0))) := Lib.hid (heap_alloc_new w _)
  have HB0 := Lib.hid (Below.new (w := w) (.cells #[.bool f.plus, .bool f.minus, .bool f.sharp, .bool f.space, .bool f.zero, .int .i64 f.wid, .int .i64 f.prec, .int .i32 f.verb] 33))
  clear hr hc hcs hs hf
  rcases hv with ⟨h1, h2⟩ | h1
  · have H1 := Lib.hid h1
    have H2 := Lib.hid h2
    clear h2
    clear h1
    go_enter Tryz.func24, Tryz.ntmps24
    go_upto_region 1 with fail
    generalize w.alloc (.cells #[.bool f.plus, .bool f.minus, .bool f.sharp, .bool f.space, .bool f.zero, .int .i64 f.wid, .int .i64 f.prec, .int .i32 f.verb] 33) = W1 at HSB HB0 ⊢
    have c0 : W1.cell? ⟨w.heap.size, 0, none⟩ = some (.bool f.plus) := cell_of_heap' HSB.out 0
    have c1 : W1.cell? ⟨w.heap.size, 1, none⟩ = some (.bool f.minus) := cell_of_heap' HSB.out 1
    have c2 : W1.cell? ⟨w.heap.size, 2, none⟩ = some (.bool f.sharp) := cell_of_heap' HSB.out 2
    have c3 : W1.cell? ⟨w.heap.size, 3, none⟩ = some (.bool f.space) := cell_of_heap' HSB.out 3
    have c4 : W1.cell? ⟨w.heap.size, 4, none⟩ = some (.bool f.zero) := cell_of_heap' HSB.out 4
    have c5 : W1.cell? ⟨w.heap.size, 5, none⟩ = some (.int .i64 f.wid) := cell_of_heap' HSB.out 5
    have c6 : W1.cell? ⟨w.heap.size, 6, none⟩ = some (.int .i64 f.prec) := cell_of_heap' HSB.out 6
    have c7 : W1.cell? ⟨w.heap.size, 7, none⟩ = some (.int .i32 f.verb) := cell_of_heap' HSB.out 7
    rw [H2.out] at c2
    rw [H1.out] at c7
    go_upto_region 6 with fail
    clear c2 c7
    have c2 : W1.cell? ⟨w.heap.size, 2, none⟩ = some (.bool f.sharp) := cell_of_heap' HSB.out 2
    have c7 : W1.cell? ⟨w.heap.size, 7, none⟩ = some (.int .i32 f.verb) := cell_of_heap' HSB.out 7
    have HB := Lib.hid (HB0.out.next (Below.refl _ W1).drew)
    have HSD := Lib.hid (((Below.refl W1.heap.size W1).drew.block _ (lt_of_some HSB.out)).trans HSB.out)
    go_region_with (first
      | ((with_reducible refine (HCUT.out _).mono ?_); rintro e wa ⟨rfl, hwa⟩; have HB := Lib.hid (HB.out.next hwa); have HSD := Lib.hid ((hwa.block _ (lt_of_some HSD.out)).trans HSD.out); clear hwa; have c0 : wa.cell? ⟨w.heap.size, 0, none⟩ = some (.bool f.plus) := cell_of_heap' HSD.out 0; have c1 : wa.cell? ⟨w.heap.size, 1, none⟩ = some (.bool f.minus) := cell_of_heap' HSD.out 1; have c2 : wa.cell? ⟨w.heap.size, 2, none⟩ = some (.bool f.sharp) := cell_of_heap' HSD.out 2; have c3 : wa.cell? ⟨w.heap.size, 3, none⟩ = some (.bool f.space) := cell_of_heap' HSD.out 3; have c4 : wa.cell? ⟨w.heap.size, 4, none⟩ = some (.bool f.zero) := cell_of_heap' HSD.out 4; have c5 : wa.cell? ⟨w.heap.size, 5, none⟩ = some (.int .i64 f.wid) := cell_of_heap' HSD.out 5; have c6 : wa.cell? ⟨w.heap.size, 6, none⟩ = some (.int .i64 f.prec) := cell_of_heap' HSD.out 6; have c7 : wa.cell? ⟨w.heap.size, 7, none⟩ = some (.int .i32 f.verb) := cell_of_heap' HSD.out 7)
      | ((with_reducible refine (HPAD.out _).mono ?_); rintro e wb ⟨rfl, hwb⟩; have HB := Lib.hid (HB.out.next hwb); clear hwb))
    all_goals
      have HE : Hid (Ret2 w r true (.returned (.tuple #[.string r, .bool true])) _) := Lib.hid ⟨rfl, HB.out⟩
      clear c0 c1 c2 c3 c4 c5 c6 c7
      go_wp2_with fail
      refine bodyPost_ret (v := .tuple #[.string r, .bool true]) (by simp [results, Tryz.f24, go_sem]) rfl ?_
      exact HE.out
  · have H1 := Lib.hid h1
    clear h1
    go_enter Tryz.func24, Tryz.ntmps24
    go_upto_region 1 with fail
    generalize w.alloc (.cells #[.bool f.plus, .bool f.minus, .bool f.sharp, .bool f.space, .bool f.zero, .int .i64 f.wid, .int .i64 f.prec, .int .i32 f.verb] 33) = W1 at HSB HB0 ⊢
    have c0 : W1.cell? ⟨w.heap.size, 0, none⟩ = some (.bool f.plus) := cell_of_heap' HSB.out 0
    have c1 : W1.cell? ⟨w.heap.size, 1, none⟩ = some (.bool f.minus) := cell_of_heap' HSB.out 1
    have c2 : W1.cell? ⟨w.heap.size, 2, none⟩ = some (.bool f.sharp) := cell_of_heap' HSB.out 2
    have c3 : W1.cell? ⟨w.heap.size, 3, none⟩ = some (.bool f.space) := cell_of_heap' HSB.out 3
    have c4 : W1.cell? ⟨w.heap.size, 4, none⟩ = some (.bool f.zero) := cell_of_heap' HSB.out 4
    have c5 : W1.cell? ⟨w.heap.size, 5, none⟩ = some (.int .i64 f.wid) := cell_of_heap' HSB.out 5
    have c6 : W1.cell? ⟨w.heap.size, 6, none⟩ = some (.int .i64 f.prec) := cell_of_heap' HSB.out 6
    have c7 : W1.cell? ⟨w.heap.size, 7, none⟩ = some (.int .i32 f.verb) := cell_of_heap' HSB.out 7
    rw [H1.out] at c7
    go_upto_region 6 with fail
    clear c2 c7
    have c2 : W1.cell? ⟨w.heap.size, 2, none⟩ = some (.bool f.sharp) := cell_of_heap' HSB.out 2
    have c7 : W1.cell? ⟨w.heap.size, 7, none⟩ = some (.int .i32 f.verb) := cell_of_heap' HSB.out 7
    have HB := Lib.hid (HB0.out.next (Below.refl _ W1).drew)
    have HSD := Lib.hid (((Below.refl W1.heap.size W1).drew.block _ (lt_of_some HSB.out)).trans HSB.out)
    go_region_with (first
      | ((with_reducible refine (HCUT.out _).mono ?_); rintro e wa ⟨rfl, hwa⟩; have HB := Lib.hid (HB.out.next hwa); have HSD := Lib.hid ((hwa.block _ (lt_of_some HSD.out)).trans HSD.out); clear hwa; have c0 : wa.cell? ⟨w.heap.size, 0, none⟩ = some (.bool f.plus) := cell_of_heap' HSD.out 0; have c1 : wa.cell? ⟨w.heap.size, 1, none⟩ = some (.bool f.minus) := cell_of_heap' HSD.out 1; have c2 : wa.cell? ⟨w.heap.size, 2, none⟩ = some (.bool f.sharp) := cell_of_heap' HSD.out 2; have c3 : wa.cell? ⟨w.heap.size, 3, none⟩ = some (.bool f.space) := cell_of_heap' HSD.out 3; have c4 : wa.cell? ⟨w.heap.size, 4, none⟩ = some (.bool f.zero) := cell_of_heap' HSD.out 4; have c5 : wa.cell? ⟨w.heap.size, 5, none⟩ = some (.int .i64 f.wid) := cell_of_heap' HSD.out 5; have c6 : wa.cell? ⟨w.heap.size, 6, none⟩ = some (.int .i64 f.prec) := cell_of_heap' HSD.out 6; have c7 : wa.cell? ⟨w.heap.size, 7, none⟩ = some (.int .i32 f.verb) := cell_of_heap' HSD.out 7)
      | ((with_reducible refine (HPAD.out _).mono ?_); rintro e wb ⟨rfl, hwb⟩; have HB := Lib.hid (HB.out.next hwb); clear hwb))
    all_goals
      have HE : Hid (Ret2 w r true (.returned (.tuple #[.string r, .bool true])) _) := Lib.hid ⟨rfl, HB.out⟩
      clear c0 c1 c2 c3 c4 c5 c6 c7
      go_wp2_with fail
      refine bodyPost_ret (v := .tuple #[.string r, .bool true]) (by simp [results, Tryz.f24, go_sem]) rfl ?_
      exact HE.out
end Go.Proofs.YtkpfeodffhfejaaGreatDoor

/- A strings.Builder of the call's own: copyCheck, WriteString. Condition: what is held and written is together of at most 2^47 bytes. -/
namespace Go.Proofs.YtkpfeodffhfejaaGreatDoor
set_option linter.unusedVariables false
set_option linter.unusedSimpArgs false
open Go.RowKit

theorem bld_size : (Tryz.prog.info? 175).map (·.size) = some 2 := by kernel_rfl
theorem bld_lies : liesAt Tryz.prog Tryz.prog.depth 175 (2 / Tryz.prog.cellsOf 175) 0 175 1 = true := by kernel_rfl
theorem bld_byte : (Tryz.prog.info? 5).map (fun i => (i.zero, i.size, i.bytes)) = some (some (.int .u8 0), 1, 1) := by kernel_rfl
set_option maxHeartbeats 1000000 in
set_option maxRecDepth 1000000 in
theorem check_used (b : Nat) (w : World) (h0 : w.cell? ⟨b, 0, none⟩ = some (.pointer (some ⟨b, 0, none⟩))) :
    Calls Tryz.prog 135 #[.pointer (some ⟨b, 0, none⟩)] w fun e w' => e = .returned (.tuple #[]) ∧ w' = w := by
  obtain ⟨j, hj, _⟩ := Option.map_eq_some_iff.1 bld_size
  have hne : ∀ W, (binOp .neq 173 (.pointer (some ⟨b, 0, none⟩)) (.pointer (some ⟨b, 0, none⟩))).run Tryz.prog W = .ok (.bool false) W := fun W => Lib.run_neq_ptr_same W _ Tryz.underlying173 hj
  go_enter Tryz.func135, Tryz.ntmps135
  go_wp2
  go_end0
  exact ⟨rfl, rfl⟩
set_option maxHeartbeats 1000000 in
set_option maxRecDepth 1000000 in
theorem check_fresh (b : Nat) (w : World) (h0 : w.cell? ⟨b, 0, none⟩ = some (.pointer none)) (hsh : w.shape? b = some (175, 2)) (hfz : w.frozen? ⟨b, 0, none⟩ = false) :
    Calls Tryz.prog 135 #[.pointer (some ⟨b, 0, none⟩)] w fun e w' => e = .returned (.tuple #[]) ∧ w' = w.setCell ⟨b, 0, none⟩ (.pointer (some ⟨b, 0, none⟩)) := by
  obtain ⟨j, hj, hjs⟩ := Option.map_eq_some_iff.1 bld_size
  go_enter Tryz.func135, Tryz.ntmps135
  go_wp2
  rw [Lib.run_to_unsafe w ⟨b, 0, none⟩ Tryz.underlying173 Tryz.underlying230 hj (by rw [hjs]; decide) hsh (Nat.zero_lt_succ 1)]
  simp only [Result.andThen]
  rw [Oper.upon_value]
  go_wp2
  rw [run_callFunc_extern Tryz.func165 (by kernel_rfl) (by kernel_rfl) (by kernel_rfl) (e := Extern.AbiNoEscape.same) (by kernel_rfl)]
  rw [Lib.run_noEscape]
  simp only [Result.andThen]
  rw [Oper.upon_value]
  go_wp2
  rw [Lib.run_from_unsafe w ⟨b, 0, none⟩ Tryz.underlying230 Tryz.underlying173 hj hsh bld_lies]
  simp only [Result.andThen]
  rw [Oper.upon_value]
  go_wp2
  go_end0
  exact ⟨rfl, rfl⟩
theorem check_any (B b : Nat) (bs : List Value) (w : World) (h : Lib.IsBuilder 175 5 B b bs w) :
    Calls Tryz.prog 135 #[.pointer (some ⟨b, 0, none⟩)] w fun e w' => e = .returned (.tuple #[]) ∧ Lib.BuilderAt 175 5 B b (.pointer (some ⟨b, 0, none⟩)) bs w' ∧ Below B w w' ∧ Lib.OthersKept 5 (some b) w w' := by
  rcases h with h | h
  · refine (check_fresh b w h.cell0 h.shape h.frozen0).mono ?_
    rintro e w' ⟨rfl, rfl⟩
    exact ⟨rfl, h.used _, (Below.refl B w).setCell (p := ⟨b, 0, none⟩) h.1 _, (Lib.OthersKept.refl _ _ w).setCell (b := b) ⟨b, 0, none⟩ rfl _⟩
  · refine (check_used b w h.cell0).mono ?_
    rintro e w' ⟨rfl, rfl⟩
    exact ⟨rfl, h, Below.refl B _, Lib.OthersKept.refl _ _ _⟩
theorem ownsRow_kind {w : World} {B : Nat} {e : TypeId} {v : Value} {n : Nat} {xs : List Value} (h : w.ownsRow B e 1 v n xs) : ∀ g, v.ownBlock = some g → ∃ c fz, w.heap[g]? = some (.cells c e fz) := by
  intro g hg
  rcases h.2 with ⟨rfl, _⟩ | ⟨k, cap, cur, rfl, _, hk, _⟩
  · cases hg
  · injection hg with hg
    subst hg
    exact ⟨_, _, hk⟩
set_option maxHeartbeats 2000000 in
set_option maxRecDepth 1000000 in
theorem write_string (B b : Nat) (bs : List Value) (s : ByteArray) (w : World) (h : Lib.IsBuilder 175 5 B b bs w) (hlen : bs.length + s.size ≤ 140737488355328) (hBw : B ≤ w.heap.size) :
    Calls Tryz.prog 106 #[.pointer (some ⟨b, 0, none⟩), .string s] w fun e w' => e = .returned (.tuple #[.int .i64 s.size, .nilIface]) ∧ Lib.BuilderAt 175 5 B b (.pointer (some ⟨b, 0, none⟩)) (bs ++ Lib.strCells s) w' ∧ Below B w w' ∧ Lib.OthersKept 5 (some b) w w' := by
  obtain ⟨i0, hi, hz0, hz1, hz2⟩ := info_parts bld_byte
  go_enter Tryz.func106, Tryz.ntmps106
  go_wp2_with fail
  refine (check_any B b bs _ h).mono ?_
  rintro e w1 ⟨rfl, h1, hb1, hk1⟩
  obtain ⟨hB, v, hbk, hown, hne⟩ := h1
  have c0 : w1.cell? ⟨b, 0, none⟩ = some (.pointer (some ⟨b, 0, none⟩)) := by rw [Lib.cell_of_heap hbk]; rfl
  have c1 : w1.cell? ⟨b, 1, none⟩ = some v := by rw [Lib.cell_of_heap hbk]; rfl
  go_wp2_with (at_builtin; refine Lib.wpList_append_own_string _ rfl _ _ 46 9 rfl B 5 i0 Tryz.underlying46 Tryz.underlying9 hi hz0 hz1 hz2 _ _ _ rfl hown s rfl ?c3 ?c4 ?c5 ?_)
  case c3 => unfold maxLen; omega
  case c4 => omega
  case c5 => have := hb1.size; omega
  intro v' w2 hown' hgrow _
  have hlt : b < w1.heap.size := by
    rcases Nat.lt_or_ge b w1.heap.size with h' | h'
    · exact h'
    · simp [Array.getElem?_eq_none h'] at hbk
  have hb2 : w2.heap[b]? = some (.cells #[.pointer (some ⟨b, 0, none⟩), v] 175 (0, 0)) := by
    rw [hgrow.block b hlt (fun e => hne e.symm)]
    exact hbk
  have d0 : w2.cell? ⟨b, 0, none⟩ = some (.pointer (some ⟨b, 0, none⟩)) := by rw [Lib.cell_of_heap hb2]; rfl
  have d1 : w2.cell? ⟨b, 1, none⟩ = some v := by rw [Lib.cell_of_heap hb2]; rfl
  have f1 : w2.frozen? ⟨b, 1, none⟩ = false := Lib.frozen_of_heap hb2 1
  obtain ⟨ao, n', cap, rfl⟩ : ∃ ao n' cap, v' = .slice ao n' cap := by
    rcases hown'.2 with ⟨hv, _⟩ | ⟨g, cap, cur, hv, _⟩
    · exact ⟨_, _, _, hv⟩
    · exact ⟨_, _, _, hv⟩
  go_wp2_with fail
  go_ret2
  refine ⟨rfl, ?_, ?_, (hk1.grown hgrow (ownsRow_kind hown)).setCell ⟨b, 1, none⟩ rfl _⟩
  · exact Lib.BuilderAt.put (T := 175) (e := 5) hB hb2 (bs' := bs ++ Lib.strCells s) (by simpa [Lib.strCells_length] using hown') (by decide)
  · exact (hb1.grown hgrow (by have := hb1.size; omega) (fun k hk => (hown.lt k hk).1)).setCell (p := ⟨b, 1, none⟩) hB _
end Go.Proofs.YtkpfeodffhfejaaGreatDoor
