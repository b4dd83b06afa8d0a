/- A whole number's text to a base: ints' limit, sharp, based. No condition but the numbers' bounds. -/
import Derived.Test.YtkpfeodffhfejaaGreatDoorCA37
import Derived.Test.YtkpfeodffhfejaaGreatDoorCA38
import Derived.Deep.CutBlock
namespace Go.Proofs.YtkpfeodffhfejaaGreatDoor
set_option linter.unusedVariables false
set_option linter.unusedSimpArgs false
open Go.RowKit

def limI (n : Int) : Int := max (-1) (min n 1000)
set_option maxRecDepth 1000000 in
theorem limit_any (n : Int) (w : World) : Calls Tryz.prog 146 #[.int .i64 n] w fun e w' => e = .returned (.int .i64 (limI n)) ∧ w = w' := by
  go_enter Tryz.func146, Tryz.ntmps146
  go_wp2_with fail
  go_ret
  exact ⟨rfl, rfl⟩
/-- The cells of a spec. -/
structure SpecAt (w : World) (b : Nat) (f : SpecD) : Prop where
  c0 : w.cell? ⟨b, 0, none⟩ = some (.bool f.plus)
  c1 : w.cell? ⟨b, 1, none⟩ = some (.bool f.minus)
  c2 : w.cell? ⟨b, 2, none⟩ = some (.bool f.sharp)
  c3 : w.cell? ⟨b, 3, none⟩ = some (.bool f.space)
  c4 : w.cell? ⟨b, 4, none⟩ = some (.bool f.zero)
  c5 : w.cell? ⟨b, 5, none⟩ = some (.int .i64 f.wid)
  c6 : w.cell? ⟨b, 6, none⟩ = some (.int .i64 f.prec)
  c7 : w.cell? ⟨b, 7, none⟩ = some (.int .i32 f.verb)
  fz : ∀ j, w.frozen? ⟨b, j, none⟩ = false
theorem SpecAt.of {w : World} {b : Nat} {f : SpecD} {T : TypeId} (h : w.heap[b]? = some (.cells #[.bool f.plus, .bool f.minus, .bool f.sharp, .bool f.space, .bool f.zero, .int .i64 f.wid, .int .i64 f.prec, .int .i32 f.verb] T (0, 0))) : SpecAt w b f :=
  ⟨cell_of_heap' h 0, cell_of_heap' h 1, cell_of_heap' h 2, cell_of_heap' h 3, cell_of_heap' h 4, cell_of_heap' h 5, cell_of_heap' h 6, cell_of_heap' h 7, frozen_of_heap' h⟩
theorem SpecAt.below {w w' : World} {b : Nat} {f : SpecD} (h : SpecAt w b f) (hb : Below w.heap.size w w') : SpecAt w' b f :=
  ⟨cell_below hb h.c0, cell_below hb h.c1, cell_below hb h.c2, cell_below hb h.c3, cell_below hb h.c4, cell_below hb h.c5, cell_below hb h.c6, cell_below hb h.c7,
    fun j => (hb.frozen (p := ⟨b, j, none⟩) (show b < w.heap.size from World.block_lt_of_cell? w ⟨b, 0, none⟩ h.c0)).trans (h.fz j)⟩
theorem toList_inj {a b : ByteArray} (h : a.toList = b.toList) : a = b := by
  rw [Go.ByteArray.toList_eq, Go.ByteArray.toList_eq] at h
  exact ByteArray.ext (Array.toList_inj.1 h)

theorem put_same {w : World} {b i : Nat} {u v : Value} (h : w.cell? ⟨b, i, none⟩ = some v) : (w.setCell ⟨b, i, none⟩ u).cell? ⟨b, i, none⟩ = some u := World.cell?_setCell_same' w _ _ (by rw [h]; rfl)
theorem put_other {w : World} {b i j : Nat} {u v : Value} (h : w.cell? ⟨b, j, none⟩ = some v) (hij : j ≠ i) : (w.setCell ⟨b, i, none⟩ u).cell? ⟨b, j, none⟩ = some v := by
  rw [World.cell?_setCell_other _ _ _ _ (by intro e; injection e; omega)]; exact h
theorem SpecAt.unzero {w : World} {b : Nat} {f : SpecD} (h : SpecAt w b f) : SpecAt (w.setCell ⟨b, 4, none⟩ (.bool false)) b { f with zero := false } :=
  ⟨put_other h.c0 (by decide), put_other h.c1 (by decide), put_other h.c2 (by decide), put_other h.c3 (by decide), put_same h.c4, put_other h.c5 (by decide), put_other h.c6 (by decide), put_other h.c7 (by decide), fun j => by simpa using h.fz j⟩
/-- A number under way. -/
structure NumD' where
  neg : Bool
  n : Nat
  bits : Nat
  uns : Bool
structure NumAt (w : World) (b : Nat) (x : NumD') : Prop where
  c0 : w.cell? ⟨b, 0, none⟩ = some (.bool x.neg)
  c1 : w.cell? ⟨b, 1, none⟩ = some (.int .u64 (x.n : Int))
  c2 : w.cell? ⟨b, 2, none⟩ = some (.int .u64 (x.bits : Int))
  c3 : w.cell? ⟨b, 3, none⟩ = some (.bool x.uns)
theorem NumAt.of {w : World} {b : Nat} {x : NumD'} {T : TypeId} (h : w.heap[b]? = some (.cells #[.bool x.neg, .int .u64 (x.n : Int), .int .u64 (x.bits : Int), .bool x.uns] T (0, 0))) : NumAt w b x :=
  ⟨cell_of_heap' h 0, cell_of_heap' h 1, cell_of_heap' h 2, cell_of_heap' h 3⟩
theorem NumAt.below {w w' : World} {b : Nat} {x : NumD'} (h : NumAt w b x) (hb : Below w.heap.size w w') : NumAt w' b x :=
  ⟨cell_below hb h.c0, cell_below hb h.c1, cell_below hb h.c2, cell_below hb h.c3⟩
def smallDg : ByteArray := ⟨#[48, 49, 50, 51, 52, 53, 54, 55, 56, 57, 97, 98, 99, 100, 101, 102]⟩
def greatDg : ByteArray := ⟨#[48, 49, 50, 51, 52, 53, 54, 55, 56, 57, 65, 66, 67, 68, 69, 70]⟩
def bs1 (x : NumD') (f : SpecD) (b : Nat) : ByteArray := if x.n = 0 ∧ limI f.prec = 0 then ⟨#[]⟩ else digB x.n b (if f.verb = 88 then greatDg else smallDg)
def bs2 (x : NumD') (f : SpecD) (b : Nat) : ByteArray := fillB 48 (limI f.prec - ((bs1 x f b).size : Int)) ++ bs1 x f b
def bsSign (x : NumD') (f : SpecD) : ByteArray := if x.neg then ⟨#[45]⟩ else if f.plus then ⟨#[43]⟩ else if f.space then ⟨#[32]⟩ else ⟨#[]⟩
def bsMark (d mark : ByteArray) : ByteArray := if mark.toList = [48] ∧ Lib.hasPrefix d.data.toList [48] = true then ⟨#[]⟩ else mark
def bs3 (f : SpecD) (d sign mark : ByteArray) : ByteArray :=
  if f.zero = true ∧ f.minus = false ∧ limI f.prec < 0 then fillB 48 (limI f.wid - (sign.size : Int) - (mark.size : Int) - (d.size : Int)) ++ d else d
/-- A number to a base. -/
def basedB (x : NumD') (f : SpecD) (b : Nat) (mark : ByteArray) : ByteArray :=
  if (bs2 x f b).toList = [] then padB (bs3 f ⟨#[]⟩ ⟨#[]⟩ ⟨#[]⟩) { f with zero := false }
  else padB (bsSign x f ++ bsMark (bs2 x f b) mark ++ bs3 f (bs2 x f b) (bsSign x f) (bsMark (bs2 x f b) mark)) { f with zero := false }
theorem digF_len (b : Nat) (sg : ByteArray) : ∀ f n acc, (digF b sg f n acc).length ≤ f + acc.length
  | 0, _, acc => by simp [digF]
  | f + 1, n, acc => by
    unfold digF
    split
    · simp; omega
    · have := digF_len b sg f (n / b) (sgn sg (n % b) :: acc)
      simp at this
      omega
theorem digB_size (n b : Nat) (sg : ByteArray) : (digB n b sg).size ≤ 64 := by
  show (digF b sg 64 n []).toArray.size ≤ 64
  simpa using digF_len b sg 64 n []
theorem bs1_size (x : NumD') (f : SpecD) (b : Nat) : (bs1 x f b).size ≤ 64 := by
  unfold bs1
  split
  · exact Nat.zero_le _
  · exact digB_size _ _ _
theorem bs2_size (x : NumD') (f : SpecD) (b : Nat) : (bs2 x f b).size ≤ 1064 := by
  unfold bs2
  rw [ByteArray.size_append]
  have := bs1_size x f b
  have := fill_size 48 (limI f.prec - ((bs1 x f b).size : Int))
  omega
theorem bs3_size (f : SpecD) (d s m : ByteArray) (h : d.size ≤ 1064) : (bs3 f d s m).size ≤ 2064 := by
  unfold bs3
  split
  · rw [ByteArray.size_append]
    have := fill_size 48 (limI f.wid - (s.size : Int) - (m.size : Int) - (d.size : Int))
    omega
  · omega
theorem bsSign_size (x : NumD') (f : SpecD) : (bsSign x f).size ≤ 1 := by
  unfold bsSign
  split
  · exact Nat.le_refl _
  · split
    · exact Nat.le_refl _
    · split
      · exact Nat.le_refl _
      · exact Nat.zero_le _
theorem bsMark_size (d m : ByteArray) (h : m.size ≤ 2) : (bsMark d m).size ≤ 2 := by
  unfold bsMark
  split
  · exact Nat.zero_le _
  · exact h
theorem beq_i (a b : Int) (c : Bool) (h : decide (a = b) = c) : (a == b) = c := by rw [← h]; rfl
set_option maxHeartbeats 8000000 in
set_option maxRecDepth 1000000 in
theorem based_any (x : NumD') (f : SpecD) (b : Nat) (mark : ByteArray) (w : World) (hf : f.Rng) (hn : x.n < 18446744073709551616) (hb : 2 ≤ b) (hb2 : b ≤ 16) (hm : mark.size ≤ 2) :
    Calls Tryz.prog 123 #[.agg #[.bool x.neg, .int .u64 (x.n : Int), .int .u64 (x.bits : Int), .bool x.uns], .agg #[.bool f.plus, .bool f.minus, .bool f.sharp, .bool f.space, .bool f.zero, .int .i64 f.wid, .int .i64 f.prec, .int .i32 f.verb], .int .u64 (b : Int), .string mark] w (Ret w (.string (basedB x f b mark))) := by
  obtain ⟨r, hr⟩ : ∃ r, basedB x f b mark = r := ⟨_, rfl⟩
  rw [hr]
  have HR := Lib.hid hr
  have HF := Lib.hid hf
  clear hr hf
  obtain ⟨sg, hsg⟩ : ∃ sg, (if f.verb = 88 then greatDg else smallDg) = sg := ⟨_, rfl⟩
  have hsz : sg.size = 16 := by rw [← hsg]; split <;> rfl
  have HSZ := Lib.hid hsz
  have HSG := Lib.hid hsg
  clear hsg hsz
  go_enter Tryz.func123, Tryz.ntmps123
  go_upto_region 2 with fail
  have HB1 := Lib.hid ((Below.new (w := w) (.cells #[.bool x.neg, .int .u64 (x.n : Int), .int .u64 (x.bits : Int), .bool x.uns] 163)).push (.cells #[.bool f.plus, .bool f.minus, .bool f.sharp, .bool f.space, .bool f.zero, .int .i64 f.wid, .int .i64 f.prec, .int .i32 f.verb] 33))
  have HX := Lib.hid ((NumAt.of (heap_alloc_new w (.cells #[.bool x.neg, .int .u64 (x.n : Int), .int .u64 (x.bits : Int), .bool x.uns] 163))).below (Below.new (.cells #[.bool f.plus, .bool f.minus, .bool f.sharp, .bool f.space, .bool f.zero, .int .i64 f.wid, .int .i64 f.prec, .int .i32 f.verb] 33)))
  have hs := SpecAt.of (heap_alloc_new (w.alloc (.cells #[.bool x.neg, .int .u64 (x.n : Int), .int .u64 (x.bits : Int), .bool x.uns] 163)) (.cells #[.bool f.plus, .bool f.minus, .bool f.sharp, .bool f.space, .bool f.zero, .int .i64 f.wid, .int .i64 f.prec, .int .i32 f.verb] 33))
  rw [show (w.alloc (.cells #[.bool x.neg, .int .u64 (x.n : Int), .int .u64 (x.bits : Int), .bool x.uns] 163)).heap.size = w.heap.size + 1 by simp] at hs
  have HS := Lib.hid hs
  clear hs
  generalize (w.alloc (.cells #[.bool x.neg, .int .u64 (x.n : Int), .int .u64 (x.bits : Int), .bool x.uns] 163)).alloc (.cells #[.bool f.plus, .bool f.minus, .bool f.sharp, .bool f.space, .bool f.zero, .int .i64 f.wid, .int .i64 f.prec, .int .i32 f.verb] 33) = W1 at HB1 HX HS ⊢
  have s7 := HS.out.c7
  go_upto_if 15 with fail
  go_cut [9] (fun v9 wx => v9 = .string sg ∧ wx = W1)
  case first =>
    by_cases hv : f.verb = 88
    · have e1 : (f.verb == 88) = true := by simp [hv]
      have hs : sg = greatDg := by rw [← HSG.out, if_pos hv]
      subst hs
      clear hv
      go_wp2_with fail
      go_meet
      exact ⟨rfl, rfl⟩
    · have e1 : (f.verb == 88) = false := by simp [hv]
      have hs : sg = smallDg := by rw [← HSG.out, if_neg hv]
      subst hs
      clear hv
      go_wp2_with fail
      go_meet
      exact ⟨rfl, rfl⟩
  case rest =>
  obtain ⟨rfl, rfl⟩ := hcut
  apply_assumption
  clear s7
  have s6 := HS.out.c6
  have x1 := HX.out.c1
  go_wp2_with fail
  refine (limit_any f.prec _).mono ?_
  rintro e w2 ⟨rfl, rfl⟩
  obtain ⟨p, hp⟩ : ∃ p, limI f.prec = p := ⟨_, rfl⟩
  have hp1 : -1 ≤ p ∧ p ≤ 1000 := by rw [← hp]; unfold limI; omega
  rw [hp]
  have HP := Lib.hid hp
  obtain ⟨hp2, hp3⟩ := hp1
  clear hp
  go_wp2_with fail
  refine (digits_any x.n b sg wc hn hb (by rw [HSZ.out]; exact hb2) hb2).mono ?_
  rintro e w2 ⟨rfl, hB2⟩
  have HB2 := Lib.hid (HB1.out.next hB2)
  have HX2 := Lib.hid (HX.out.below hB2)
  have HS2 := Lib.hid (HS.out.below hB2)
  clear hB2 s6 x1
  obtain ⟨d0, hd0⟩ : ∃ d0, digB x.n b sg = d0 := ⟨_, rfl⟩
  rw [hd0]
  have HD0 := Lib.hid hd0
  clear hd0
  have x1 := HX2.out.c1
  obtain ⟨d1, hd1⟩ : ∃ d1, bs1 x f b = d1 := ⟨_, rfl⟩
  have HD1 := Lib.hid hd1
  have hz1 : d1.size ≤ 64 := by rw [← hd1]; exact bs1_size x f b
  clear hd1
  obtain ⟨bc, hbc⟩ : ∃ bc, decide (x.n = 0 ∧ p = 0) = bc := ⟨_, rfl⟩
  have HBC := Lib.hid hbc
  clear hbc
  go_upto_region 6 with fail
  go_cut [30] (fun v30 wx => v30 = .bool bc ∧ wx = w2)
  case first =>
    by_cases hn0 : x.n = 0
    · have e1 : ((x.n : Int) == 0) = true := by simp [hn0]
      by_cases hp0 : p = 0
      · have e2 : (p == 0) = true := by simp [hp0]
        obtain rfl : bc = true := by rw [← HBC.out]; simp [hn0, hp0]
        clear hp0 hn0
        go_wp2_with fail
        go_meet
        exact ⟨rfl, rfl⟩
      · have e2 : (p == 0) = false := by simp [hp0]
        obtain rfl : bc = false := by rw [← HBC.out]; simp [hn0, hp0]
        clear hp0 hn0
        go_wp2_with fail
        go_meet
        exact ⟨rfl, rfl⟩
    · have e1 : ((x.n : Int) == 0) = false := by simp [hn0]
      obtain rfl : bc = false := by rw [← HBC.out]; simp [hn0]
      clear hn0
      go_wp2_with fail
      go_meet
      exact ⟨rfl, rfl⟩
  case rest =>
  obtain ⟨rfl, rfl⟩ := hcut
  apply_assumption
  go_upto_if 30 with fail
  go_cut [11] (fun v11 wx => v11 = .string d1 ∧ wx = wc)
  case first =>
    cases bc with
    | true =>
      have hs : d1 = ⟨#[]⟩ := by rw [← HD1.out]; unfold bs1; rw [HP.out, if_pos (of_decide_eq_true HBC.out)]
      subst hs
      go_wp2_with fail
      go_meet
      exact ⟨rfl, rfl⟩
    | false =>
      have hs : d1 = d0 := by rw [← HD1.out, ← HD0.out]; unfold bs1; rw [HP.out, if_neg (of_decide_eq_false HBC.out), HSG.out]
      subst hs
      go_wp2_with fail
      go_meet
      exact ⟨rfl, rfl⟩
  case rest =>
  obtain ⟨rfl, hw⟩ := hcut
  subst hw
  apply_assumption
  clear x1
  have hq1 : -9223372036854775808 ≤ p - (d1.size : Int) ∧ p - (d1.size : Int) ≤ 1000 := by omega
  go_wp2_with fail
  refine (fill48 (p - (d1.size : Int)) _ (by omega) (by omega)).mono ?_
  rintro e w3 ⟨rfl, hB3⟩
  have HB3 := Lib.hid (HB2.out.next hB3)
  have HX3 := Lib.hid (HX2.out.below hB3)
  have HS3 := Lib.hid (HS2.out.below hB3)
  clear hB3 hq1
  obtain ⟨fi, hfi⟩ : ∃ fi, fillB 48 (p - (d1.size : Int)) = fi := ⟨_, rfl⟩
  have hfs : fi.size ≤ 1000 := by rw [← hfi]; exact fill_size _ _
  rw [hfi]
  have HD2 : Hid (bs2 x f b = fi ++ d1) := by show _ = _; unfold bs2; rw [HD1.out, HP.out, hfi]
  clear hfi
  have h3 : ¬ 9223372036854775807 < fi.size + d1.size := by omega
  go_upto_region 9 with fail
  obtain ⟨d2, hd2⟩ : ∃ d2, fi ++ d1 = d2 := ⟨_, rfl⟩
  have hz2 : d2.size ≤ 1064 := by rw [← hd2, ← HD2.out]; exact bs2_size x f b
  rw [hd2] at HD2 ⊢
  clear hd2 hfs h3
  obtain ⟨sn, hsn⟩ : ∃ sn, bsSign x f = sn := ⟨_, rfl⟩
  have hzs : sn.size ≤ 1 := by rw [← hsn]; exact bsSign_size x f
  have HSN := Lib.hid hsn
  clear hsn
  go_upto_block 0 with fail
  have y0 := HX3.out.c0
  have y1 := HS3.out.c0
  have y2 := HS3.out.c3
  go_cut [12] (fun v12 wx => v12 = .string sn ∧ wx = w3)
  case first =>
    rcases Bool.eq_false_or_eq_true x.neg with hng | hng
    · rw [hng] at y0
      have hs : sn = ⟨#[45]⟩ := by rw [← HSN.out]; unfold bsSign; rw [hng]; rfl
      subst hs
      clear hng
      go_wp2_with fail
      go_meet
      exact ⟨rfl, rfl⟩
    · rw [hng] at y0
      rcases Bool.eq_false_or_eq_true f.plus with hpl | hpl
      · rw [hpl] at y1
        have hs : sn = ⟨#[43]⟩ := by rw [← HSN.out]; unfold bsSign; rw [hng, hpl]; rfl
        subst hs
        clear hng hpl
        go_wp2_with fail
        go_meet
        exact ⟨rfl, rfl⟩
      · rw [hpl] at y1
        rcases Bool.eq_false_or_eq_true f.space with hsp | hsp
        · rw [hsp] at y2
          have hs : sn = ⟨#[32]⟩ := by rw [← HSN.out]; unfold bsSign; rw [hng, hpl, hsp]; rfl
          subst hs
          clear hng hpl hsp
          go_wp2_with fail
          go_meet
          exact ⟨rfl, rfl⟩
        · rw [hsp] at y2
          have hs : sn = ⟨#[]⟩ := by rw [← HSN.out]; unfold bsSign; rw [hng, hpl, hsp]; rfl
          subst hs
          clear hng hpl hsp
          go_wp2_with fail
          go_meet
          exact ⟨rfl, rfl⟩
  case rest =>
  obtain ⟨rfl, rfl⟩ := hcut
  apply_assumption
  clear y0 y1 y2
  obtain ⟨bc, hbc⟩ : ∃ bc, decide (mark.toList = [48] ∧ Lib.hasPrefix d2.data.toList [48] = true) = bc := ⟨_, rfl⟩
  have HBC2 := Lib.hid hbc
  clear hbc
  go_upto_region 16 with fail
  go_cut [52] (fun v52 wx => v52 = .bool bc ∧ wx = wc)
  case first =>
    by_cases hmk : mark.toList = [48]
    · go_wp2_with fail
      refine (Tryz.strings_HasPrefix d2 ⟨#[48]⟩ wc).mono ?_
      rintro e w4 ⟨rfl, rfl⟩
      obtain ⟨hp, hhp⟩ : ∃ hp, Lib.hasPrefix d2.data.toList (⟨#[48]⟩ : ByteArray).data.toList = hp := ⟨_, rfl⟩
      rw [hhp]
      obtain rfl : bc = hp := by
        rw [← HBC2.out, ← hhp]
        show decide (_ ∧ Lib.hasPrefix d2.data.toList [48] = true) = Lib.hasPrefix d2.data.toList [48]
        rw [Bool.eq_iff_iff]
        simp [hmk]
      clear hhp hmk
      go_wp2_with fail
      go_meet
      exact ⟨rfl, rfl⟩
    · obtain rfl : bc = false := by rw [← HBC2.out]; simp [hmk]
      go_wp2_with fail
      go_meet
      exact ⟨rfl, rfl⟩
  case rest =>
  obtain ⟨rfl, rfl⟩ := hcut
  apply_assumption
  obtain ⟨mk, hmk⟩ : ∃ mk, bsMark d2 mark = mk := ⟨_, rfl⟩
  have hzm : mk.size ≤ 2 := by rw [← hmk]; exact bsMark_size _ _ hm
  have HMK := Lib.hid hmk
  clear hmk
  go_upto_if 52 with fail
  go_cut [3] (fun v3 wx => v3 = .string mk ∧ wx = wc)
  case first =>
    cases bc with
    | true =>
      have hs : mk = ⟨#[]⟩ := by rw [← HMK.out]; unfold bsMark; rw [if_pos (of_decide_eq_true HBC2.out)]
      subst hs
      go_wp2_with fail
      go_meet
      exact ⟨rfl, rfl⟩
    | false =>
      have hs : mk = mark := by rw [← HMK.out]; unfold bsMark; rw [if_neg (of_decide_eq_false HBC2.out)]
      subst hs
      go_wp2_with fail
      go_meet
      exact ⟨rfl, rfl⟩
  case rest =>
  obtain ⟨rfl, rfl⟩ := hcut
  apply_assumption
  obtain ⟨sm, hsm⟩ : ∃ sm : ByteArray × ByteArray, (if d2.toList = [] then (⟨#[]⟩, ⟨#[]⟩) else (sn, mk)) = sm := ⟨_, rfl⟩
  have HSM := Lib.hid hsm
  have hzs2 : sm.1.size ≤ 1 := by rw [← hsm]; split; exact Nat.zero_le _; exact hzs
  have hzm2 : sm.2.size ≤ 2 := by rw [← hsm]; split; exact Nat.zero_le _; exact hzm
  clear hsm
  obtain ⟨sn2, mk2⟩ := sm
  simp only at hzs2 hzm2
  obtain ⟨be, hbe⟩ : ∃ be, d2.toList.isEmpty = be := ⟨_, rfl⟩
  have HBE := Lib.hid hbe
  clear hbe
  go_upto_region 18 with fail
  go_cut [54] (fun v54 wx => v54 = .bool be ∧ wx = wc)
  case first =>
    go_wp2_with fail
    go_meet
    exact ⟨by rw [← HBE.out], rfl⟩
  case rest =>
  obtain ⟨rfl, rfl⟩ := hcut
  apply_assumption
  go_upto_if 54 with fail
  go_cut [12, 3] (fun v12 v3 wx => v12 = .string sn2 ∧ v3 = .string mk2 ∧ wx = wc)
  case first =>
    cases be with
    | true =>
      have h := HSM.out
      rw [if_pos (List.isEmpty_iff.1 HBE.out)] at h
      injection h with h1 h2
      subst h1 h2
      go_wp2_with fail
      go_meet
      exact ⟨rfl, rfl, rfl⟩
    | false =>
      have h := HSM.out
      rw [if_neg (fun hq => by have := HBE.out; rw [hq] at this; cases this)] at h
      injection h with h1 h2
      subst h1 h2
      go_wp2_with fail
      go_meet
      exact ⟨rfl, rfl, rfl⟩
  case rest =>
  obtain ⟨rfl, rfl, rfl⟩ := hcut
  apply_assumption
  obtain ⟨bz, hbz⟩ : ∃ bz, decide (f.zero = true ∧ f.minus = false ∧ p < 0) = bz := ⟨_, rfl⟩
  have HBZ := Lib.hid hbz
  clear hbz
  have y1 := HS3.out.c1
  have y4 := HS3.out.c4
  go_upto_region 20 with fail
  go_cut [65] (fun v65 wx => v65 = .bool bz ∧ wx = wc)
  case first =>
    rcases Bool.eq_false_or_eq_true f.zero with hze | hze
    · rw [hze] at y4
      rcases Bool.eq_false_or_eq_true f.minus with hmi | hmi
      · rw [hmi] at y1
        obtain rfl : bz = false := by rw [← HBZ.out]; simp [hze, hmi]
        clear hze hmi
        go_wp2_with fail
        go_meet
        exact ⟨rfl, rfl⟩
      · rw [hmi] at y1
        by_cases hpn : p < 0
        · obtain rfl : bz = true := by rw [← HBZ.out]; simp [hze, hmi, hpn]
          clear hze hmi
          go_wp2_with fail
          go_meet
          exact ⟨rfl, rfl⟩
        · obtain rfl : bz = false := by rw [← HBZ.out]; simp [hpn]
          clear hze hmi
          go_wp2_with fail
          go_meet
          exact ⟨rfl, rfl⟩
    · rw [hze] at y4
      obtain rfl : bz = false := by rw [← HBZ.out]; simp [hze]
      clear hze
      go_wp2_with fail
      go_meet
      exact ⟨rfl, rfl⟩
  case rest =>
  obtain ⟨rfl, rfl⟩ := hcut
  apply_assumption
  clear y1 y4
  obtain ⟨d3, hd3⟩ : ∃ d3, bs3 f d2 sn2 mk2 = d3 := ⟨_, rfl⟩
  have hz3 : d3.size ≤ 2064 := by rw [← hd3]; exact bs3_size _ _ _ _ hz2
  have HD3 := Lib.hid hd3
  clear hd3
  go_upto_if 65 with fail
  go_cut [11] (fun v11 wx => v11 = .string d3 ∧ Hid (Below w.heap.size w wx) ∧ Hid (SpecAt wx (w.heap.size + 1) f))
  case first =>
    cases bz with
    | true =>
      have hs : d3 = fillB 48 (limI f.wid - (sn2.size : Int) - (mk2.size : Int) - (d2.size : Int)) ++ d2 := by
        have := of_decide_eq_true HBZ.out
        rw [← HD3.out]; unfold bs3; rw [HP.out, if_pos this]
      have s5 := HS3.out.c5
      have hlw : -1 ≤ limI f.wid ∧ limI f.wid ≤ 1000 := by unfold limI; omega
      obtain ⟨lw, hlwe⟩ : ∃ lw, limI f.wid = lw := ⟨_, rfl⟩
      rw [hlwe] at hs hlw
      have HLW := Lib.hid hlwe
      have HSE := Lib.hid hs
      obtain ⟨hl1, hl2⟩ := hlw
      clear hlwe hs
      go_wp2_with fail
      refine (limit_any f.wid _).mono ?_
      rintro e w4 ⟨rfl, rfl⟩
      rw [HLW.out]
      go_wp2_with fail
      refine (fill48 (lw - (sn2.size : Int) - (mk2.size : Int) - (d2.size : Int)) _ (by omega) (by omega)).mono ?_
      rintro e w4 ⟨rfl, hB4⟩
      have HB4 := Lib.hid (HB3.out.next hB4)
      have HS4 := Lib.hid (HS3.out.below hB4)
      have hfs := fill_size 48 (lw - (sn2.size : Int) - (mk2.size : Int) - (d2.size : Int))
      have h3 : ¬ 9223372036854775807 < (fillB 48 (lw - (sn2.size : Int) - (mk2.size : Int) - (d2.size : Int))).size + d2.size := by omega
      clear hB4 s5
      go_wp2_with fail
      go_meet
      exact ⟨by rw [HSE.out], HB4, HS4⟩
    | false =>
      have hs : d3 = d2 := by rw [← HD3.out]; unfold bs3; rw [HP.out, if_neg (of_decide_eq_false HBZ.out)]
      subst hs
      go_wp2_with fail
      go_meet
      exact ⟨rfl, HB3, HS3⟩
  case rest =>
  obtain ⟨rfl, HB4, HS4⟩ := hcut
  apply_assumption
  have y4 := HS4.out.c4
  have yf := HS4.out.fz 4
  go_upto_region 23 with fail
  clear y4 yf
  have HS5 := Lib.hid HS4.out.unzero
  have HB5 : Hid (Below w.heap.size w (World.setCell _ ⟨w.heap.size + 1, 4, none⟩ (.bool false))) := Lib.hid (HB4.out.setCell (p := ⟨w.heap.size + 1, 4, none⟩) (by show _ ≤ w.heap.size + 1; omega) (.bool false))
  generalize hW5 : World.setCell _ ⟨w.heap.size + 1, 4, none⟩ (.bool false) = W5 at HS5 HB5 ⊢
  clear hW5
  obtain ⟨z0, z1, z2, z3, z4, z5, z6, z7, _⟩ := HS5.out
  have h5 : ¬ 9223372036854775807 < sn2.size + mk2.size := by omega
  have h6 : ¬ 9223372036854775807 < sn2.size + mk2.size + d3.size := by omega
  go_wp2_with fail
  refine (pad_any (sn2 ++ mk2 ++ d3) { f with zero := false } _ (by rw [ByteArray.size_append, ByteArray.size_append]; omega) ⟨HF.out.w1, HF.out.w2, HF.out.p1, HF.out.p2⟩).mono ?_
  rintro e w6 ⟨rfl, hB6⟩
  have HB6 := Lib.hid (HB5.out.next hB6)
  clear hB6
  go_wp2_with fail
  go_ret
  refine ⟨?_, HB6.out⟩
  show Ending.returned (.string _) = _
  rw [← HR.out]
  unfold basedB
  rw [HD2.out]
  have hm := HSM.out
  by_cases hd : d2.toList = []
  · rw [if_pos hd] at hm
    injection hm with h1 h2
    subst h1 h2
    rw [if_pos hd]
    have e : d2 = ⟨#[]⟩ := toList_inj (by rw [hd, Go.ByteArray.toList_eq])
    rw [e] at HD3
    rw [HD3.out]
    rfl
  · rw [if_neg hd] at hm
    injection hm with h1 h2
    subst h1 h2
    rw [if_neg hd, HSN.out, HMK.out, HD3.out]
end Go.Proofs.YtkpfeodffhfejaaGreatDoor
