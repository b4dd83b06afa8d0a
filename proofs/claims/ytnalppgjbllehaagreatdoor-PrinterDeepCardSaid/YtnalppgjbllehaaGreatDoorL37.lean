/- A directive is printed: printer's directive (the walk). -/
import Derived.Test.YtnalppgjbllehaaGreatDoorL36
import Derived.Deep.RegionWith
namespace Go.Proofs.YtnalppgjbllehaaGreatDoor
set_option linter.unusedVariables false
set_option linter.unusedSimpArgs false
open Go.RowKit

theorem dirW1_rng (xs : List V) (p : PieceD) (s : PrS) (hx : GoodN p.wid) (h1 : -9223372036854775808 ≤ p.spec.wid) (h2 : p.spec.wid ≤ 9223372036854775807) (h3 : -9223372036854775808 ≤ p.spec.prec) (h4 : p.spec.prec ≤ 9223372036854775807) : (dirW1 xs p s).1.Rng := by
  unfold dirW1
  by_cases hok : (numberD xs s.next s.re p.wid (-1000)).ok = true
  · have h := numberD_rng xs s.next s.re p.wid (-1000) (by omega) (by omega) hx hok
    simp only [hok, if_true]
    refine ⟨?_, ?_, h3, h4⟩
    · show -9223372036854775808 ≤ max _ _; omega
    · show max _ _ ≤ 9223372036854775807; omega
  · simp only [if_neg hok]
    split <;> exact ⟨h1, h2, h3, h4⟩
theorem dirW2_rng (xs : List V) (p : PieceD) (y : SpecD × PrS) (hx : GoodN p.prec) (h : y.1.Rng) : (dirW2 xs p y).1.Rng := by
  unfold dirW2
  by_cases hok : (numberD xs y.2.next y.2.re p.prec 0).ok = true
  · have hr := numberD_rng xs y.2.next y.2.re p.prec 0 (by omega) (by omega) hx hok
    simp only [hok, if_true]
    refine ⟨h.w1, h.w2, ?_, ?_⟩
    · show -9223372036854775808 ≤ (numberD xs y.2.next y.2.re p.prec 0).k; omega
    · exact hr.2
  · simp only [if_neg hok]
    split <;> exact h
theorem badM_size (c : Int) : (badMissingB c).size ≤ 100 := by
  have h := encode_size c
  have h2 : (joinB [⟨#[77, 73, 83, 83, 73, 78, 71]⟩] ⟨#[]⟩).size = 7 := by decide
  unfold badMissingB
  rw [insideB_size, h2]; omega
theorem badI_size (c : Int) : (badIndexB c).size ≤ 100 := by
  have h := encode_size c
  have h2 : (joinB [⟨#[66, 65, 68, 73, 78, 68, 69, 88]⟩] ⟨#[]⟩).size = 8 := by decide
  unfold badIndexB
  rw [insideB_size, h2]; omega
/-- What a step of a print leaves: all that was there but the State and the bytes. -/
def DirPost (WB : World) (sb : Nat) (depth : Int) (tab av : Value) (s' : PrS) (w : World) (e : Ending) (w' : World) : Prop :=
  e = .returned (.tuple #[]) ∧ (∃ bv', StW WB sb s'.out bv' depth tab av s'.next s'.re w') ∧ Ke sb w w'
theorem DirPost.of {WB : World} {sb : Nat} {depth : Int} {tab av : Value} {s' : PrS} {w w' : World} (h : (∃ bv', StW WB sb s'.out bv' depth tab av s'.next s'.re w') ∧ Ke sb w w') : DirPost WB sb depth tab av s' w (.returned (.tuple #[])) w' := ⟨rfl, h⟩
set_option maxHeartbeats 4000000 in
set_option maxRecDepth 1000000 in
theorem dirP_any {WB : World} {sb : Nat} {out : ByteArray} {bv : Value} {depth : Int} {tab av : Value} {us : List Value} {xs : List V} {next : Int} {re : Bool} {w : World} (p : PieceD) (sh : V → SpecD → Option ByteArray) (s' : PrS)
    (hs : StW WB sb out bv depth tab av next re w) (ha : ArgsW WB sb av us xs) (hsh : ShowH WB sb depth tab av sh) (hp : GoodP p) (hpr : -9223372036854775808 ≤ p.spec.wid ∧ p.spec.wid ≤ 9223372036854775807 ∧ -9223372036854775808 ≤ p.spec.prec ∧ p.spec.prec ≤ 9223372036854775807)
    (h0 : 0 ≤ next) (h1 : next ≤ 1000000000) (ho : out.size ≤ 2305843009213693952) (hd : dirP sh xs p ⟨out, next, re⟩ = some s') :
    Calls Tryz.prog 23 #[.pointer (some ⟨sb, 0, none⟩), .agg #[.int .i64 p.kind, .string p.text, .bool p.spec.plus, .bool p.spec.minus, .bool p.spec.sharp, .bool p.spec.space, .bool p.spec.zero, .int .i64 p.spec.wid, .int .i64 p.spec.prec, .int .i32 p.spec.verb, .int .i64 p.wid.kind, .int .i64 p.wid.n, .int .i64 p.wid.arg.kind, .int .i64 p.wid.arg.n, .int .i64 p.prec.kind, .int .i64 p.prec.n, .int .i64 p.prec.arg.kind, .int .i64 p.prec.arg.n, .int .i64 p.arg.kind, .int .i64 p.arg.n]] w (DirPost WB sb depth tab av s' w) := by
  have HA := Lib.hid ha
  have HS := Lib.hid hs
  have HSH := Lib.hid hsh
  have HP := Lib.hid hp
  have HPR := Lib.hid hpr
  have HO := Lib.hid ho
  clear hs ha hsh hp hpr ho
  obtain ⟨y1, hy1⟩ : ∃ y, dirW1 xs p ⟨out, next, re⟩ = y := ⟨_, rfl⟩
  obtain ⟨y2, hy2⟩ : ∃ y, dirW2 xs p y1 = y := ⟨_, rfl⟩
  have HRNG : Hid y2.1.Rng := by
    rw [← hy2, ← hy1]
    exact Lib.hid (dirW2_rng xs p _ HP.out.2.1 (dirW1_rng xs p _ HP.out.1 HPR.out.1 HPR.out.2.1 HPR.out.2.2.1 HPR.out.2.2.2))
  have hy3 : dirW3 sh xs p y2 = some s' := by rw [← hy2, ← hy1]; exact hd
  have HY1 := Lib.hid hy1
  have HY2 := Lib.hid hy2
  have HY3 := Lib.hid hy3
  clear hd hy1 hy2 hy3
  have hlt := HS.out.lt
  have hsz := HS.out.size
  go_enter Tryz.func23, Tryz.ntmps23
  go_upto_region 1 with fail
  have HPC0 : Hid (PieceAt (w.alloc (.cells #[.int .i64 p.kind, .string p.text, .bool p.spec.plus, .bool p.spec.minus, .bool p.spec.sharp, .bool p.spec.space, .bool p.spec.zero, .int .i64 p.spec.wid, .int .i64 p.spec.prec, .int .i32 p.spec.verb, .int .i64 p.wid.kind, .int .i64 p.wid.n, .int .i64 p.wid.arg.kind, .int .i64 p.wid.arg.n, .int .i64 p.prec.kind, .int .i64 p.prec.n, .int .i64 p.prec.arg.kind, .int .i64 p.prec.arg.n, .int .i64 p.arg.kind, .int .i64 p.arg.n] 67)) w.heap.size p) := heap_alloc_new w _
  have HB0 := Lib.hid (Below.new (w := w) (.cells #[.int .i64 p.kind, .string p.text, .bool p.spec.plus, .bool p.spec.minus, .bool p.spec.sharp, .bool p.spec.space, .bool p.spec.zero, .int .i64 p.spec.wid, .int .i64 p.spec.prec, .int .i32 p.spec.verb, .int .i64 p.wid.kind, .int .i64 p.wid.n, .int .i64 p.wid.arg.kind, .int .i64 p.wid.arg.n, .int .i64 p.prec.kind, .int .i64 p.prec.n, .int .i64 p.prec.arg.kind, .int .i64 p.prec.arg.n, .int .i64 p.arg.kind, .int .i64 p.arg.n] 67))
  have hz1 : (w.alloc (.cells #[.int .i64 p.kind, .string p.text, .bool p.spec.plus, .bool p.spec.minus, .bool p.spec.sharp, .bool p.spec.space, .bool p.spec.zero, .int .i64 p.spec.wid, .int .i64 p.spec.prec, .int .i32 p.spec.verb, .int .i64 p.wid.kind, .int .i64 p.wid.n, .int .i64 p.wid.arg.kind, .int .i64 p.wid.arg.n, .int .i64 p.prec.kind, .int .i64 p.prec.n, .int .i64 p.prec.arg.kind, .int .i64 p.prec.arg.n, .int .i64 p.arg.kind, .int .i64 p.arg.n] 67)).heap.size = w.heap.size + 1 := by simp
  obtain ⟨pb, hpb⟩ : ∃ b, w.heap.size = b := ⟨_, rfl⟩
  have HPB := Lib.hid hpb
  rw [hpb] at HPC0 hz1 hsz ⊢
  clear hpb
  generalize w.alloc (.cells #[.int .i64 p.kind, .string p.text, .bool p.spec.plus, .bool p.spec.minus, .bool p.spec.sharp, .bool p.spec.space, .bool p.spec.zero, .int .i64 p.spec.wid, .int .i64 p.spec.prec, .int .i32 p.spec.verb, .int .i64 p.wid.kind, .int .i64 p.wid.n, .int .i64 p.wid.arg.kind, .int .i64 p.wid.arg.n, .int .i64 p.prec.kind, .int .i64 p.prec.n, .int .i64 p.prec.arg.kind, .int .i64 p.prec.arg.n, .int .i64 p.arg.kind, .int .i64 p.arg.n] 67) = W1 at HPC0 HB0 hz1 ⊢
  have c2 : W1.cell? ⟨pb, 2, none⟩ = some (.bool p.spec.plus) := cell_of_heap' HPC0.out 2
  have c3 : W1.cell? ⟨pb, 3, none⟩ = some (.bool p.spec.minus) := cell_of_heap' HPC0.out 3
  have c4 : W1.cell? ⟨pb, 4, none⟩ = some (.bool p.spec.sharp) := cell_of_heap' HPC0.out 4
  have c5 : W1.cell? ⟨pb, 5, none⟩ = some (.bool p.spec.space) := cell_of_heap' HPC0.out 5
  have c6 : W1.cell? ⟨pb, 6, none⟩ = some (.bool p.spec.zero) := cell_of_heap' HPC0.out 6
  have c7 : W1.cell? ⟨pb, 7, none⟩ = some (.int .i64 p.spec.wid) := cell_of_heap' HPC0.out 7
  have c8 : W1.cell? ⟨pb, 8, none⟩ = some (.int .i64 p.spec.prec) := cell_of_heap' HPC0.out 8
  have c9 : W1.cell? ⟨pb, 9, none⟩ = some (.int .i32 p.spec.verb) := cell_of_heap' HPC0.out 9
  go_upto_region 2 with fail
  have HD0 : Hid (DW WB sb depth tab av w pb (pb + 1) p (p.spec, ⟨out, next, re⟩) (W1.alloc (.cells #[.bool p.spec.plus, .bool p.spec.minus, .bool p.spec.sharp, .bool p.spec.space, .bool p.spec.zero, .int .i64 p.spec.wid, .int .i64 p.spec.prec, .int .i32 p.spec.verb] 61))) := by
    have hB1 := HB0.out.push (.cells #[.bool p.spec.plus, .bool p.spec.minus, .bool p.spec.sharp, .bool p.spec.space, .bool p.spec.zero, .int .i64 p.spec.wid, .int .i64 p.spec.prec, .int .i32 p.spec.verb] 61)
    refine ⟨⟨bv, HS.out.later hB1⟩, (heap_alloc_old (w := W1) _ (by omega)).trans HPC0.out, ?_, ?_, by rw [HPB.out]; exact Nat.le_refl _, by rw [HPB.out]; omega, by omega, by omega, by omega, by omega⟩
    · have h := heap_alloc_new W1 (.cells #[.bool p.spec.plus, .bool p.spec.minus, .bool p.spec.sharp, .bool p.spec.space, .bool p.spec.zero, .int .i64 p.spec.wid, .int .i64 p.spec.prec, .int .i32 p.spec.verb] 61)
      rw [hz1] at h
      exact h
    · exact (Ke.refl sb w).below hB1
  obtain ⟨fb, hfb⟩ : ∃ b, pb + 1 = b := ⟨_, rfl⟩
  rw [hfb] at HD0 ⊢
  clear hfb hz1 HB0 HPC0 c2 c3 c4 c5 c6 c7 c8 c9 HPB
  generalize W1.alloc (.cells #[.bool p.spec.plus, .bool p.spec.minus, .bool p.spec.sharp, .bool p.spec.space, .bool p.spec.zero, .int .i64 p.spec.wid, .int .i64 p.spec.prec, .int .i32 p.spec.verb] 61) = W2 at HD0 ⊢
  -- the width
  obtain ⟨bv1, hst1⟩ := HD0.out.st
  have HST1 := Lib.hid hst1
  have HNU : Hid (Calls Tryz.prog 45 #[.pointer (some ⟨sb, 0, none⟩), .agg #[.int .i64 p.wid.kind, .int .i64 p.wid.n, .int .i64 p.wid.arg.kind, .int .i64 p.wid.arg.n], .int .i64 (-1000)] W2 (NumberPost WB sb out bv1 depth tab av (numberD xs next re p.wid (-1000)) W2)) :=
    Lib.hid (number_any' p.wid (-1000) hst1 HA.out HP.out.1.1 h0 h1)
  have hrg := numberD_rng xs next re p.wid (-1000) (by omega) (by omega) HP.out.1
  have hnx := numberD_next xs next re p.wid (-1000) (by rw [HA.out.len]; exact HA.out.room) h0 h1 HP.out.1
  have hye := HY1.out
  unfold dirW1 at hye
  obtain ⟨⟨k1, ok1, next1, re1⟩, hn1⟩ : ∃ y, numberD xs next re p.wid (-1000) = y := ⟨_, rfl⟩
  rw [hn1] at HNU hrg hnx
  simp only [hn1] at hye
  have HYE := Lib.hid hye
  clear hn1 hye hst1
  have c10 : W2.cell? ⟨pb, 10, none⟩ = some (.int .i64 p.wid.kind) := cell_of_heap' HD0.out.pc 10
  have c11 : W2.cell? ⟨pb, 11, none⟩ = some (.int .i64 p.wid.n) := cell_of_heap' HD0.out.pc 11
  have c12 : W2.cell? ⟨pb, 12, none⟩ = some (.int .i64 p.wid.arg.kind) := cell_of_heap' HD0.out.pc 12
  have c13 : W2.cell? ⟨pb, 13, none⟩ = some (.int .i64 p.wid.arg.n) := cell_of_heap' HD0.out.pc 13
  go_wp2_with fail
  refine HNU.out.mono ?_
  rintro e W3 ⟨rfl, hst3, hfr3⟩
  have HD1 := Lib.hid (HD0.out.step (s' := ⟨out, next1, re1⟩) hst3 (hfr3.ke HST1.out))
  have HST3 := Lib.hid hst3
  clear hst3 hfr3 HNU HD0 HST1 c10 c11 c12 c13
  have HSZW : Hid (out.size + badWidthB.size ≤ 4611686018427387904) := by
    have h1 := HO.out
    have h2 : badWidthB.size ≤ 100 := by decide
    show _ ≤ _
    omega
  have HSZ1 : Hid (y1.2.out.size ≤ out.size + 100) := by
    show _ ≤ _
    rw [← HYE.out]
    split
    · show out.size ≤ out.size + 100; omega
    split
    · show out.size ≤ out.size + 100; omega
    · show (out ++ badWidthB).size ≤ out.size + 100
      have h2 : badWidthB.size ≤ 100 := by decide
      rw [ByteArray.size_append]; omega
  have HNX1 : Hid (0 ≤ y1.2.next ∧ y1.2.next ≤ 1000000000) := by
    show _ ∧ _
    rw [← HYE.out]
    split
    · exact hnx
    split
    · exact hnx
    · exact hnx
  go_upto_if 20 with fail
  go_cut [20] (fun v20 wx => (∃ bb, v20 = .bool bb) ∧ DW WB sb depth tab av w pb fb p y1 wx)
  case first =>
    have c10 : W3.cell? ⟨pb, 10, none⟩ = some (.int .i64 p.wid.kind) := cell_of_heap' HD1.out.pc 10
    have m1 : W3.cell? ⟨fb, 1, none⟩ = some (.bool p.spec.minus) := cell_of_heap' HD1.out.fc 1
    have m5 : W3.cell? ⟨fb, 5, none⟩ = some (.int .i64 p.spec.wid) := cell_of_heap' HD1.out.fc 5
    have z1 : W3.frozen? ⟨fb, 1, none⟩ = false := frozen_of_heap' HD1.out.fc 1
    have z5 : W3.frozen? ⟨fb, 5, none⟩ = false := frozen_of_heap' HD1.out.fc 5
    cases ok1 with
    | true =>
      obtain ⟨h1k, h2k⟩ := hrg rfl
      have h3k : -9223372036854775808 ≤ -k1 := by omega
      have h4k : -k1 ≤ 9223372036854775807 := by omega
      have HK := Lib.hid h1k
      obtain ⟨mm, hmm⟩ : ∃ m, (p.spec.minus || decide (k1 < 0)) = m := ⟨_, rfl⟩
      have HF := Lib.hid ((HD1.out.spec 1 (.bool mm) { p.spec with minus := mm } (by simp [specCells])).spec 5 (.int .i64 (max k1 (-k1))) (widD p.spec k1) (by rw [← hmm]; simp [specCells, widD]))
      rcases Bool.eq_false_or_eq_true p.spec.minus with hm | hm
      · rw [hm] at m1 hmm
        clear hm
        obtain rfl : mm = true := by rw [← hmm]; rfl
        clear hmm
        go_wp2_with fail
        go_meet
        refine ⟨⟨_, rfl⟩, ?_⟩
        rw [← HYE.out]
        first | rw [if_pos rfl] | rw [if_pos trivial]
        exact HF.out
      · rw [hm] at m1 hmm
        clear hm
        by_cases hneg : k1 < 0
        · obtain rfl : mm = true := by rw [← hmm, decide_eq_true hneg]; rfl
          clear hmm
          go_wp2_with fail
          go_meet
          refine ⟨⟨_, rfl⟩, ?_⟩
          rw [← HYE.out]
          first | rw [if_pos rfl] | rw [if_pos trivial]
          exact HF.out
        · obtain rfl : mm = false := by rw [← hmm, decide_eq_false hneg]; rfl
          clear hmm
          go_wp2_with fail
          go_meet
          refine ⟨⟨_, rfl⟩, ?_⟩
          rw [← HYE.out]
          first | rw [if_pos rfl] | rw [if_pos trivial]
          exact HF.out
    | false =>
      by_cases hk : p.wid.kind = 0
      · have hk' : (p.wid.kind == 0) = true := by rw [hk]; rfl
        go_wp2_with fail
        go_meet
        refine ⟨⟨_, rfl⟩, ?_⟩
        rw [← HYE.out, if_pos hk]
        exact HD1.out
      · have hk' : (p.wid.kind == 0) = false := by simpa using hk
        have HSTd := Lib.hid (HST3.out.later (Below.refl _ W3).drew)
        have HKd := Lib.hid ((Ke.refl sb W3).below (Below.refl _ W3).drew)
        have HBD : Hid (∀ W, Calls Tryz.prog 46 #[] W (Ret W (.string (badWidthB)))) := Lib.hid (fun W => badWidth_any W)
        have HPT : Hid (∀ W, StW WB sb out bv1 depth tab av next1 re1 W → Calls Tryz.prog 21 #[.pointer (some ⟨sb, 0, none⟩), .string (badWidthB)] W (fun e w' => e = .returned (.tuple #[]) ∧ ∃ bv', StW WB sb (out ++ badWidthB) bv' depth tab av next1 re1 w' ∧ Fr sb bv1 W w')) := Lib.hid (fun W h => put_any (badWidthB) h (by have := HSZW.out; omega))
        obtain ⟨bt, hbt⟩ : ∃ y, badWidthB = y := ⟨_, rfl⟩
        rw [hbt] at HBD HPT
        have HBT := Lib.hid hbt
        clear hbt
        go_upto_region 7 with fail
        go_region_with (first
          | ((with_reducible refine (HBD.out _).mono ?_); rintro e wa ⟨rfl, hwa⟩; have HSTd := Lib.hid (HSTd.out.later hwa); have HKd := Lib.hid (HKd.out.below hwa); clear hwa)
          | ((with_reducible refine (HPT.out _ HSTd.out).mono ?_); rintro e wb ⟨rfl, bvn, hstn, hfrn⟩; have HKd := Lib.hid (HKd.out.trans (hfrn.ke HSTd.out)); have HSTn := Lib.hid hstn; clear hstn hfrn))
        rw [← HBT.out] at HSTn
        have HF := Lib.hid (HD1.out.step (s' := ⟨out ++ badWidthB, next1, re1⟩) HSTn.out HKd.out)
        go_wp2_with fail
        go_meet
        refine ⟨⟨_, rfl⟩, ?_⟩
        rw [← HYE.out, if_neg hk]
        exact HF.out
  case rest =>
  obtain ⟨⟨bb, rfl⟩, hdw⟩ := hcut
  have HD2 := Lib.hid hdw
  clear hdw HD1 HST3 hrg hnx HYE HSZW
  apply_assumption
  obtain ⟨f1, ⟨out1, nx1, rx1⟩⟩ := y1
  have hsz1 : out1.size ≤ out.size + 100 := HSZ1.out
  obtain ⟨hn0, hn1⟩ : 0 ≤ nx1 ∧ nx1 ≤ 1000000000 := HNX1.out
  -- the precision
  obtain ⟨bv3, hst2⟩ := HD2.out.st
  have HST2 := Lib.hid hst2
  have HNU : Hid (Calls Tryz.prog 45 #[.pointer (some ⟨sb, 0, none⟩), .agg #[.int .i64 p.prec.kind, .int .i64 p.prec.n, .int .i64 p.prec.arg.kind, .int .i64 p.prec.arg.n], .int .i64 0] wc (NumberPost WB sb out1 bv3 depth tab av (numberD xs nx1 rx1 p.prec 0) wc)) :=
    Lib.hid (number_any' p.prec 0 hst2 HA.out HP.out.2.1.1 hn0 hn1)
  have hrg := numberD_rng xs nx1 rx1 p.prec 0 (by omega) (by omega) HP.out.2.1
  have hnx := numberD_next xs nx1 rx1 p.prec 0 (by rw [HA.out.len]; exact HA.out.room) hn0 hn1 HP.out.2.1
  have hze := HY2.out
  unfold dirW2 at hze
  obtain ⟨⟨k2, ok2, next2, re2⟩, hn2⟩ : ∃ y, numberD xs nx1 rx1 p.prec 0 = y := ⟨_, rfl⟩
  rw [hn2] at HNU hrg hnx
  simp only [hn2] at hze
  have HZE := Lib.hid hze
  clear hn2 hze hst2
  have c14 : wc.cell? ⟨pb, 14, none⟩ = some (.int .i64 p.prec.kind) := cell_of_heap' HD2.out.pc 14
  have c15 : wc.cell? ⟨pb, 15, none⟩ = some (.int .i64 p.prec.n) := cell_of_heap' HD2.out.pc 15
  have c16 : wc.cell? ⟨pb, 16, none⟩ = some (.int .i64 p.prec.arg.kind) := cell_of_heap' HD2.out.pc 16
  have c17 : wc.cell? ⟨pb, 17, none⟩ = some (.int .i64 p.prec.arg.n) := cell_of_heap' HD2.out.pc 17
  go_wp2_with fail
  refine HNU.out.mono ?_
  rintro e W5 ⟨rfl, hst5, hfr5⟩
  have HD3 := Lib.hid (HD2.out.step (s' := ⟨out1, next2, re2⟩) hst5 (hfr5.ke HST2.out))
  have HST5 := Lib.hid hst5
  clear hst5 hfr5 HNU HD2 HST2 c14 c15 c16 c17
  have HSZP : Hid (out1.size + badPrecB.size ≤ 4611686018427387904) := by
    have h1 := HO.out
    have h2 : badPrecB.size ≤ 100 := by decide
    show _ ≤ _
    omega
  have HSZ2 : Hid (y2.2.out.size ≤ out1.size + 100) := by
    show _ ≤ _
    rw [← HZE.out]
    split
    · show out1.size ≤ out1.size + 100; omega
    split
    · show out1.size ≤ out1.size + 100; omega
    · show (out1 ++ badPrecB).size ≤ out1.size + 100
      have h2 : badPrecB.size ≤ 100 := by decide
      rw [ByteArray.size_append]; omega
  have HNX2 : Hid (0 ≤ y2.2.next ∧ y2.2.next ≤ 1000000000) := by
    show _ ∧ _
    rw [← HZE.out]
    split
    · exact hnx
    split
    · exact hnx
    · exact hnx
  go_upto_if 49 with fail
  go_cut [49] (fun v49 wx => (∃ bb, v49 = .bool bb) ∧ DW WB sb depth tab av w pb fb p y2 wx)
  case first =>
    have c14 : W5.cell? ⟨pb, 14, none⟩ = some (.int .i64 p.prec.kind) := cell_of_heap' HD3.out.pc 14
    have m6 : W5.cell? ⟨fb, 6, none⟩ = some (.int .i64 f1.prec) := cell_of_heap' HD3.out.fc 6
    have z6 : W5.frozen? ⟨fb, 6, none⟩ = false := frozen_of_heap' HD3.out.fc 6
    cases ok2 with
    | true =>
      have HF := Lib.hid (HD3.out.spec 6 (.int .i64 k2) { f1 with prec := k2 } (by simp [specCells]))
      go_wp2_with fail
      go_meet
      refine ⟨⟨_, rfl⟩, ?_⟩
      rw [← HZE.out]
      first | rw [if_pos rfl] | rw [if_pos trivial]
      exact HF.out
    | false =>
      by_cases hk : p.prec.kind = 0
      · have hk' : (p.prec.kind == 0) = true := by rw [hk]; rfl
        go_wp2_with fail
        go_meet
        refine ⟨⟨_, rfl⟩, ?_⟩
        rw [← HZE.out, if_pos hk]
        exact HD3.out
      · have hk' : (p.prec.kind == 0) = false := by simpa using hk
        have HSTd := Lib.hid (HST5.out.later (Below.refl _ W5).drew)
        have HKd := Lib.hid ((Ke.refl sb W5).below (Below.refl _ W5).drew)
        have HBD : Hid (∀ W, Calls Tryz.prog 47 #[] W (Ret W (.string (badPrecB)))) := Lib.hid (fun W => badPrec_any W)
        have HPT : Hid (∀ W, StW WB sb out1 bv3 depth tab av next2 re2 W → Calls Tryz.prog 21 #[.pointer (some ⟨sb, 0, none⟩), .string (badPrecB)] W (fun e w' => e = .returned (.tuple #[]) ∧ ∃ bv', StW WB sb (out1 ++ badPrecB) bv' depth tab av next2 re2 w' ∧ Fr sb bv3 W w')) := Lib.hid (fun W h => put_any (badPrecB) h (by have := HSZP.out; omega))
        obtain ⟨bt, hbt⟩ : ∃ y, badPrecB = y := ⟨_, rfl⟩
        rw [hbt] at HBD HPT
        have HBT := Lib.hid hbt
        clear hbt
        go_upto_region 12 with fail
        go_region_with (first
          | ((with_reducible refine (HBD.out _).mono ?_); rintro e wa ⟨rfl, hwa⟩; have HSTd := Lib.hid (HSTd.out.later hwa); have HKd := Lib.hid (HKd.out.below hwa); clear hwa)
          | ((with_reducible refine (HPT.out _ HSTd.out).mono ?_); rintro e wb ⟨rfl, bvn, hstn, hfrn⟩; have HKd := Lib.hid (HKd.out.trans (hfrn.ke HSTd.out)); have HSTn := Lib.hid hstn; clear hstn hfrn))
        rw [← HBT.out] at HSTn
        have HF := Lib.hid (HD3.out.step (s' := ⟨out1 ++ badPrecB, next2, re2⟩) HSTn.out HKd.out)
        go_wp2_with fail
        go_meet
        refine ⟨⟨_, rfl⟩, ?_⟩
        rw [← HZE.out, if_neg hk]
        exact HF.out
  case rest =>
  obtain ⟨⟨bb2, rfl⟩, hdw⟩ := hcut
  have HD4 := Lib.hid hdw
  clear hdw HD3 HST5 hrg hnx HZE HSZP
  apply_assumption
  obtain ⟨f2, ⟨out2, nx2, rx2⟩⟩ := y2
  have hsz2 : out2.size ≤ out1.size + 100 := HSZ2.out
  obtain ⟨hm0, hm1⟩ : 0 ≤ nx2 ∧ nx2 ≤ 1000000000 := HNX2.out
  have HSZ : Hid (out2.size ≤ 2305843009213694152) := by
    have h1 := HO.out
    show _ ≤ _
    omega
  obtain ⟨bv5, hst4⟩ := HD4.out.st
  have HST4 := Lib.hid hst4
  clear hst4
  have v7 : wc.cell? ⟨fb, 7, none⟩ = some (.int .i32 f2.verb) := cell_of_heap' HD4.out.fc 7
  have c18 : wc.cell? ⟨pb, 18, none⟩ = some (.int .i64 p.arg.kind) := cell_of_heap' HD4.out.pc 18
  have hy := HY3.out
  unfold dirW3 at hy
  by_cases hv : f2.verb = 37
  · have hv' : (f2.verb == 37) = true := by rw [hv]; rfl
    rw [if_pos hv] at hy
    obtain rfl := Option.some.inj hy
    clear hy hv
    have k6 : wc.cell? ⟨sb, 6, none⟩ = some (.bool rx2) := cell_of_heap' HST4.out.blk 6
    have z6 : wc.frozen? ⟨sb, 6, none⟩ = false := frozen_of_heap' HST4.out.blk 6
    obtain ⟨r3, hr3⟩ : ∃ r, (rx2 || decide (p.arg.kind ≠ 0)) = r := ⟨_, rfl⟩
    have HST6 := Lib.hid (HST4.out.cell 6 (.bool r3) (next' := nx2) (re' := r3) (by simp [stCells]))
    have HFR6 := Lib.hid (((Fr.refl sb bv5 wc).put 6 (.bool r3)).ke HST4.out)
    have HG : Hid (∀ bv', ∀ W, StW WB sb (out2 ++ ⟨#[37]⟩) bv' depth tab av nx2 r3 W → Ke sb (wc.setCell ⟨sb, 6, none⟩ (.bool r3)) W →
        (∃ bv', StW WB sb (out2 ++ ⟨#[37]⟩) bv' depth tab av nx2 (rx2 || decide (p.arg.kind ≠ 0)) W) ∧ Ke sb w W) := by
      rw [hr3]
      exact Lib.hid fun bv' W h1 h2 => ⟨⟨bv', h1⟩, HD4.out.ke.trans (HFR6.out.trans h2)⟩
    go_upto_region 14 with fail
    go_cut [75] (fun v75 wx => wx = wc.setCell ⟨sb, 6, none⟩ (.bool r3))
    case first =>
      cases rx2 with
      | true =>
        obtain rfl : r3 = true := by rw [← hr3]; rfl
        clear hr3
        go_wp2_with fail
        go_meet
        rfl
      | false =>
        by_cases hk : p.arg.kind = 0
        · obtain rfl : r3 = false := by rw [← hr3, hk]; rfl
          rw [hk] at c18
          clear hr3 hk
          go_wp2_with fail
          go_meet
          rfl
        · have hk2 : (p.arg.kind != 0) = true := by simpa using hk
          obtain rfl : r3 = true := by rw [← hr3, decide_eq_true hk]; rfl
          clear hr3 hk
          go_wp2_with fail
          go_meet
          rfl
    case rest =>
    have HW := Lib.hid hcut
    clear hcut
    apply_assumption
    rw [← HW.out] at HST6 HG
    go_wp2_with fail
    refine (put_any ⟨#[37]⟩ HST6.out (by have := HSZ.out; show out2.size + 1 ≤ _; omega)).mono ?_
    rintro e W8 ⟨rfl, bv8, hst8, hfr8⟩
    have HE := Lib.hid (HG.out bv8 W8 hst8 (hfr8.ke HST6.out))
    clear hst8 hfr8
    go_wp2_with fail
    exact ⟨rfl, .tuple #[], by simp [results, Tryz.f23, go_sem], DirPost.of HE.out⟩
  · have hv' : (f2.verb == 37) = false := by simpa using hv
    rw [if_neg hv] at hy
    have HY := Lib.hid hy
    clear hy
    obtain ⟨bm, hbm⟩ : ∃ b, decide (p.arg.kind = 0 ∧ (xs.length : Int) ≤ nx2) = b := ⟨_, rfl⟩
    have HLEN := HA.out.len
    obtain ⟨aa, ac, hav⟩ := own_slice HA.out.own
    have HAV := Lib.hid hav
    clear hav
    obtain ⟨n, hn⟩ : ∃ n, us.length = n := ⟨_, rfl⟩
    rw [HLEN, hn] at hbm
    rw [hn] at HAV
    have HN := Lib.hid hn
    clear HLEN hn
    go_upto_region 16 with fail
    go_cut [82] (fun v82 wx => v82 = .bool bm ∧ DW WB sb depth tab av w pb fb p (f2, ⟨out2, nx2, rx2⟩) wx)
    case first =>
      have HDd := Lib.hid (HD4.out.step (s' := ⟨out2, nx2, rx2⟩) (HST4.out.later (Below.refl _ wc).drew) ((Ke.refl sb wc).below (Below.refl _ wc).drew))
      have k4 : wc.cell? ⟨sb, 4, none⟩ = some (.slice aa n ac) := by rw [← HAV.out]; exact cell_of_heap' HST4.out.blk 4
      have k5 : wc.cell? ⟨sb, 5, none⟩ = some (.int .i64 nx2) := cell_of_heap' HST4.out.blk 5
      by_cases hk : p.arg.kind = 0
      · rw [hk] at c18
        by_cases hle : (n : Int) ≤ nx2
        · obtain rfl : bm = true := by rw [← hbm]; exact decide_eq_true ⟨hk, hle⟩
          clear hbm hk
          go_region
          all_goals
            go_wp2_with fail
            go_meet
            exact ⟨rfl, HDd.out⟩
        · obtain rfl : bm = false := by rw [← hbm]; exact decide_eq_false (fun h => hle h.2)
          clear hbm hk
          go_region
          all_goals
            go_wp2_with fail
            go_meet
            exact ⟨rfl, HDd.out⟩
      · have hk2 : (p.arg.kind == 0) = false := by simpa using hk
        obtain rfl : bm = false := by rw [← hbm]; exact decide_eq_false (fun h => hk h.1)
        clear hbm hk
        go_region
        all_goals
          go_wp2_with fail
          go_meet
          exact ⟨rfl, HDd.out⟩
    case rest =>
    obtain ⟨rfl, hdw⟩ := hcut
    have HD5 := Lib.hid hdw
    clear hdw HD4 HST4 v7 c18
    apply_assumption
    obtain ⟨bv6, hst5⟩ := HD5.out.st
    have HST5 := Lib.hid hst5
    clear hst5
    have v7 : wc.cell? ⟨fb, 7, none⟩ = some (.int .i32 f2.verb) := cell_of_heap' HD5.out.fc 7
    have hy := HY.out
    by_cases hbt : bm = true
    · subst hbt
      rw [if_pos (by rw [HA.out.len, HN.out]; exact of_decide_eq_true hbm)] at hy
      obtain rfl := Option.some.inj hy
      clear hy hbm
      have HSTd := Lib.hid (HST5.out.later (Below.refl _ wc).drew)
      have HKd := Lib.hid ((Ke.refl sb wc).below (Below.refl _ wc).drew)
      have HBD : Hid (∀ W, Calls Tryz.prog 48 #[.int .i32 f2.verb] W (Ret W (.string (badMissingB f2.verb)))) := Lib.hid (fun W => badMissing_any f2.verb W)
      have HPT : Hid (∀ W, StW WB sb out2 bv6 depth tab av nx2 rx2 W → Calls Tryz.prog 21 #[.pointer (some ⟨sb, 0, none⟩), .string (badMissingB f2.verb)] W (fun e w' => e = .returned (.tuple #[]) ∧ ∃ bv', StW WB sb (out2 ++ badMissingB f2.verb) bv' depth tab av nx2 rx2 w' ∧ Fr sb bv6 W w')) := Lib.hid (fun W h => put_any (badMissingB f2.verb) h (by have := HSZ.out; have := badM_size f2.verb; omega))
      obtain ⟨bt, hbt⟩ : ∃ y, badMissingB f2.verb = y := ⟨_, rfl⟩
      rw [hbt] at HBD HPT
      have HBT := Lib.hid hbt
      clear hbt
      go_upto_region 17 with fail
      have v7 : wc.cell? ⟨fb, 7, none⟩ = some (.int .i32 f2.verb) := v7
      go_region_with (first
        | ((with_reducible refine (HBD.out _).mono ?_); rintro e wa ⟨rfl, hwa⟩; have HSTd := Lib.hid (HSTd.out.later hwa); have HKd := Lib.hid (HKd.out.below hwa); clear hwa)
        | ((with_reducible refine (HPT.out _ HSTd.out).mono ?_); rintro e wb ⟨rfl, bvn, hstn, hfrn⟩; have HKd := Lib.hid (HKd.out.trans (hfrn.ke HSTd.out)); have HSTn := Lib.hid hstn; clear hstn hfrn))
      rw [← HBT.out] at HSTn
      have HE := Lib.hid (DirPost.of (s' := ⟨out2 ++ badMissingB f2.verb, nx2, rx2⟩) ⟨⟨_, HSTn.out⟩, HD5.out.ke.trans HKd.out⟩)
      go_wp2_with fail
      exact ⟨rfl, .tuple #[], by simp [results, Tryz.f23, go_sem], HE.out⟩
    · obtain rfl : bm = false := by simpa using hbt
      rw [if_neg (by rw [HA.out.len, HN.out]; exact of_decide_eq_false hbm)] at hy
      clear hbm hbt
      have HMF := Lib.hid hm0
      obtain ⟨tk, htk⟩ : ∃ y, takeD us.length nx2 rx2 p.arg = y := ⟨_, rfl⟩
      have hti : ∀ i, tk.1 = some i → i < us.length := fun i hi => takeD_lt us.length nx2 rx2 p.arg hm0 HP.out.2.2 i (by rw [htk]; exact hi)
      have HTI := Lib.hid hti
      have HTA := Lib.hid (take_any p.arg HST5.out HA.out HP.out.2.2 hm0 hm1)
      rw [HA.out.len, htk] at hy
      rw [htk] at HTA
      clear htk hti
      have c18 : wc.cell? ⟨pb, 18, none⟩ = some (.int .i64 p.arg.kind) := cell_of_heap' HD5.out.pc 18
      have c19 : wc.cell? ⟨pb, 19, none⟩ = some (.int .i64 p.arg.n) := cell_of_heap' HD5.out.pc 19
      clear v7
      go_wp2_with fail
      refine HTA.out.mono ?_
      rintro e W6 ⟨rfl, hst6, hfr6⟩
      have HD6 := Lib.hid (HD5.out.step (s' := ⟨out2, tk.2.1, tk.2.2⟩) hst6 (hfr6.ke HST5.out))
      have HST6 := Lib.hid hst6
      clear hst6 hfr6 HTA HD5 HST5 c18 c19
      have v7 : W6.cell? ⟨fb, 7, none⟩ = some (.int .i32 f2.verb) := cell_of_heap' HD6.out.fc 7
      obtain ⟨tix, tn, tr⟩ := tk
      cases tix with
      | none =>
        obtain rfl := Option.some.inj hy
        clear hy
        have HSTd := Lib.hid (HST6.out.later (Below.refl _ W6).drew)
        have HKd := Lib.hid ((Ke.refl sb W6).below (Below.refl _ W6).drew)
        have HBD : Hid (∀ W, Calls Tryz.prog 50 #[.int .i32 f2.verb] W (Ret W (.string (badIndexB f2.verb)))) := Lib.hid (fun W => badIndex_any f2.verb W)
        have HPT : Hid (∀ W, StW WB sb out2 bv6 depth tab av tn tr W → Calls Tryz.prog 21 #[.pointer (some ⟨sb, 0, none⟩), .string (badIndexB f2.verb)] W (fun e w' => e = .returned (.tuple #[]) ∧ ∃ bv', StW WB sb (out2 ++ badIndexB f2.verb) bv' depth tab av tn tr w' ∧ Fr sb bv6 W w')) := Lib.hid (fun W h => put_any (badIndexB f2.verb) h (by have := HSZ.out; have := badI_size f2.verb; omega))
        obtain ⟨bt, hbt⟩ : ∃ y, badIndexB f2.verb = y := ⟨_, rfl⟩
        rw [hbt] at HBD HPT
        have HBT := Lib.hid hbt
        clear hbt
        go_upto_region 20 with fail
        go_region_with (first
          | ((with_reducible refine (HBD.out _).mono ?_); rintro e wa ⟨rfl, hwa⟩; have HSTd := Lib.hid (HSTd.out.later hwa); have HKd := Lib.hid (HKd.out.below hwa); clear hwa)
          | ((with_reducible refine (HPT.out _ HSTd.out).mono ?_); rintro e wb ⟨rfl, bvn, hstn, hfrn⟩; have HKd := Lib.hid (HKd.out.trans (hfrn.ke HSTd.out)); have HSTn := Lib.hid hstn; clear hstn hfrn))
        rw [← HBT.out] at HSTn
        have HE := Lib.hid (DirPost.of (s' := ⟨out2 ++ badIndexB f2.verb, tn, tr⟩) ⟨⟨_, HSTn.out⟩, HD6.out.ke.trans HKd.out⟩)
        go_wp2_with fail
        exact ⟨rfl, .tuple #[], by simp [results, Tryz.f23, go_sem], HE.out⟩
      | some i =>
        have hil : i < us.length := HTI.out i rfl
        have hil2 : i < xs.length := by rw [HA.out.len]; exact hil
        obtain ⟨q, hq, hs'⟩ : ∃ q, sh (xs.getD i .nil) f2 = some q ∧ s' = ⟨out2 ++ q, tn, tr⟩ := by
          cases hqq : sh (xs.getD i .nil) f2 with
          | none =>
            have h : Option.map (fun q => (⟨out2 ++ q, tn, tr⟩ : PrS)) (sh (xs.getD i .nil) f2) = some s' := hy
            rw [hqq] at h
            cases h
          | some q =>
            have h : Option.map (fun q => (⟨out2 ++ q, tn, tr⟩ : PrS)) (sh (xs.getD i .nil) f2) = some s' := hy
            rw [hqq] at h
            exact ⟨q, rfl, (Option.some.inj h).symm⟩
        subst hs'
        have HQZ := Lib.hid (HSH.out.size hq)
        have HSC : Hid (∀ W, StW WB sb out2 bv6 depth tab av tn tr W → Calls Tryz.prog 25 #[pickU us (some i), .agg #[.bool f2.plus, .bool f2.minus, .bool f2.sharp, .bool f2.space, .bool f2.zero, .int .i64 f2.wid, .int .i64 f2.prec, .int .i32 f2.verb], .func (.func 27) #[.pointer (some ⟨sb, 0, none⟩)] #[]] W (Ret W (.string q))) := by
          show ∀ _, _
          intro W hW
          exact HSH.out.call hW (pick_isV HA.out hW.keep (some i) (fun j hj => by injection hj with hj; omega)) HRNG.out hq
        have HPT : Hid (∀ W, StW WB sb out2 bv6 depth tab av tn tr W → Calls Tryz.prog 21 #[.pointer (some ⟨sb, 0, none⟩), .string q] W (fun e w' => e = .returned (.tuple #[]) ∧ ∃ bv', StW WB sb (out2 ++ q) bv' depth tab av tn tr w' ∧ Fr sb bv6 W w')) := Lib.hid (fun W h => put_any q h (by have := HSZ.out; have := HQZ.out; omega))
        obtain ⟨u, hu⟩ : ∃ y, pickU us (some i) = y := ⟨_, rfl⟩
        rw [hu] at HSC ⊢
        have hmf : ∀ (fn : Fn) (first cap : Array Value) (w : World), (Instr.makeFunc fn first cap).run Tryz.prog w = .ok (.func fn first cap) w := fun _ _ _ _ => rfl
        have v0 : W6.cell? ⟨fb, 0, none⟩ = some (.bool f2.plus) := cell_of_heap' HD6.out.fc 0
        have v1 : W6.cell? ⟨fb, 1, none⟩ = some (.bool f2.minus) := cell_of_heap' HD6.out.fc 1
        have v2 : W6.cell? ⟨fb, 2, none⟩ = some (.bool f2.sharp) := cell_of_heap' HD6.out.fc 2
        have v3 : W6.cell? ⟨fb, 3, none⟩ = some (.bool f2.space) := cell_of_heap' HD6.out.fc 3
        have v4 : W6.cell? ⟨fb, 4, none⟩ = some (.bool f2.zero) := cell_of_heap' HD6.out.fc 4
        have v5 : W6.cell? ⟨fb, 5, none⟩ = some (.int .i64 f2.wid) := cell_of_heap' HD6.out.fc 5
        have v6 : W6.cell? ⟨fb, 6, none⟩ = some (.int .i64 f2.prec) := cell_of_heap' HD6.out.fc 6
        have v7 : W6.cell? ⟨fb, 7, none⟩ = some (.int .i32 f2.verb) := cell_of_heap' HD6.out.fc 7
        clear hq hu hy hil hil2 HTI
        have HSTd := Lib.hid (HST6.out.later (Below.refl _ W6).drew)
        have HKd := Lib.hid ((Ke.refl sb W6).below (Below.refl _ W6).drew)
        go_upto_region 21 with fail
        go_region_with (first
          | ((with_reducible refine (HSC.out _ HSTd.out).mono ?_); rintro e wa ⟨rfl, hwa⟩; have HSTd := Lib.hid (HSTd.out.later hwa); have HKd := Lib.hid (HKd.out.below hwa); clear hwa)
          | ((with_reducible refine (HPT.out _ HSTd.out).mono ?_); rintro e wb ⟨rfl, bvn, hstn, hfrn⟩; have HKd := Lib.hid (HKd.out.trans (hfrn.ke HSTd.out)); have HSTn := Lib.hid hstn; clear hstn hfrn))
        all_goals
          have HE := Lib.hid (DirPost.of (s' := ⟨out2 ++ q, tn, tr⟩) ⟨⟨_, HSTn.out⟩, HD6.out.ke.trans HKd.out⟩)
          clear v0 v1 v2 v3 v4 v5 v6 v7
          go_wp2_with fail
          exact ⟨rfl, .tuple #[], by simp [results, Tryz.f23, go_sem], HE.out⟩
end Go.Proofs.YtnalppgjbllehaaGreatDoor
