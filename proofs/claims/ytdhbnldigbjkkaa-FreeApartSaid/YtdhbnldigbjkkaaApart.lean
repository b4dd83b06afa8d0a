/- FreeApart, walked: it returns true and leaves what was there alone. Condition: the slice's cells hold the calls. -/
import Derived.Test.YtdhbnldigbjkkaaInts
import Derived.Deep.RegionHeld3
namespace Go.Proofs.Ytdhbnldigbjkkaa
open Go.RowKit Go.Conc

set_option maxHeartbeats 4000000 in
theorem apart_core (a : Option Addr) (A off len cap n : Nat) (os : Nat → Bool × Int) (w : World)
    (ha : 0 < n → a = some ⟨A, off, none⟩) (hcell : ∀ i, i < n → w.cell? ⟨A, off + i * 2, none⟩ = some (.bool (os i).1) ∧ w.cell? ⟨A, off + i * 2 + 1, none⟩ = some (.int .i64 (os i).2)) (hn : n ≤ 300)
    (hfew : ∀ w, Calls Try.prog 12 #[.slice a len cap] w fun e w' => e = .returned (.slice a n cap) ∧ w = w') :
    Calls Try.prog 8 #[.slice a len cap] w fun e w' => e = .returned (.bool true) ∧ Below w.heap.size w w' := by
  have HC := Lib.hid hcell
  have HAA := Lib.hid ha
  have HF := Lib.hid hfew
  have hr8 : room 8 = 8 := by unfold room; omega
  have HR := Lib.hid hr8
  clear hcell ha hfew hr8
  go_enter Try.func8, Try.ntmps8
  go_wp2_with fail
  refine (newI_any 8 .nilFunc _ (.inl ⟨rfl, rfl⟩) _).mono ?_
  rintro e w1 ⟨b1, c1, rfl, hl1, hb1, hc1, hb1', hc1', hB1⟩
  have HL1 := Lib.hid hl1
  have HB1 := Lib.hid hB1
  clear hl1 hB1
  go_wp2_with fail
  refine (newI_any 8 .nilFunc _ (.inl ⟨rfl, rfl⟩) _).mono ?_
  rintro e w2 ⟨b2, c2, rfl, hl2, hb2, hc2, hb2', hc2', hB2⟩
  have HL2 := Lib.hid hl2
  have HL1' := Lib.hid (HL1.out.below hB2)
  have HB2 := Lib.hid (HB1.out.trans (hB2.mono HB1.out.size))
  clear hl2 hB2 HL1
  go_wp2_with fail
  refine (newI_any 8 .nilFunc _ (.inl ⟨rfl, rfl⟩) _).mono ?_
  rintro e w3 ⟨b3, c3, rfl, hl3, hb3, hc3, hb3', hc3', hB3⟩
  have h0 : Three w.heap.size b1 c1 b2 c2 b3 c3 0 w w3 := by
    refine ⟨⟨[], 0, [], 0, ?_, ?_, ?_, by omega, by omega, by omega, by omega⟩, HB2.out.trans (hB3.mono HB2.out.size), Nat.le_trans HB2.out.size hB3.size⟩
    · have := HL1'.out.below hB3; rw [HR.out] at this; exact this
    · rw [HR.out] at hl3; exact hl3
    · have := HL2.out.below hB3; rw [HR.out] at this; exact this
  have H0 := Lib.hid h0
  have hA : Apart w.heap.size b1 c1 b2 c2 b3 c3 := by
    refine ⟨?_, ?_, ?_, ?_, ?_, ?_, ?_, ?_, ?_, ?_, ?_, ?_, ?_, ?_⟩ <;> omega
  have HA := Lib.hid hA
  clear h0 hl3 hB3 HL1' HL2 HB2 HB1 hb1 hc1 hb2 hc2 hb3 hc3 hb1' hc1' hb2' hc2' hb3' hc3' hA
  go_wp2_with fail
  refine (HF.out _).mono ?_
  rintro e w4 ⟨rfl, rfl⟩
  go_wp2_with fail
  go_loopw [2, 6, 7, 24] (fun _ _ _ k w1 => ∃ i : Nat, i ≤ n ∧ k = .int .i64 i ∧ Three w.heap.size b1 c1 b2 c2 b3 c3 i w w1) (fun _ _ _ k _ => n - (intOf k).toNat)
  case atStart => exact ⟨0, by omega, rfl, H0.out⟩
  case round =>
    clear H0
    obtain ⟨i, hi, rfl, ⟨l, made, l2, made2, hl1, hl3, hl2, hm0, hm1, hm20, hm21⟩, hB, hz⟩ := hrel
    have HB := Lib.hid hB
    have HL1 := Lib.hid hl1
    have HL2 := Lib.hid hl2
    have HL3 := Lib.hid hl3
    clear hB hl1 hl2 hl3
    by_cases hin : i < n
    · obtain rfl := HAA.out (by omega)
      have hci := below_cell HB.out (HC.out i hin).1
      have hci2 := below_cell HB.out (HC.out i hin).2
      rcases hO : os i with ⟨p, x⟩
      rw [hO] at hci hci2
      dsimp only at hci hci2
      clear hO
      cases p
      · have hzr := hz
        go_wp2_with fail
        refine (get_plain (b := b1) (HL1.out.alloc _) hm0 (by omega)).mono ?_
        rintro e w6 ⟨rfl, hp1, hk1⟩
        have HP1 := Lib.hid hp1
        have HK1 := Lib.hid hk1
        clear hp1 hk1
        go_wp2_with fail
        have hL3 : Lie 58 w6 b3 c3 8 (ints l) (.func (.func 30) #[] #[]) made := by
          obtain ⟨h01, h02, h03, h04, h05, h06, h07, h08, h09, h10, h11, h12, h13, h14⟩ := HA.out
          exact (HL3.out.alloc _).keepS HK1.out.toS (by simp; omega) (by simp; omega)
        refine (get_plain (b := b3) hL3 hm0 (by omega)).mono ?_
        rintro e w7 ⟨rfl, hp3, hk3⟩
        have HP3 := Lib.hid hp3
        have HK3 := Lib.hid hk3
        clear hp3 hk3 hL3
        obtain ⟨hN1, hN2, hN3, hNB, hNz⟩ := three_next HA.out (HL2.out.alloc _) (HB.out.alloc hz (.cells #[.bool false, .int .i64 x] 30)) (by simp; omega) HP1.out HK1.out HP3.out HK3.out
        have hmm : 0 ≤ (if l = [] then made + 1 else made) ∧ (if l = [] then made + 1 else made) ≤ i + 1 := by split <;> omega
        obtain ⟨made', hme⟩ : ∃ made', made' = (if l = [] then made + 1 else made) := ⟨_, rfl⟩
        obtain ⟨l', hl'⟩ : ∃ l', l' = l.tail := ⟨_, rfl⟩
        rw [← hme, ← hl'] at hN1 hN3
        rw [← hme] at hmm
        obtain ⟨hm0', hm1'⟩ := hmm
        clear hme hl'
        have HN1 := Lib.hid hN1
        have HN2 := Lib.hid hN2
        have HN3 := Lib.hid hN3
        have HNB := Lib.hid hNB
        clear hN1 hN2 hN3 hNB HP1 HP3 HK1 HK3 HL1 HL2 HL3 HB hm0 hm1
        have hi0 : 0 ≤ (i : Int) := by omega
        by_cases h2 : i % 2 = 0
        · go_wp2_with fail
          refine (put_plain (b := b2) i HN2.out).mono ?_
          rintro e w8 ⟨rfl, hp2, hk2⟩
          have HP2 := Lib.hid hp2
          have HK2 := Lib.hid hk2
          clear hp2 hk2
          obtain ⟨hX1, hX2, hX3, hXB, hXz⟩ := three_mid HA.out HN1.out HN3.out HNB.out hNz HP2.out HK2.out
          have HX1 := Lib.hid hX1
          have HX2 := Lib.hid hX2
          have HX3 := Lib.hid hX3
          have HXB := Lib.hid hXB
          clear hX1 hX2 hX3 hXB HN1 HN2 HN3 HNB HP2 HK2 h2
          go_wp2_with fail
          refine (lenI_any HX1.out).mono ?_
          rintro e w9 ⟨rfl, rfl⟩
          go_wp2_with fail
          refine (lenI_any HX3.out).mono ?_
          rintro e w9 ⟨rfl, rfl⟩
          go_wp2_with fail
          refine (madeI_any HX1.out).mono ?_
          rintro e w9 ⟨rfl, rfl⟩
          go_wp2_with fail
          refine (madeI_any HX3.out).mono ?_
          rintro e w9 ⟨rfl, rfl⟩
          go_wp2_with fail
          go_roundw
          case rel => exact ⟨i + 1, by omega, by go_num, ⟨l', made', _, _, HX1.out, HX3.out, HX2.out, hm0', by omega, by omega, by omega⟩, HXB.out, hXz⟩
          case measure => simp [intOf]; omega
        · by_cases h3 : i % 3 = 0
          · go_wp2_with fail
            refine (get_plain (b := b2) HN2.out hm20 (by omega)).mono ?_
            rintro e w8 ⟨rfl, hp2, hk2⟩
            have HP2 := Lib.hid hp2
            have HK2 := Lib.hid hk2
            clear hp2 hk2 h3
            have hmq : 0 ≤ (if l2 = [] then made2 + 1 else made2) ∧ (if l2 = [] then made2 + 1 else made2) ≤ i + 1 := by split <;> omega
            obtain ⟨made2', hme2⟩ : ∃ made2', made2' = (if l2 = [] then made2 + 1 else made2) := ⟨_, rfl⟩
            rw [← hme2] at HP2 hmq
            clear hme2
            obtain ⟨hX1, hX2, hX3, hXB, hXz⟩ := three_mid HA.out HN1.out HN3.out HNB.out hNz HP2.out HK2.out
            have HX1 := Lib.hid hX1
            have HX2 := Lib.hid hX2
            have HX3 := Lib.hid hX3
            have HXB := Lib.hid hXB
            clear hX1 hX2 hX3 hXB HN1 HN2 HN3 HNB HP2 HK2 h2
            go_wp2_with fail
            refine (lenI_any HX1.out).mono ?_
            rintro e w9 ⟨rfl, rfl⟩
            go_wp2_with fail
            refine (lenI_any HX3.out).mono ?_
            rintro e w9 ⟨rfl, rfl⟩
            go_wp2_with fail
            refine (madeI_any HX1.out).mono ?_
            rintro e w9 ⟨rfl, rfl⟩
            go_wp2_with fail
            refine (madeI_any HX3.out).mono ?_
            rintro e w9 ⟨rfl, rfl⟩
            go_wp2_with fail
            go_roundw
            case rel => exact ⟨i + 1, by omega, by go_num, ⟨l', made', _, _, HX1.out, HX3.out, HX2.out, hm0', by omega, by omega, by omega⟩, HXB.out, hXz⟩
            case measure => simp [intOf]; omega
          · have HX1 := HN1
            have HX2 := HN2
            have HX3 := HN3
            have HXB := HNB
            have hXz := hNz
            clear HN1 HN2 HN3 HNB hNz
            go_wp2_with fail
            refine (lenI_any HX1.out).mono ?_
            rintro e w9 ⟨rfl, rfl⟩
            go_wp2_with fail
            refine (lenI_any HX3.out).mono ?_
            rintro e w9 ⟨rfl, rfl⟩
            go_wp2_with fail
            refine (madeI_any HX1.out).mono ?_
            rintro e w9 ⟨rfl, rfl⟩
            go_wp2_with fail
            refine (madeI_any HX3.out).mono ?_
            rintro e w9 ⟨rfl, rfl⟩
            go_wp2_with fail
            go_roundw
            case rel => exact ⟨i + 1, by omega, by go_num, ⟨l', made', _, _, HX1.out, HX3.out, HX2.out, hm0', by omega, by omega, by omega⟩, HXB.out, hXz⟩
            case measure => simp [intOf]; omega
      · have HA4 := Lib.hid (HA.out)
        go_wp2_with fail
        obtain ⟨h01, h02, h03, h04, h05, h06, h07, h08, h09, h10, h11, h12, h13, h14⟩ := HA4.out
        have hL1 := (HL1.out.alloc (.cells #[.bool true, .int .i64 x] 30)).drew
        have hL3 := (HL3.out.alloc (.cells #[.bool true, .int .i64 x] 30)).drew
        have hcx : (wr.alloc (.cells #[.bool true, .int .i64 x] 30)).cell? ⟨wr.heap.size, 1, none⟩ = some (.int .i64 x) := by simp
        have HHL1 := Lib.hid hL1
        have HHL3 := Lib.hid hL3
        clear hL1 hL3
        go_region_held3 (fun w' => w'.cell? ⟨wr.heap.size, 1, none⟩ = some (.int .i64 x)) (first | go_keep | exact Keep.at HK1.out (by simp) (by have := HHL1.out.blt; simp at this; simp; have := HL1.out.blt; omega) (by have := HL1.out.clt; simp; omega) | exact Keep.at HK3.out (by assumption) (by have := HL3.out.blt; simp; omega) (by have := HL3.out.clt; simp; omega)) (first
          | (go_at_call 13; (with_reducible refine (put_plain (b := b1) x HHL1.out).mono ?_); rintro e w6 ⟨rfl, hp1, hk1⟩; have HP1 := Lib.hid hp1; have HK1 := Lib.hid hk1; clear hp1 hk1)
          | (go_at_call 13; (with_reducible refine (put_plain (b := b3) x (HHL3.out.keepS HK1.out.toS (by simp; omega) (by simp; omega))).mono ?_); rintro e w7 ⟨rfl, hp3, hk3⟩; have HP3 := Lib.hid hp3; have HK3 := Lib.hid hk3; clear hp3 hk3))
        obtain ⟨hN1, hN2, hN3, hNB, hNz⟩ := three_next HA.out ((HL2.out.alloc _).drew) (((HB.out.alloc hz (.cells #[.bool true, .int .i64 x] 30))).drew) (by simp; omega) HP1.out HK1.out HP3.out HK3.out
        obtain ⟨l', hl'⟩ : ∃ l', l' = (if l.length < 8 then l ++ [x] else l) := ⟨_, rfl⟩
        rw [← hl'] at hN1 hN3
        have hmm : ∃ made' : Int, made' = made ∧ 0 ≤ made' ∧ made' ≤ i + 1 := ⟨made, rfl, hm0, by omega⟩
        obtain ⟨made', hme, hm0', hm1'⟩ := hmm
        rw [← hme] at hN1 hN3
        clear hl' hme
        have HN1 := Lib.hid hN1
        have HN2 := Lib.hid hN2
        have HN3 := Lib.hid hN3
        have HNB := Lib.hid hNB
        clear hN1 hN2 hN3 hNB HP1 HP3 HK1 HK3 HHL1 HHL3 hcx h01 h02 h03 h04 h05 h06 h07 h08 h09 h10 h11 h12 h13 h14 HL1 HL2 HL3 HB hm0 hm1
        have hi0 : 0 ≤ (i : Int) := by omega
        by_cases h2 : i % 2 = 0
        · go_wp2_with fail
          refine (put_plain (b := b2) i HN2.out).mono ?_
          rintro e w8 ⟨rfl, hp2, hk2⟩
          have HP2 := Lib.hid hp2
          have HK2 := Lib.hid hk2
          clear hp2 hk2
          obtain ⟨hX1, hX2, hX3, hXB, hXz⟩ := three_mid HA.out HN1.out HN3.out HNB.out hNz HP2.out HK2.out
          have HX1 := Lib.hid hX1
          have HX2 := Lib.hid hX2
          have HX3 := Lib.hid hX3
          have HXB := Lib.hid hXB
          clear hX1 hX2 hX3 hXB HN1 HN2 HN3 HNB HP2 HK2 h2
          go_wp2_with fail
          refine (lenI_any HX1.out).mono ?_
          rintro e w9 ⟨rfl, rfl⟩
          go_wp2_with fail
          refine (lenI_any HX3.out).mono ?_
          rintro e w9 ⟨rfl, rfl⟩
          go_wp2_with fail
          refine (madeI_any HX1.out).mono ?_
          rintro e w9 ⟨rfl, rfl⟩
          go_wp2_with fail
          refine (madeI_any HX3.out).mono ?_
          rintro e w9 ⟨rfl, rfl⟩
          go_wp2_with fail
          go_roundw
          case rel => exact ⟨i + 1, by omega, by go_num, ⟨l', made', _, _, HX1.out, HX3.out, HX2.out, hm0', by omega, by omega, by omega⟩, HXB.out, hXz⟩
          case measure => simp [intOf]; omega
        · by_cases h3 : i % 3 = 0
          · go_wp2_with fail
            refine (get_plain (b := b2) HN2.out hm20 (by omega)).mono ?_
            rintro e w8 ⟨rfl, hp2, hk2⟩
            have HP2 := Lib.hid hp2
            have HK2 := Lib.hid hk2
            clear hp2 hk2 h3
            have hmq : 0 ≤ (if l2 = [] then made2 + 1 else made2) ∧ (if l2 = [] then made2 + 1 else made2) ≤ i + 1 := by split <;> omega
            obtain ⟨made2', hme2⟩ : ∃ made2', made2' = (if l2 = [] then made2 + 1 else made2) := ⟨_, rfl⟩
            rw [← hme2] at HP2 hmq
            clear hme2
            obtain ⟨hX1, hX2, hX3, hXB, hXz⟩ := three_mid HA.out HN1.out HN3.out HNB.out hNz HP2.out HK2.out
            have HX1 := Lib.hid hX1
            have HX2 := Lib.hid hX2
            have HX3 := Lib.hid hX3
            have HXB := Lib.hid hXB
            clear hX1 hX2 hX3 hXB HN1 HN2 HN3 HNB HP2 HK2 h2
            go_wp2_with fail
            refine (lenI_any HX1.out).mono ?_
            rintro e w9 ⟨rfl, rfl⟩
            go_wp2_with fail
            refine (lenI_any HX3.out).mono ?_
            rintro e w9 ⟨rfl, rfl⟩
            go_wp2_with fail
            refine (madeI_any HX1.out).mono ?_
            rintro e w9 ⟨rfl, rfl⟩
            go_wp2_with fail
            refine (madeI_any HX3.out).mono ?_
            rintro e w9 ⟨rfl, rfl⟩
            go_wp2_with fail
            go_roundw
            case rel => exact ⟨i + 1, by omega, by go_num, ⟨l', made', _, _, HX1.out, HX3.out, HX2.out, hm0', by omega, by omega, by omega⟩, HXB.out, hXz⟩
            case measure => simp [intOf]; omega
          · have HX1 := HN1
            have HX2 := HN2
            have HX3 := HN3
            have HXB := HNB
            have hXz := hNz
            clear HN1 HN2 HN3 HNB hNz
            go_wp2_with fail
            refine (lenI_any HX1.out).mono ?_
            rintro e w9 ⟨rfl, rfl⟩
            go_wp2_with fail
            refine (lenI_any HX3.out).mono ?_
            rintro e w9 ⟨rfl, rfl⟩
            go_wp2_with fail
            refine (madeI_any HX1.out).mono ?_
            rintro e w9 ⟨rfl, rfl⟩
            go_wp2_with fail
            refine (madeI_any HX3.out).mono ?_
            rintro e w9 ⟨rfl, rfl⟩
            go_wp2_with fail
            go_roundw
            case rel => exact ⟨i + 1, by omega, by go_num, ⟨l', made', _, _, HX1.out, HX3.out, HX2.out, hm0', by omega, by omega, by omega⟩, HXB.out, hXz⟩
            case measure => simp [intOf]; omega
    · obtain rfl : i = n := by omega
      clear hin hi
      go_wp2_with fail
      refine (lives_any _).mono ?_
      rintro e w7 ⟨rfl, hB7⟩
      have H7 := Lib.hid (HB.out.trans (hB7.mono hz))
      clear hB7
      go_wp2_with fail
      go_ret
      exact ⟨rfl, H7.out⟩
end Go.Proofs.Ytdhbnldigbjkkaa
