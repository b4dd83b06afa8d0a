/- FreeFull, walked: it returns true and leaves what was there alone. No condition. -/
import Derived.Test.YtdhbnldigbjkkaaLives
namespace Go.Proofs.Ytdhbnldigbjkkaa
open Go.RowKit Go.Conc

/-- What the loop of FreeFull keeps. -/
def FullRel (B b c cap : Nat) (k : Nat) (w0 w : World) : Prop :=
  (∃ buf : Array Value, buf.size = k ∧ Lie 58 w b c cap buf (.func (.func 30) #[] #[]) 0) ∧ Below B w0 w ∧ B ≤ w.heap.size

set_option maxHeartbeats 1000000 in
theorem full_any (n : Int) (w : World) : Calls Try.prog 5 #[.int .i64 n] w fun e w' => e = .returned (.bool true) ∧ Below w.heap.size w w' := by
  go_enter Try.func5, Try.ntmps5
  go_wp2_with fail
  refine (newI_any n .nilFunc _ (.inl ⟨rfl, rfl⟩) w).mono ?_
  rintro e w1 ⟨b, c, rfl, hl, hb1, hc1, hb2, hc2, hB1⟩
  obtain ⟨m, hm⟩ : ∃ m, m = room n := ⟨_, rfl⟩
  have hm64 : m ≤ 64 := by rw [hm]; unfold room; omega
  have HC : Hid ((64 < n ∧ m = 64) ∨ (n = m ∧ 0 < m) ∨ (n ≤ 0 ∧ m = 0)) := by show _ ∨ _; rw [hm]; unfold room; omega
  rw [← hm] at hl
  have H0 : FullRel w.heap.size b c m 0 w w1 := ⟨⟨#[], rfl, hl⟩, hB1, hB1.size⟩
  clear hm hl hB1 hb2 hc2
  go_wp2_with fail
  go_loopw [4] (fun k w1 => ∃ i : Nat, i ≤ m ∧ k = .int .i64 i ∧ FullRel w.heap.size b c m i w w1) (fun k _ => m - (intOf k).toNat)
  case atStart => exact ⟨0, by omega, rfl, H0⟩
  case round =>
    obtain ⟨i, hi, rfl, ⟨buf, hbuf, hl⟩, hB, hz⟩ := hrel
    have hlt100 : decide ((i : Int) < 100) = true := by simp; omega
    have HB := Lib.hid hB
    have HL := Lib.hid hl
    clear hB hl
    by_cases him : i < m
    · go_wp2_with fail
      refine (putI_room (i : Int) HL.out (by omega)).mono ?_
      rintro e w3 ⟨rfl, hl3, hk3⟩
      have hz3 := Nat.le_trans hz hk3.size
      have H3 : FullRel w.heap.size b c m (i + 1) w w3 := ⟨⟨_, by simp [hbuf], hl3⟩, hk3.toS.below HB.out (by simp; omega) hz, hz3⟩
      clear hl3 hk3
      have h3 := Lib.hid H3
      clear H3
      go_wp2_with fail
      go_roundw
      case rel => exact ⟨i + 1, by omega, by go_num, h3.out⟩
      case measure => simp [intOf]; omega
    · have hbm : buf.size = m := by omega
      obtain rfl : i = m := by omega
      have HBM := Lib.hid hbm
      clear hbm hbuf
      go_wp2_with fail
      refine (putI_full (i : Int) HL.out (by have := HBM.out; omega)).mono ?_
      rintro e w3 ⟨rfl, rfl⟩
      have hl := HL.out
      have hb := HBM.out
      clear HL HBM H0 him hi
      rcases HC.out with ⟨h1, h2⟩ | ⟨h1, h2⟩ | ⟨h1, h2⟩
      · subst h2
        rw [show ((64 : Nat) : Int) = 64 from rfl]
        have HL := Lib.hid hl
        have HBM := Lib.hid hb
        clear hl hb HC hm64
        go_wp2_with fail
        refine (lenI_any HL.out).mono ?_
        rw [HBM.out]
        rintro e w4 ⟨rfl, rfl⟩
        go_wp2_with fail
        refine (madeI_any HL.out).mono ?_
        rintro e w5 ⟨rfl, rfl⟩
        go_wp2_with fail
        refine (lives_any _).mono ?_
        rintro e w6 ⟨rfl, hB6⟩
        have H6 := Lib.hid (HB.out.trans (hB6.mono hz))
        clear hB6
        go_wp2_with fail
        go_ret
        exact ⟨rfl, H6.out⟩
      · subst h1
        have HL := Lib.hid hl
        have HBM := Lib.hid hb
        clear hl hb HC
        go_wp2_with fail
        refine (lenI_any HL.out).mono ?_
        rw [HBM.out]
        rintro e w4 ⟨rfl, rfl⟩
        go_wp2_with fail
        refine (madeI_any HL.out).mono ?_
        rintro e w5 ⟨rfl, rfl⟩
        go_wp2_with fail
        refine (lives_any _).mono ?_
        rintro e w6 ⟨rfl, hB6⟩
        have H6 := Lib.hid (HB.out.trans (hB6.mono hz))
        clear hB6
        go_wp2_with fail
        go_ret
        exact ⟨rfl, H6.out⟩
      · subst h2
        rw [show ((0 : Nat) : Int) = 0 from rfl]
        have HL := Lib.hid hl
        have HBM := Lib.hid hb
        clear hl hb HC hm64
        go_wp2_with fail
        refine (lenI_any HL.out).mono ?_
        rw [HBM.out]
        rintro e w4 ⟨rfl, rfl⟩
        go_wp2_with fail
        refine (madeI_any HL.out).mono ?_
        rintro e w5 ⟨rfl, rfl⟩
        go_wp2_with fail
        refine (lives_any _).mono ?_
        rintro e w6 ⟨rfl, hB6⟩
        have H6 := Lib.hid (HB.out.trans (hB6.mono hz))
        clear hB6
        go_wp2_with fail
        go_ret
        exact ⟨rfl, H6.out⟩
end Go.Proofs.Ytdhbnldigbjkkaa
