/- FreeOrders, walked: it returns true and leaves what was there alone. Condition: the slice's cells hold texts. -/
import Derived.Test.YtdhbnldigbjkkaaLives
namespace Go.Proofs.Ytdhbnldigbjkkaa
open Go.RowKit Go.Conc

theorem more21 (w : World) : Calls Try.prog 21 #[] w fun e w' => e = .returned (.string ⟨#[110, 101, 119]⟩) ∧ w = w' := by
  go_enter Try.func21, Try.ntmps21
  go_wp2
  go_ret
  exact ⟨rfl, rfl⟩

theorem get_new {w : World} {b c n : Nat} (h : Lie 47 w b c n #[] (.func (.func 21) #[] #[]) 0) :
    Calls Try.prog 24 #[.pointer (some ⟨b, 0, none⟩)] w fun e w' => e = .returned (.string ⟨#[110, 101, 119]⟩) ∧ Lie 47 w' b c n #[] (.func (.func 21) #[] #[]) 1 ∧ Keep b c w w' := by
  refine getS_none h (by omega) (by omega) (fun W => cf21 _ _) (fun w1 h1 h2 => (more21 w1).mono ?_)
  rintro e w' ⟨rfl, rfl⟩
  exact ⟨_, rfl, rfl, h1, h2⟩

def strs (ss : Nat → ByteArray) (k n : Nat) : Array Value := ((List.range' k (n - k)).map fun j => Value.string (ss j)).toArray
theorem strs_size (ss : Nat → ByteArray) (k n : Nat) : (strs ss k n).size = n - k := by simp [strs]
theorem strs_push (ss : Nat → ByteArray) (n : Nat) : (strs ss 0 n).push (.string (ss n)) = strs ss 0 (n + 1) := by
  simp [strs, List.range'_1_concat]
theorem strs_nil (ss : Nat → ByteArray) (n : Nat) : strs ss n n = #[] := by simp [strs]
theorem strs_head (ss : Nat → ByteArray) (k n : Nat) (h : k < n) : (strs ss k n).getD 0 undef = .string (ss k) ∧ (strs ss k n).extract 1 (strs ss k n).size = strs ss (k + 1) n := by
  obtain ⟨m, rfl⟩ : ∃ m, n = k + (m + 1) := ⟨n - k - 1, by omega⟩
  constructor
  · simp [strs, show k + (m + 1) - k = m + 1 from by omega, List.range'_succ]
  · rw [strs_size]
    simp [strs, List.take_of_length_le, show k + (m + 1) - k = m + 1 from by omega, show k + (m + 1) - (k + 1) = m from by omega, List.range'_succ]

def OrdRel (B b c n i j : Nat) (ss : Nat → ByteArray) (w0 w : World) : Prop :=
  Lie 47 w b c n (strs ss i j) (.func (.func 21) #[] #[]) 0 ∧ Below B w0 w ∧ B ≤ w.heap.size

/-- The second half of FreeOrders. -/
theorem below_cell {w w1 : World} (hb : Below w.heap.size w w1) {a : Addr} {v : Value} (h : w.cell? a = some v) : w1.cell? a = some v := by
  have hlt : a.block < w.heap.size := by
    rcases Nat.lt_or_ge a.block w.heap.size with h1 | h1
    · exact h1
    · simp [World.cell?, Array.getElem?_eq_none h1] at h
  rw [hb.cell hlt]; exact h

set_option maxHeartbeats 2000000 in
theorem orders_long (A off len cap : Nat) (ss : Nat → ByteArray) (w : World) (hcell : ∀ i, i < 64 → w.cell? ⟨A, off + i, none⟩ = some (.string (ss i))) (hlen : len ≤ 9223372036854775807) (hcap : len ≤ cap) (hl : 64 < len) :
    Calls Try.prog 4 #[.slice (some ⟨A, off, none⟩) len cap] w fun e w' => e = .returned (.bool true) ∧ Below w.heap.size w w' := by
    have HC := Lib.hid hcell
    clear hcell
    have hroom : room 64 = 64 := by unfold room; omega
    have HR := Lib.hid hroom
    clear hroom
    have hl2 : (64 : Int) < (len : Int) := by omega
    have hl3 : (64 : Int) ≤ (cap : Int) := by omega
    go_enter Try.func4, Try.ntmps4
    go_wp2_with fail
    refine (newS_any _ (.func (.func 21) #[] #[]) _ (.inr ⟨21, _, rfl, rfl⟩) w).mono ?_
    rintro e w1 ⟨b, c, rfl, hl, hb1, hc1, hb2, hc2, hB1⟩
    rw [HR.out] at hl
    have H0 : OrdRel w.heap.size b c 64 0 0 ss w w1 := ⟨by rw [strs_nil]; exact hl, hB1, hB1.size⟩
    clear hl hB1 hb2 hc2
    go_wp2_with fail
    go_loopw [4, 5, 20] (fun _ _ k w1 => ∃ i : Nat, i ≤ 64 ∧ k = .int .i64 i ∧ OrdRel w.heap.size b c 64 0 i ss w w1) (fun _ _ k _ => 64 - (intOf k).toNat)
    case atStart => exact ⟨0, by omega, rfl, H0⟩
    case round =>
      obtain ⟨i, hi, rfl, hl, hB, hz⟩ := hrel
      have HB := Lib.hid hB
      have HL := Lib.hid hl
      clear hB hl H0
      by_cases hin : i < 64
      · have hci : wr.cell? ⟨A, off + i, none⟩ = some (.string (ss i)) := below_cell HB.out (HC.out i hin)
        go_wp2_with fail
        refine (putS_room (ss i) HL.out (by rw [strs_size]; omega)).mono ?_
        rintro e w3 ⟨rfl, hl3, hk3⟩
        rw [strs_push] at hl3
        have h3 : Hid (OrdRel w.heap.size b c 64 0 (i + 1) ss w w3) := ⟨hl3, hk3.toS.below HB.out (by simp; omega) hz, Nat.le_trans hz hk3.size⟩
        clear hl3 hk3 hci
        go_wp2_with fail
        refine (lenS_any h3.out.1).mono ?_
        rw [strs_size]
        rintro e w4 ⟨rfl, rfl⟩
        have hii : ((i + 1 - 0 : Nat) : Int) = (i : Int) + 1 := by omega
        rw [hii]
        clear hii
        go_wp2_with fail
        go_roundw
        case rel => exact ⟨i + 1, by omega, by go_num, h3.out⟩
        case measure => simp [intOf]; omega
      · obtain rfl : 64 = i := by omega
        clear hin hi
        go_wp2_with fail
        refine (putS_full _ HL.out (by rw [strs_size]; omega)).mono ?_
        rintro e w3 ⟨rfl, rfl⟩
        have H0 : OrdRel w.heap.size b c 64 0 64 ss w wr := ⟨HL.out, HB.out, hz⟩
        clear HL HB
        go_wp2_with fail
        go_loopw [7, 41] (fun _ k w1 => ∃ i : Nat, i ≤ 64 ∧ k = .int .i64 i ∧ OrdRel w.heap.size b c 64 i 64 ss w w1) (fun _ k _ => 64 - (intOf k).toNat)
        case atStart => exact ⟨0, by omega, rfl, H0⟩
        case round =>
          clear H0 hz
          obtain ⟨i, hi, rfl, hl, hB, hz⟩ := hrel
          have HB := Lib.hid hB
          have HL := Lib.hid hl
          clear hB hl
          by_cases hin : i < 64
          · have hci := below_cell HB.out (HC.out i hin)
            go_wp2_with fail
            refine (getS_some (x := .string (ss i)) HL.out (by rw [strs_size]; omega) (strs_head ss i 64 hin).1).mono ?_
            rintro e w3 ⟨rfl, hl3, hk3⟩
            rw [(strs_head ss i 64 hin).2] at hl3
            have h3 : Hid (OrdRel w.heap.size b c 64 (i + 1) 64 ss w w3) := ⟨hl3, hk3.toS.below HB.out (by simp; omega) hz, Nat.le_trans hz hk3.size⟩
            clear hl3 hk3 hci
            go_wp2_with fail
            go_roundw
            case rel => exact ⟨i + 1, by omega, by go_num, h3.out⟩
            case measure => simp [intOf]; omega
          · have hl := HL.out
            obtain rfl : 64 = i := by omega
            rw [strs_nil] at hl
            have HL' := Lib.hid hl
            clear hin hi hl HL
            go_wp2_with fail
            refine (get_new HL'.out).mono ?_
            rintro e w4 ⟨rfl, hl, hk⟩
            have HB4 := Lib.hid (hk.toS.below HB.out (by simp; omega) hz)
            have hz4 := Nat.le_trans hz hk.size
            have HL4 := Lib.hid hl
            clear hl hk HB HL'
            go_wp2_with fail
            refine (madeS_any HL4.out).mono ?_
            rintro e w5 ⟨rfl, rfl⟩
            go_wp2_with fail
            refine (lenS_any HL4.out).mono ?_
            rintro e w5 ⟨rfl, rfl⟩
            go_wp2_with fail
            refine (lives_any _).mono ?_
            rintro e w7 ⟨rfl, hB7⟩
            have H7 := Lib.hid (HB4.out.trans (hB7.mono hz4))
            clear hB7
            go_wp2_with fail
            go_ret
            exact ⟨rfl, H7.out⟩

set_option maxHeartbeats 2000000 in
theorem orders_short (a : Option Addr) (A off len cap : Nat) (ss : Nat → ByteArray) (w : World) (ha : 0 < len → a = some ⟨A, off, none⟩) (hcell : ∀ i, i < len → w.cell? ⟨A, off + i, none⟩ = some (.string (ss i))) (hlen : len ≤ 9223372036854775807) (hl : len ≤ 64) :
    Calls Try.prog 4 #[.slice a len cap] w fun e w' => e = .returned (.bool true) ∧ Below w.heap.size w w' := by
    have HC := Lib.hid hcell
    have HAA := Lib.hid ha
    clear hcell ha
    have hroom : room len = len := by unfold room; omega
    have HR := Lib.hid hroom
    clear hroom
    have hl2 : ¬ (64 : Int) < (len : Int) := by omega
    go_enter Try.func4, Try.ntmps4
    go_wp2_with fail
    refine (newS_any _ (.func (.func 21) #[] #[]) _ (.inr ⟨21, _, rfl, rfl⟩) w).mono ?_
    rintro e w1 ⟨b, c, rfl, hl, hb1, hc1, hb2, hc2, hB1⟩
    rw [HR.out] at hl
    have H0 : OrdRel w.heap.size b c len 0 0 ss w w1 := ⟨by rw [strs_nil]; exact hl, hB1, hB1.size⟩
    clear hl hB1 hb2 hc2
    go_wp2_with fail
    go_loopw [4, 5, 20] (fun _ _ k w1 => ∃ i : Nat, i ≤ len ∧ k = .int .i64 i ∧ OrdRel w.heap.size b c len 0 i ss w w1) (fun _ _ k _ => len - (intOf k).toNat)
    case atStart => exact ⟨0, by omega, rfl, H0⟩
    case round =>
      obtain ⟨i, hi, rfl, hl, hB, hz⟩ := hrel
      have HB := Lib.hid hB
      have HL := Lib.hid hl
      clear hB hl H0
      by_cases hin : i < len
      · obtain rfl := HAA.out (by omega)
        have hci : wr.cell? ⟨A, off + i, none⟩ = some (.string (ss i)) := below_cell HB.out (HC.out i hin)
        go_wp2_with fail
        refine (putS_room (ss i) HL.out (by rw [strs_size]; omega)).mono ?_
        rintro e w3 ⟨rfl, hl3, hk3⟩
        rw [strs_push] at hl3
        have h3 : Hid (OrdRel w.heap.size b c len 0 (i + 1) ss w w3) := ⟨hl3, hk3.toS.below HB.out (by simp; omega) hz, Nat.le_trans hz hk3.size⟩
        clear hl3 hk3 hci
        go_wp2_with fail
        refine (lenS_any h3.out.1).mono ?_
        rw [strs_size]
        rintro e w4 ⟨rfl, rfl⟩
        have hii : ((i + 1 - 0 : Nat) : Int) = (i : Int) + 1 := by omega
        rw [hii]
        clear hii
        go_wp2_with fail
        go_roundw
        case rel => exact ⟨i + 1, by omega, by go_num, h3.out⟩
        case measure => simp [intOf]; omega
      · obtain rfl : len = i := by omega
        clear hin hi
        go_wp2_with fail
        refine (putS_full _ HL.out (by rw [strs_size]; omega)).mono ?_
        rintro e w3 ⟨rfl, rfl⟩
        have H0 : OrdRel w.heap.size b c len 0 len ss w wr := ⟨HL.out, HB.out, hz⟩
        clear HL HB
        go_wp2_with fail
        go_loopw [7, 41] (fun _ k w1 => ∃ i : Nat, i ≤ len ∧ k = .int .i64 i ∧ OrdRel w.heap.size b c len i len ss w w1) (fun _ k _ => len - (intOf k).toNat)
        case atStart => exact ⟨0, by omega, rfl, H0⟩
        case round =>
          clear H0 hz
          obtain ⟨i, hi, rfl, hl, hB, hz⟩ := hrel
          have HB := Lib.hid hB
          have HL := Lib.hid hl
          clear hB hl
          by_cases hin : i < len
          · obtain rfl := HAA.out (by omega)
            have hci := below_cell HB.out (HC.out i hin)
            go_wp2_with fail
            refine (getS_some (x := .string (ss i)) HL.out (by rw [strs_size]; omega) (strs_head ss i len hin).1).mono ?_
            rintro e w3 ⟨rfl, hl3, hk3⟩
            rw [(strs_head ss i len hin).2] at hl3
            have h3 : Hid (OrdRel w.heap.size b c len (i + 1) len ss w w3) := ⟨hl3, hk3.toS.below HB.out (by simp; omega) hz, Nat.le_trans hz hk3.size⟩
            clear hl3 hk3 hci
            go_wp2_with fail
            go_roundw
            case rel => exact ⟨i + 1, by omega, by go_num, h3.out⟩
            case measure => simp [intOf]; omega
          · have hl := HL.out
            obtain rfl : len = i := by omega
            rw [strs_nil] at hl
            have HL' := Lib.hid hl
            clear hin hi hl HL
            go_wp2_with fail
            refine (get_new HL'.out).mono ?_
            rintro e w4 ⟨rfl, hl, hk⟩
            have HB4 := Lib.hid (hk.toS.below HB.out (by simp; omega) hz)
            have hz4 := Nat.le_trans hz hk.size
            have HL4 := Lib.hid hl
            clear hl hk HB HL'
            go_wp2_with fail
            refine (madeS_any HL4.out).mono ?_
            rintro e w5 ⟨rfl, rfl⟩
            go_wp2_with fail
            refine (lenS_any HL4.out).mono ?_
            rintro e w5 ⟨rfl, rfl⟩
            go_wp2_with fail
            refine (lives_any _).mono ?_
            rintro e w7 ⟨rfl, hB7⟩
            have H7 := Lib.hid (HB4.out.trans (hB7.mono hz4))
            clear hB7
            go_wp2_with fail
            go_ret
            exact ⟨rfl, H7.out⟩
end Go.Proofs.Ytdhbnldigbjkkaa
