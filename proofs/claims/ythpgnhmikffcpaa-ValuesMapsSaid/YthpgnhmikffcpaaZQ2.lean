/- The reference's number: the 64 bits of a whole number. Condition: the kind of a whole number. -/
import Derived.Test.YthpgnhmikffcpaaZQ6
import Derived.Test.YthpgnhmikffcpaaZR0
import Derived.Test.YthpgnhmikffcpaaZM3
namespace Go.Proofs.Ythpgnhmikffcpaa
set_option linter.unusedVariables false
set_option linter.unusedSimpArgs false
open Go.RowKit

def numK (k x : Int) : Int := if k ≤ 6 then u64of (sgnN (widthK k) x) else unsN (widthK k) x
theorem wrap_neg (x : Int) (h0 : -18446744073709551616 ≤ x) (h1 : x < 0) : IntKind.u64.wrap x = x + 18446744073709551616 := by
  show x % (2 ^ 64) = _
  omega
theorem ret_u64' {a b : Int} (h : a = b) : Ending.returned (.int .u64 a) = .returned (.int .u64 b) := by rw [h]
theorem number_2 (x : Int) (hx : U64 x) (w : World) : Calls Try.prog 62 #[.int .i64 2, .int .u64 x] w fun e w' => e = .returned (.int .u64 (numK 2 x)) ∧ w = w' := by
  obtain ⟨h0, h1⟩ := hx
  by_cases hc : 128 ≤ x % 256
  · have HQ : Hid (x % 256 - 256 + 18446744073709551616 = numK 2 x) := by show _ = _; simp only [numK, u64of, sgnN, unsN, widthK, modN]; simp; omega
    go_enter Try.func62, Try.ntmps62
    go_wp2_with fail
    refine (bits_any 2 (by omega) (by omega) _).mono ?_
    rintro e w1 ⟨rfl, rfl⟩
    rw [show widthK 2 = 8 from rfl]
    go_wp2_with fail
    refine (signed_any 2 _).mono ?_
    rintro e w1 ⟨rfl, rfl⟩
    rw [show inB 2 6 2 = true from rfl]
    go_wp2_with fail
    go_ret
    refine ⟨ret_u64' ?_, rfl⟩
    rw [← HQ.out]
    exact wrap_neg _ (by omega) (by omega)
  · have HQ : Hid (x % 256 = numK 2 x) := by show _ = _; simp only [numK, u64of, sgnN, unsN, widthK, modN]; simp; omega
    go_enter Try.func62, Try.ntmps62
    go_wp2_with fail
    refine (bits_any 2 (by omega) (by omega) _).mono ?_
    rintro e w1 ⟨rfl, rfl⟩
    rw [show widthK 2 = 8 from rfl]
    go_wp2_with fail
    refine (signed_any 2 _).mono ?_
    rintro e w1 ⟨rfl, rfl⟩
    rw [show inB 2 6 2 = true from rfl]
    go_wp2_with fail
    go_ret
    exact ⟨ret_u64' HQ.out, rfl⟩
theorem number_3 (x : Int) (hx : U64 x) (w : World) : Calls Try.prog 62 #[.int .i64 3, .int .u64 x] w fun e w' => e = .returned (.int .u64 (numK 3 x)) ∧ w = w' := by
  obtain ⟨h0, h1⟩ := hx
  by_cases hc : 32768 ≤ x % 65536
  · have HQ : Hid (x % 65536 - 65536 + 18446744073709551616 = numK 3 x) := by show _ = _; simp only [numK, u64of, sgnN, unsN, widthK, modN]; simp; omega
    go_enter Try.func62, Try.ntmps62
    go_wp2_with fail
    refine (bits_any 3 (by omega) (by omega) _).mono ?_
    rintro e w1 ⟨rfl, rfl⟩
    rw [show widthK 3 = 16 from rfl]
    go_wp2_with fail
    refine (signed_any 3 _).mono ?_
    rintro e w1 ⟨rfl, rfl⟩
    rw [show inB 2 6 3 = true from rfl]
    go_wp2_with fail
    go_ret
    refine ⟨ret_u64' ?_, rfl⟩
    rw [← HQ.out]
    exact wrap_neg _ (by omega) (by omega)
  · have HQ : Hid (x % 65536 = numK 3 x) := by show _ = _; simp only [numK, u64of, sgnN, unsN, widthK, modN]; simp; omega
    go_enter Try.func62, Try.ntmps62
    go_wp2_with fail
    refine (bits_any 3 (by omega) (by omega) _).mono ?_
    rintro e w1 ⟨rfl, rfl⟩
    rw [show widthK 3 = 16 from rfl]
    go_wp2_with fail
    refine (signed_any 3 _).mono ?_
    rintro e w1 ⟨rfl, rfl⟩
    rw [show inB 2 6 3 = true from rfl]
    go_wp2_with fail
    go_ret
    exact ⟨ret_u64' HQ.out, rfl⟩
theorem number_4 (x : Int) (hx : U64 x) (w : World) : Calls Try.prog 62 #[.int .i64 4, .int .u64 x] w fun e w' => e = .returned (.int .u64 (numK 4 x)) ∧ w = w' := by
  obtain ⟨h0, h1⟩ := hx
  by_cases hc : 2147483648 ≤ x % 4294967296
  · have HQ : Hid (x % 4294967296 - 4294967296 + 18446744073709551616 = numK 4 x) := by show _ = _; simp only [numK, u64of, sgnN, unsN, widthK, modN]; simp; omega
    go_enter Try.func62, Try.ntmps62
    go_wp2_with fail
    refine (bits_any 4 (by omega) (by omega) _).mono ?_
    rintro e w1 ⟨rfl, rfl⟩
    rw [show widthK 4 = 32 from rfl]
    go_wp2_with fail
    refine (signed_any 4 _).mono ?_
    rintro e w1 ⟨rfl, rfl⟩
    rw [show inB 2 6 4 = true from rfl]
    go_wp2_with fail
    go_ret
    refine ⟨ret_u64' ?_, rfl⟩
    rw [← HQ.out]
    exact wrap_neg _ (by omega) (by omega)
  · have HQ : Hid (x % 4294967296 = numK 4 x) := by show _ = _; simp only [numK, u64of, sgnN, unsN, widthK, modN]; simp; omega
    go_enter Try.func62, Try.ntmps62
    go_wp2_with fail
    refine (bits_any 4 (by omega) (by omega) _).mono ?_
    rintro e w1 ⟨rfl, rfl⟩
    rw [show widthK 4 = 32 from rfl]
    go_wp2_with fail
    refine (signed_any 4 _).mono ?_
    rintro e w1 ⟨rfl, rfl⟩
    rw [show inB 2 6 4 = true from rfl]
    go_wp2_with fail
    go_ret
    exact ⟨ret_u64' HQ.out, rfl⟩
theorem number_5 (x : Int) (hx : U64 x) (w : World) : Calls Try.prog 62 #[.int .i64 5, .int .u64 x] w fun e w' => e = .returned (.int .u64 (numK 5 x)) ∧ w = w' := by
  obtain ⟨h0, h1⟩ := hx
  have HQ : Hid (x = numK 5 x) := by show _ = _; simp only [numK, u64of, sgnN, unsN, widthK, modN]; simp; omega
  go_enter Try.func62, Try.ntmps62
  go_wp2_with fail
  refine (bits_any 5 (by omega) (by omega) _).mono ?_
  rintro e w1 ⟨rfl, rfl⟩
  rw [show widthK 5 = 64 from rfl]
  go_wp2_with fail
  go_ret
  exact ⟨ret_u64' HQ.out, rfl⟩
theorem number_6 (x : Int) (hx : U64 x) (w : World) : Calls Try.prog 62 #[.int .i64 6, .int .u64 x] w fun e w' => e = .returned (.int .u64 (numK 6 x)) ∧ w = w' := by
  obtain ⟨h0, h1⟩ := hx
  have HQ : Hid (x = numK 6 x) := by show _ = _; simp only [numK, u64of, sgnN, unsN, widthK, modN]; simp; omega
  go_enter Try.func62, Try.ntmps62
  go_wp2_with fail
  refine (bits_any 6 (by omega) (by omega) _).mono ?_
  rintro e w1 ⟨rfl, rfl⟩
  rw [show widthK 6 = 64 from rfl]
  go_wp2_with fail
  go_ret
  exact ⟨ret_u64' HQ.out, rfl⟩
theorem number_7 (x : Int) (hx : U64 x) (w : World) : Calls Try.prog 62 #[.int .i64 7, .int .u64 x] w fun e w' => e = .returned (.int .u64 (numK 7 x)) ∧ w = w' := by
  obtain ⟨h0, h1⟩ := hx
  have HQ : Hid (x % 256 = numK 7 x) := by show _ = _; simp only [numK, u64of, sgnN, unsN, widthK, modN]; simp
  go_enter Try.func62, Try.ntmps62
  go_wp2_with fail
  refine (bits_any 7 (by omega) (by omega) _).mono ?_
  rintro e w1 ⟨rfl, rfl⟩
  rw [show widthK 7 = 8 from rfl]
  go_wp2_with fail
  refine (signed_any 7 _).mono ?_
  rintro e w1 ⟨rfl, rfl⟩
  rw [show inB 2 6 7 = false from rfl]
  go_wp2_with fail
  go_ret
  exact ⟨ret_u64' HQ.out, rfl⟩
theorem number_8 (x : Int) (hx : U64 x) (w : World) : Calls Try.prog 62 #[.int .i64 8, .int .u64 x] w fun e w' => e = .returned (.int .u64 (numK 8 x)) ∧ w = w' := by
  obtain ⟨h0, h1⟩ := hx
  have HQ : Hid (x % 65536 = numK 8 x) := by show _ = _; simp only [numK, u64of, sgnN, unsN, widthK, modN]; simp
  go_enter Try.func62, Try.ntmps62
  go_wp2_with fail
  refine (bits_any 8 (by omega) (by omega) _).mono ?_
  rintro e w1 ⟨rfl, rfl⟩
  rw [show widthK 8 = 16 from rfl]
  go_wp2_with fail
  refine (signed_any 8 _).mono ?_
  rintro e w1 ⟨rfl, rfl⟩
  rw [show inB 2 6 8 = false from rfl]
  go_wp2_with fail
  go_ret
  exact ⟨ret_u64' HQ.out, rfl⟩
theorem number_9 (x : Int) (hx : U64 x) (w : World) : Calls Try.prog 62 #[.int .i64 9, .int .u64 x] w fun e w' => e = .returned (.int .u64 (numK 9 x)) ∧ w = w' := by
  obtain ⟨h0, h1⟩ := hx
  have HQ : Hid (x % 4294967296 = numK 9 x) := by show _ = _; simp only [numK, u64of, sgnN, unsN, widthK, modN]; simp
  go_enter Try.func62, Try.ntmps62
  go_wp2_with fail
  refine (bits_any 9 (by omega) (by omega) _).mono ?_
  rintro e w1 ⟨rfl, rfl⟩
  rw [show widthK 9 = 32 from rfl]
  go_wp2_with fail
  refine (signed_any 9 _).mono ?_
  rintro e w1 ⟨rfl, rfl⟩
  rw [show inB 2 6 9 = false from rfl]
  go_wp2_with fail
  go_ret
  exact ⟨ret_u64' HQ.out, rfl⟩
theorem number_10 (x : Int) (hx : U64 x) (w : World) : Calls Try.prog 62 #[.int .i64 10, .int .u64 x] w fun e w' => e = .returned (.int .u64 (numK 10 x)) ∧ w = w' := by
  obtain ⟨h0, h1⟩ := hx
  have HQ : Hid (x = numK 10 x) := by show _ = _; simp only [numK, u64of, sgnN, unsN, widthK, modN]; simp; omega
  go_enter Try.func62, Try.ntmps62
  go_wp2_with fail
  refine (bits_any 10 (by omega) (by omega) _).mono ?_
  rintro e w1 ⟨rfl, rfl⟩
  rw [show widthK 10 = 64 from rfl]
  go_wp2_with fail
  go_ret
  exact ⟨ret_u64' HQ.out, rfl⟩
theorem number_11 (x : Int) (hx : U64 x) (w : World) : Calls Try.prog 62 #[.int .i64 11, .int .u64 x] w fun e w' => e = .returned (.int .u64 (numK 11 x)) ∧ w = w' := by
  obtain ⟨h0, h1⟩ := hx
  have HQ : Hid (x = numK 11 x) := by show _ = _; simp only [numK, u64of, sgnN, unsN, widthK, modN]; simp; omega
  go_enter Try.func62, Try.ntmps62
  go_wp2_with fail
  refine (bits_any 11 (by omega) (by omega) _).mono ?_
  rintro e w1 ⟨rfl, rfl⟩
  rw [show widthK 11 = 64 from rfl]
  go_wp2_with fail
  go_ret
  exact ⟨ret_u64' HQ.out, rfl⟩
theorem number_any (k : Int) (h0 : 2 ≤ k) (h1 : k ≤ 11) (x : Int) (hx : U64 x) (w : World) : Calls Try.prog 62 #[.int .i64 k, .int .u64 x] w fun e w' => e = .returned (.int .u64 (numK k x)) ∧ w = w' := by
  have hk : k = 2 ∨ k = 3 ∨ k = 4 ∨ k = 5 ∨ k = 6 ∨ k = 7 ∨ k = 8 ∨ k = 9 ∨ k = 10 ∨ k = 11 := by omega
  rcases hk with rfl | rfl | rfl | rfl | rfl | rfl | rfl | rfl | rfl | rfl
  · exact number_2 x hx w
  · exact number_3 x hx w
  · exact number_4 x hx w
  · exact number_5 x hx w
  · exact number_6 x hx w
  · exact number_7 x hx w
  · exact number_8 x hx w
  · exact number_9 x hx w
  · exact number_10 x hx w
  · exact number_11 x hx w
end Go.Proofs.Ythpgnhmikffcpaa
