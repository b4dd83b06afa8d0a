/- Numbers' bits: the functions width and low. Condition: a whole number's kind; 32 or 64 bits. -/
import Derived.Test.YthpgnhmikffcpaaE
namespace Go.Proofs.Ythpgnhmikffcpaa
set_option linter.unusedVariables false
open Go.RowKit

/-- How many bits a whole number has. -/
def widthK (k : Int) : Int := if k = 2 ∨ k = 7 then 8 else if k = 3 ∨ k = 8 then 16 else if k = 4 ∨ k = 9 then 32 else 64
theorem width_at (j : Int) (n : Int) (h : (j = 0 ∧ n = 8) ∨ (j = 1 ∧ n = 16) ∨ (j = 2 ∧ n = 32) ∨ (j = 3 ∧ n = 64) ∨ (j = 4 ∧ n = 64)) (w : World) :
    (Instr.index 121 (.agg #[.int .i64 8, .int .i64 16, .int .i64 32, .int .i64 64, .int .i64 64]) (.int .i64 j)).run Try.prog w = .ok (.int .i64 n) w := by
  rcases h with ⟨rfl, rfl⟩ | ⟨rfl, rfl⟩ | ⟨rfl, rfl⟩ | ⟨rfl, rfl⟩ | ⟨rfl, rfl⟩ <;> kernel_rfl
theorem width_any (k : Int) (h0 : 2 ≤ k) (h1 : k ≤ 11) (w : World) : Calls Try.prog 56 #[.int .i64 k] w fun e w' => e = .returned (.int .i64 (widthK k)) ∧ w = w' := by
  have hk : k = 2 ∨ k = 3 ∨ k = 4 ∨ k = 5 ∨ k = 6 ∨ k = 7 ∨ k = 8 ∨ k = 9 ∨ k = 10 ∨ k = 11 := by omega
  have e0 := fun w => width_at 0 8 (by omega) w
  have e1 := fun w => width_at 1 16 (by omega) w
  have e2 := fun w => width_at 2 32 (by omega) w
  have e3 := fun w => width_at 3 64 (by omega) w
  have e4 := fun w => width_at 4 64 (by omega) w
  clear h0 h1
  rcases hk with rfl | rfl | rfl | rfl | rfl | rfl | rfl | rfl | rfl | rfl
  all_goals
    go_enter Try.func56, Try.ntmps56
    go_wp2
    go_ret
    exact ⟨rfl, rfl⟩
theorem wrap_u64 (x : Int) (h : U64 x) : IntKind.u64.wrap x = x := by
  obtain ⟨h0, h1⟩ := h
  show x % (2 ^ 64) = x
  omega
theorem wrap_low32 (x : Int) : IntKind.u64.wrap (x * 4294967296) / 4294967296 = x % 4294967296 := by
  show (x * 4294967296) % (2 ^ 64) / 4294967296 = x % 4294967296
  omega
theorem ret_u64 {a b : Int} (h : a = b) : Ending.returned (.int .u64 a) = .returned (.int .u64 b) := by rw [h]
theorem low64 (x : Int) (hx : U64 x) (w : World) : Calls Try.prog 57 #[.int .u64 x, .int .i64 64] w fun e w' => e = .returned (.int .u64 x) ∧ w = w' := by
  have HX := Lib.hid hx
  clear hx
  go_enter Try.func57, Try.ntmps57
  go_wp2
  go_ret
  exact ⟨ret_u64 (wrap_u64 x HX.out), rfl⟩
theorem low32 (x : Int) (w : World) : Calls Try.prog 57 #[.int .u64 x, .int .i64 32] w fun e w' => e = .returned (.int .u64 (x % 4294967296)) ∧ w = w' := by
  go_enter Try.func57, Try.ntmps57
  go_wp2
  go_ret
  exact ⟨ret_u64 (wrap_low32 x), rfl⟩
end Go.Proofs.Ythpgnhmikffcpaa
