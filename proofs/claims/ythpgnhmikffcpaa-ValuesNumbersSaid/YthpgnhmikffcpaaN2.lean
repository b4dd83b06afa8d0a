/- Whole numbers keep the bits that their kind has: the law, for any two numbers. No condition. -/
import Derived.Test.YthpgnhmikffcpaaN1
namespace Go.Proofs.Ythpgnhmikffcpaa
set_option linter.unusedVariables false
open Go.RowKit

theorem numbers_law (k b : Int) (hk : I64 k) (hb : U64 b) (w : World) : Calls Try.prog 4 #[.int .i64 k, .int .u64 b] w fun e w' => e = .returned (.bool true) ∧ Below w.heap.size w w' := by
  by_cases h : k < 2 ∨ 11 < k
  · exact numbers_other k b hk hb h w
  · rcases (show k = 2 ∨ k = 3 ∨ k = 4 ∨ k = 5 ∨ k = 6 ∨ k = 7 ∨ k = 8 ∨ k = 9 ∨ k = 10 ∨ k = 11 by omega) with e | e | e | e | e | e | e | e | e | e
    · subst e; exact numbers_2 b hb w
    · subst e; exact numbers_3 b hb w
    · subst e; exact numbers_4 b hb w
    · subst e; exact numbers_5 b hb w
    · subst e; exact numbers_6 b hb w
    · subst e; exact numbers_7 b hb w
    · subst e; exact numbers_8 b hb w
    · subst e; exact numbers_9 b hb w
    · subst e; exact numbers_10 b hb w
    · subst e; exact numbers_11 b hb w
end Go.Proofs.Ythpgnhmikffcpaa
