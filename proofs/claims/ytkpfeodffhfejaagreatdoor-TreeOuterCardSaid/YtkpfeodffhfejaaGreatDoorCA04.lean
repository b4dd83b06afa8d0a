/- Numbers' bits: the functions width and low. Condition: a whole number's kind; 32 or 64 bits. -/
import Derived.Test.YtkpfeodffhfejaaGreatDoorCA03
namespace Go.Proofs.YtkpfeodffhfejaaGreatDoor
set_option linter.unusedVariables false
set_option maxRecDepth 1000000
open Go.RowKit

/-- How many bits a whole number has. -/
def widthK (k : Int) : Int := if k = 2 ∨ k = 7 then 8 else if k = 3 ∨ k = 8 then 16 else if k = 4 ∨ k = 9 then 32 else 64
theorem width_at (j : Int) (n : Int) (h : (j = 0 ∧ n = 8) ∨ (j = 1 ∧ n = 16) ∨ (j = 2 ∧ n = 32) ∨ (j = 3 ∧ n = 64) ∨ (j = 4 ∧ n = 64)) (w : World) :
    (Instr.index 148 (.agg #[.int .i64 8, .int .i64 16, .int .i64 32, .int .i64 64, .int .i64 64]) (.int .i64 j)).run Tryz.prog w = .ok (.int .i64 n) w := by
  rcases h with ⟨rfl, rfl⟩ | ⟨rfl, rfl⟩ | ⟨rfl, rfl⟩ | ⟨rfl, rfl⟩ | ⟨rfl, rfl⟩ <;> kernel_rfl
theorem width_any (k : Int) (h0 : 2 ≤ k) (h1 : k ≤ 11) (w : World) : Calls Tryz.prog 56 #[.int .i64 k] w fun e w' => e = .returned (.int .i64 (widthK k)) ∧ w = w' := by
  have hk : k = 2 ∨ k = 3 ∨ k = 4 ∨ k = 5 ∨ k = 6 ∨ k = 7 ∨ k = 8 ∨ k = 9 ∨ k = 10 ∨ k = 11 := by omega
  have e0 := fun w => width_at 0 8 (by omega) w
  have e1 := fun w => width_at 1 16 (by omega) w
  have e2 := fun w => width_at 2 32 (by omega) w
  have e3 := fun w => width_at 3 64 (by omega) w
  have e4 := fun w => width_at 4 64 (by omega) w
  clear h0 h1
  rcases hk with rfl | rfl | rfl | rfl | rfl | rfl | rfl | rfl | rfl | rfl
  all_goals
    go_enter Tryz.func56, Tryz.ntmps56
    go_wp2
    go_ret
    exact ⟨rfl, rfl⟩
theorem wrap_u64 (x : Int) (h : U64 x) : IntKind.u64.wrap x = x := by
  obtain ⟨h0, h1⟩ := h
  show x % (2 ^ 64) = x
  omega
theorem wrap_low32 (x : Int) : IntKind.u64.wrap (x * 4294967296) / 4294967296 = x % 4294967296 := by
  show (x * 4294967296) % (2 ^ 64) / 4294967296 = x % 4294967296
  omega
theorem ret_u64 {a b : Int} (h : a = b) : Ending.returned (.int .u64 a) = .returned (.int .u64 b) := by rw [h]
theorem low64 (x : Int) (hx : U64 x) (w : World) : Calls Tryz.prog 57 #[.int .u64 x, .int .i64 64] w fun e w' => e = .returned (.int .u64 x) ∧ w = w' := by
  have HX := Lib.hid hx
  clear hx
  go_enter Tryz.func57, Tryz.ntmps57
  go_wp2
  go_ret
  exact ⟨ret_u64 (wrap_u64 x HX.out), rfl⟩
theorem low32 (x : Int) (w : World) : Calls Tryz.prog 57 #[.int .u64 x, .int .i64 32] w fun e w' => e = .returned (.int .u64 (x % 4294967296)) ∧ w = w' := by
  go_enter Tryz.func57, Tryz.ntmps57
  go_wp2
  go_ret
  exact ⟨ret_u64 (wrap_low32 x), rfl⟩
end Go.Proofs.YtkpfeodffhfejaaGreatDoor

/- The reference's small functions: sign, Whole, Signed, Great, Bits, number, letter, Typed, Named. No condition. -/
namespace Go.Proofs.YtkpfeodffhfejaaGreatDoor
set_option linter.unusedVariables false
set_option maxRecDepth 1000000
set_option linter.unusedSimpArgs false
open Go.RowKit

/-- Of two tests. -/
def signB (a b : Bool) : Int := if a then -1 else if b then 1 else 0
theorem sign_any (a b : Bool) (w : World) : Calls Tryz.prog 117 #[.bool a, .bool b] w fun e w' => e = .returned (.int .i64 (signB a b)) ∧ w = w' := by
  cases a <;> cases b
  all_goals
    go_enter Tryz.func117, Tryz.ntmps117
    go_wp2
    go_ret
    exact ⟨rfl, rfl⟩
/-- Is a number within bounds? -/
def inB (lo hi k : Int) : Bool := decide (lo ≤ k ∧ k ≤ hi)
theorem inB_yes {lo hi k : Int} (h1 : lo ≤ k) (h2 : k ≤ hi) : inB lo hi k = true := by simp [inB]; omega
theorem inB_no {lo hi k : Int} (h : k < lo ∨ hi < k) : inB lo hi k = false := by simp [inB]; omega
theorem whole_any (k : Int) (w : World) : Calls Tryz.prog 62 #[.int .i64 k] w fun e w' => e = .returned (.bool (inB 2 11 k)) ∧ w = w' := by
  by_cases h1 : 2 ≤ k
  · by_cases h2 : k ≤ 11
    · rw [inB_yes h1 h2]
      go_enter Tryz.func62, Tryz.ntmps62
      go_wp2
      go_ret
      exact ⟨by simp [h2], rfl⟩
    · rw [inB_no (by omega)]
      go_enter Tryz.func62, Tryz.ntmps62
      go_wp2
      go_ret
      exact ⟨by simp [h2], rfl⟩
  · rw [inB_no (by omega)]
    go_enter Tryz.func62, Tryz.ntmps62
    go_wp2
    go_ret
    exact ⟨by simp [h1], rfl⟩
theorem refSigned_any (k : Int) (w : World) : Calls Tryz.prog 93 #[.int .i64 k] w fun e w' => e = .returned (.bool (inB 2 6 k)) ∧ w = w' := by
  by_cases h1 : 2 ≤ k
  · by_cases h2 : k ≤ 6
    · rw [inB_yes h1 h2]
      go_enter Tryz.func93, Tryz.ntmps93
      go_wp2
      go_ret
      exact ⟨by simp [h2], rfl⟩
    · rw [inB_no (by omega)]
      go_enter Tryz.func93, Tryz.ntmps93
      go_wp2
      go_ret
      exact ⟨by simp [h2], rfl⟩
  · rw [inB_no (by omega)]
    go_enter Tryz.func93, Tryz.ntmps93
    go_wp2
    go_ret
    exact ⟨by simp [h1], rfl⟩
theorem great_any (k : Int) (w : World) : Calls Tryz.prog 64 #[.int .i64 k] w fun e w' => e = .returned (.bool (greatK k)) ∧ w = w' := by
  by_cases h1 : 18 ≤ k
  · by_cases h2 : k ≤ 22
    · rw [show greatK k = true by simp [greatK]; omega]
      go_enter Tryz.func64, Tryz.ntmps64
      go_wp2
      go_ret
      exact ⟨by simp [h2], rfl⟩
    · rw [show greatK k = false by simp [greatK]; omega]
      go_enter Tryz.func64, Tryz.ntmps64
      go_wp2
      go_ret
      exact ⟨by simp [h2], rfl⟩
  · rw [show greatK k = false by simp [greatK]; omega]
    go_enter Tryz.func64, Tryz.ntmps64
    go_wp2
    go_ret
    exact ⟨by simp [h1], rfl⟩
theorem bits_any (k : Int) (h0 : 2 ≤ k) (h1 : k ≤ 11) (w : World) : Calls Tryz.prog 92 #[.int .i64 k] w fun e w' => e = .returned (.int .i64 (widthK k)) ∧ w = w' := by
  have hk : k = 2 ∨ k = 3 ∨ k = 4 ∨ k = 5 ∨ k = 6 ∨ k = 7 ∨ k = 8 ∨ k = 9 ∨ k = 10 ∨ k = 11 := by omega
  clear h0 h1
  rcases hk with rfl | rfl | rfl | rfl | rfl | rfl | rfl | rfl | rfl | rfl
  all_goals
    go_enter Tryz.func92, Tryz.ntmps92
    go_wp2
    go_ret
    exact ⟨rfl, rfl⟩
end Go.Proofs.YtkpfeodffhfejaaGreatDoor

/- The assertions of a value's type: what each yields. No condition. -/
namespace Go.Proofs.YtkpfeodffhfejaaGreatDoor
set_option linter.unusedVariables false
set_option maxRecDepth 1000000
open Go.RowKit

theorem as82 (t : TypeId) (v : Value) (w : World) : (Instr.typeAssert (.iface t v) 28 85 true).run Tryz.prog w = .ok (if t = 85 then .tuple #[v, .bool true] else .tuple #[.agg #[.int .i64 0, .string ⟨#[]⟩, .int .i64 0, .bool false], .bool false]) w := by
  by_cases h : t = 85
  · simp [Instr.typeAssert, run_underlying Tryz.underlying85, h]
  · simp [Instr.typeAssert, run_underlying Tryz.underlying85, h]
theorem asn82 (w : World) : (Instr.typeAssert .nilIface 28 85 true).run Tryz.prog w = .ok (.tuple #[.agg #[.int .i64 0, .string ⟨#[]⟩, .int .i64 0, .bool false], .bool false]) w := by
  simp [Instr.typeAssert, run_underlying Tryz.underlying85]

theorem as85 (t : TypeId) (v : Value) (w : World) : (Instr.typeAssert (.iface t v) 28 87 true).run Tryz.prog w = .ok (if t = 87 then .tuple #[v, .bool true] else .tuple #[.agg #[.int .i64 0, .string ⟨#[]⟩, .int .i64 0, .int .i64 0], .bool false]) w := by
  by_cases h : t = 87
  · simp [Instr.typeAssert, run_underlying Tryz.underlying87, h]
  · simp [Instr.typeAssert, run_underlying Tryz.underlying87, h]
theorem asn85 (w : World) : (Instr.typeAssert .nilIface 28 87 true).run Tryz.prog w = .ok (.tuple #[.agg #[.int .i64 0, .string ⟨#[]⟩, .int .i64 0, .int .i64 0], .bool false]) w := by
  simp [Instr.typeAssert, run_underlying Tryz.underlying87]

theorem as87 (t : TypeId) (v : Value) (w : World) : (Instr.typeAssert (.iface t v) 28 89 true).run Tryz.prog w = .ok (if t = 89 then .tuple #[v, .bool true] else .tuple #[.agg #[.int .i64 0, .string ⟨#[]⟩, .int .i64 0, .int .u64 0], .bool false]) w := by
  by_cases h : t = 89
  · simp [Instr.typeAssert, run_underlying Tryz.underlying89, h]
  · simp [Instr.typeAssert, run_underlying Tryz.underlying89, h]
theorem asn87 (w : World) : (Instr.typeAssert .nilIface 28 89 true).run Tryz.prog w = .ok (.tuple #[.agg #[.int .i64 0, .string ⟨#[]⟩, .int .i64 0, .int .u64 0], .bool false]) w := by
  simp [Instr.typeAssert, run_underlying Tryz.underlying89]

theorem as90 (t : TypeId) (v : Value) (w : World) : (Instr.typeAssert (.iface t v) 28 91 true).run Tryz.prog w = .ok (if t = 91 then .tuple #[v, .bool true] else .tuple #[.agg #[.int .i64 0, .string ⟨#[]⟩, .int .i64 0, .int .u64 0, .int .i64 0], .bool false]) w := by
  by_cases h : t = 91
  · simp [Instr.typeAssert, run_underlying Tryz.underlying91, h]
  · simp [Instr.typeAssert, run_underlying Tryz.underlying91, h]
theorem asn90 (w : World) : (Instr.typeAssert .nilIface 28 91 true).run Tryz.prog w = .ok (.tuple #[.agg #[.int .i64 0, .string ⟨#[]⟩, .int .i64 0, .int .u64 0, .int .i64 0], .bool false]) w := by
  simp [Instr.typeAssert, run_underlying Tryz.underlying91]

theorem as92 (t : TypeId) (v : Value) (w : World) : (Instr.typeAssert (.iface t v) 28 93 true).run Tryz.prog w = .ok (if t = 93 then .tuple #[v, .bool true] else .tuple #[.agg #[.int .i64 0, .string ⟨#[]⟩, .int .i64 0, .int .u64 0, .int .u64 0, .int .i64 0], .bool false]) w := by
  by_cases h : t = 93
  · simp [Instr.typeAssert, run_underlying Tryz.underlying93, h]
  · simp [Instr.typeAssert, run_underlying Tryz.underlying93, h]
theorem asn92 (w : World) : (Instr.typeAssert .nilIface 28 93 true).run Tryz.prog w = .ok (.tuple #[.agg #[.int .i64 0, .string ⟨#[]⟩, .int .i64 0, .int .u64 0, .int .u64 0, .int .i64 0], .bool false]) w := by
  simp [Instr.typeAssert, run_underlying Tryz.underlying93]

theorem as94 (t : TypeId) (v : Value) (w : World) : (Instr.typeAssert (.iface t v) 28 95 true).run Tryz.prog w = .ok (if t = 95 then .tuple #[v, .bool true] else .tuple #[.agg #[.int .i64 0, .string ⟨#[]⟩, .int .i64 0, .string ⟨#[]⟩], .bool false]) w := by
  by_cases h : t = 95
  · simp [Instr.typeAssert, run_underlying Tryz.underlying95, h]
  · simp [Instr.typeAssert, run_underlying Tryz.underlying95, h]
theorem asn94 (w : World) : (Instr.typeAssert .nilIface 28 95 true).run Tryz.prog w = .ok (.tuple #[.agg #[.int .i64 0, .string ⟨#[]⟩, .int .i64 0, .string ⟨#[]⟩], .bool false]) w := by
  simp [Instr.typeAssert, run_underlying Tryz.underlying95]

theorem as95 (t : TypeId) (v : Value) (w : World) : (Instr.typeAssert (.iface t v) 28 96 true).run Tryz.prog w = .ok (if t = 96 then .tuple #[v, .bool true] else .tuple #[.agg #[.int .i64 0, .string ⟨#[]⟩, .int .i64 0, .string ⟨#[]⟩], .bool false]) w := by
  by_cases h : t = 96
  · simp [Instr.typeAssert, run_underlying Tryz.underlying96, h]
  · simp [Instr.typeAssert, run_underlying Tryz.underlying96, h]
theorem asn95 (w : World) : (Instr.typeAssert .nilIface 28 96 true).run Tryz.prog w = .ok (.tuple #[.agg #[.int .i64 0, .string ⟨#[]⟩, .int .i64 0, .string ⟨#[]⟩], .bool false]) w := by
  simp [Instr.typeAssert, run_underlying Tryz.underlying96]

theorem as104 (t : TypeId) (v : Value) (w : World) : (Instr.typeAssert (.iface t v) 28 99 true).run Tryz.prog w = .ok (if t = 99 then .tuple #[v, .bool true] else .tuple #[.agg #[.int .i64 0, .string ⟨#[]⟩, .int .i64 0, .slice none 0 0], .bool false]) w := by
  by_cases h : t = 99
  · simp [Instr.typeAssert, run_underlying Tryz.underlying99, h]
  · simp [Instr.typeAssert, run_underlying Tryz.underlying99, h]
theorem asn104 (w : World) : (Instr.typeAssert .nilIface 28 99 true).run Tryz.prog w = .ok (.tuple #[.agg #[.int .i64 0, .string ⟨#[]⟩, .int .i64 0, .slice none 0 0], .bool false]) w := by
  simp [Instr.typeAssert, run_underlying Tryz.underlying99]

theorem as108 (t : TypeId) (v : Value) (w : World) : (Instr.typeAssert (.iface t v) 28 106 true).run Tryz.prog w = .ok (if t = 106 then .tuple #[v, .bool true] else .tuple #[.agg #[.int .i64 0, .string ⟨#[]⟩, .int .i64 0, .int .u64 0, .nilIface], .bool false]) w := by
  by_cases h : t = 106
  · simp [Instr.typeAssert, run_underlying Tryz.underlying106, h]
  · simp [Instr.typeAssert, run_underlying Tryz.underlying106, h]
theorem asn108 (w : World) : (Instr.typeAssert .nilIface 28 106 true).run Tryz.prog w = .ok (.tuple #[.agg #[.int .i64 0, .string ⟨#[]⟩, .int .i64 0, .int .u64 0, .nilIface], .bool false]) w := by
  simp [Instr.typeAssert, run_underlying Tryz.underlying106]

theorem as114 (t : TypeId) (v : Value) (w : World) : (Instr.typeAssert (.iface t v) 28 101 true).run Tryz.prog w = .ok (if t = 101 then .tuple #[v, .bool true] else .tuple #[.agg #[.int .i64 0, .string ⟨#[]⟩, .int .i64 0, .slice none 0 0], .bool false]) w := by
  by_cases h : t = 101
  · simp [Instr.typeAssert, run_underlying Tryz.underlying101, h]
  · simp [Instr.typeAssert, run_underlying Tryz.underlying101, h]
theorem asn114 (w : World) : (Instr.typeAssert .nilIface 28 101 true).run Tryz.prog w = .ok (.tuple #[.agg #[.int .i64 0, .string ⟨#[]⟩, .int .i64 0, .slice none 0 0], .bool false]) w := by
  simp [Instr.typeAssert, run_underlying Tryz.underlying101]

theorem as117 (t : TypeId) (v : Value) (w : World) : (Instr.typeAssert (.iface t v) 28 104 true).run Tryz.prog w = .ok (if t = 104 then .tuple #[v, .bool true] else .tuple #[.agg #[.int .i64 0, .string ⟨#[]⟩, .int .i64 0, .slice none 0 0], .bool false]) w := by
  by_cases h : t = 104
  · simp [Instr.typeAssert, run_underlying Tryz.underlying104, h]
  · simp [Instr.typeAssert, run_underlying Tryz.underlying104, h]
theorem asn117 (w : World) : (Instr.typeAssert .nilIface 28 104 true).run Tryz.prog w = .ok (.tuple #[.agg #[.int .i64 0, .string ⟨#[]⟩, .int .i64 0, .slice none 0 0], .bool false]) w := by
  simp [Instr.typeAssert, run_underlying Tryz.underlying104]
end Go.Proofs.YtkpfeodffhfejaaGreatDoor
