/- The assertions of a value's type: what each yields. No condition. -/
import Derived.Test.YthpgnhmikffcpaaZF
namespace Go.Proofs.Ythpgnhmikffcpaa
set_option linter.unusedVariables false
open Go.RowKit

theorem as82 (t : TypeId) (v : Value) (w : World) : (Instr.typeAssert (.iface t v) 30 82 true).run Try.prog w = .ok (if t = 82 then .tuple #[v, .bool true] else .tuple #[.agg #[.int .i64 0, .string ⟨#[]⟩, .int .i64 0, .bool false], .bool false]) w := by
  by_cases h : t = 82
  · simp [Instr.typeAssert, run_underlying Try.underlying82, h]
  · simp [Instr.typeAssert, run_underlying Try.underlying82, h]
theorem asn82 (w : World) : (Instr.typeAssert .nilIface 30 82 true).run Try.prog w = .ok (.tuple #[.agg #[.int .i64 0, .string ⟨#[]⟩, .int .i64 0, .bool false], .bool false]) w := by
  simp [Instr.typeAssert, run_underlying Try.underlying82]

theorem as85 (t : TypeId) (v : Value) (w : World) : (Instr.typeAssert (.iface t v) 30 85 true).run Try.prog w = .ok (if t = 85 then .tuple #[v, .bool true] else .tuple #[.agg #[.int .i64 0, .string ⟨#[]⟩, .int .i64 0, .int .i64 0], .bool false]) w := by
  by_cases h : t = 85
  · simp [Instr.typeAssert, run_underlying Try.underlying85, h]
  · simp [Instr.typeAssert, run_underlying Try.underlying85, h]
theorem asn85 (w : World) : (Instr.typeAssert .nilIface 30 85 true).run Try.prog w = .ok (.tuple #[.agg #[.int .i64 0, .string ⟨#[]⟩, .int .i64 0, .int .i64 0], .bool false]) w := by
  simp [Instr.typeAssert, run_underlying Try.underlying85]

theorem as87 (t : TypeId) (v : Value) (w : World) : (Instr.typeAssert (.iface t v) 30 87 true).run Try.prog w = .ok (if t = 87 then .tuple #[v, .bool true] else .tuple #[.agg #[.int .i64 0, .string ⟨#[]⟩, .int .i64 0, .int .u64 0], .bool false]) w := by
  by_cases h : t = 87
  · simp [Instr.typeAssert, run_underlying Try.underlying87, h]
  · simp [Instr.typeAssert, run_underlying Try.underlying87, h]
theorem asn87 (w : World) : (Instr.typeAssert .nilIface 30 87 true).run Try.prog w = .ok (.tuple #[.agg #[.int .i64 0, .string ⟨#[]⟩, .int .i64 0, .int .u64 0], .bool false]) w := by
  simp [Instr.typeAssert, run_underlying Try.underlying87]

theorem as90 (t : TypeId) (v : Value) (w : World) : (Instr.typeAssert (.iface t v) 30 90 true).run Try.prog w = .ok (if t = 90 then .tuple #[v, .bool true] else .tuple #[.agg #[.int .i64 0, .string ⟨#[]⟩, .int .i64 0, .int .u64 0, .int .i64 0], .bool false]) w := by
  by_cases h : t = 90
  · simp [Instr.typeAssert, run_underlying Try.underlying90, h]
  · simp [Instr.typeAssert, run_underlying Try.underlying90, h]
theorem asn90 (w : World) : (Instr.typeAssert .nilIface 30 90 true).run Try.prog w = .ok (.tuple #[.agg #[.int .i64 0, .string ⟨#[]⟩, .int .i64 0, .int .u64 0, .int .i64 0], .bool false]) w := by
  simp [Instr.typeAssert, run_underlying Try.underlying90]

theorem as92 (t : TypeId) (v : Value) (w : World) : (Instr.typeAssert (.iface t v) 30 92 true).run Try.prog w = .ok (if t = 92 then .tuple #[v, .bool true] else .tuple #[.agg #[.int .i64 0, .string ⟨#[]⟩, .int .i64 0, .int .u64 0, .int .u64 0, .int .i64 0], .bool false]) w := by
  by_cases h : t = 92
  · simp [Instr.typeAssert, run_underlying Try.underlying92, h]
  · simp [Instr.typeAssert, run_underlying Try.underlying92, h]
theorem asn92 (w : World) : (Instr.typeAssert .nilIface 30 92 true).run Try.prog w = .ok (.tuple #[.agg #[.int .i64 0, .string ⟨#[]⟩, .int .i64 0, .int .u64 0, .int .u64 0, .int .i64 0], .bool false]) w := by
  simp [Instr.typeAssert, run_underlying Try.underlying92]

theorem as94 (t : TypeId) (v : Value) (w : World) : (Instr.typeAssert (.iface t v) 30 94 true).run Try.prog w = .ok (if t = 94 then .tuple #[v, .bool true] else .tuple #[.agg #[.int .i64 0, .string ⟨#[]⟩, .int .i64 0, .string ⟨#[]⟩], .bool false]) w := by
  by_cases h : t = 94
  · simp [Instr.typeAssert, run_underlying Try.underlying94, h]
  · simp [Instr.typeAssert, run_underlying Try.underlying94, h]
theorem asn94 (w : World) : (Instr.typeAssert .nilIface 30 94 true).run Try.prog w = .ok (.tuple #[.agg #[.int .i64 0, .string ⟨#[]⟩, .int .i64 0, .string ⟨#[]⟩], .bool false]) w := by
  simp [Instr.typeAssert, run_underlying Try.underlying94]

theorem as95 (t : TypeId) (v : Value) (w : World) : (Instr.typeAssert (.iface t v) 30 95 true).run Try.prog w = .ok (if t = 95 then .tuple #[v, .bool true] else .tuple #[.agg #[.int .i64 0, .string ⟨#[]⟩, .int .i64 0, .string ⟨#[]⟩], .bool false]) w := by
  by_cases h : t = 95
  · simp [Instr.typeAssert, run_underlying Try.underlying95, h]
  · simp [Instr.typeAssert, run_underlying Try.underlying95, h]
theorem asn95 (w : World) : (Instr.typeAssert .nilIface 30 95 true).run Try.prog w = .ok (.tuple #[.agg #[.int .i64 0, .string ⟨#[]⟩, .int .i64 0, .string ⟨#[]⟩], .bool false]) w := by
  simp [Instr.typeAssert, run_underlying Try.underlying95]

theorem as104 (t : TypeId) (v : Value) (w : World) : (Instr.typeAssert (.iface t v) 30 104 true).run Try.prog w = .ok (if t = 104 then .tuple #[v, .bool true] else .tuple #[.agg #[.int .i64 0, .string ⟨#[]⟩, .int .i64 0, .slice none 0 0], .bool false]) w := by
  by_cases h : t = 104
  · simp [Instr.typeAssert, run_underlying Try.underlying104, h]
  · simp [Instr.typeAssert, run_underlying Try.underlying104, h]
theorem asn104 (w : World) : (Instr.typeAssert .nilIface 30 104 true).run Try.prog w = .ok (.tuple #[.agg #[.int .i64 0, .string ⟨#[]⟩, .int .i64 0, .slice none 0 0], .bool false]) w := by
  simp [Instr.typeAssert, run_underlying Try.underlying104]

theorem as108 (t : TypeId) (v : Value) (w : World) : (Instr.typeAssert (.iface t v) 30 108 true).run Try.prog w = .ok (if t = 108 then .tuple #[v, .bool true] else .tuple #[.agg #[.int .i64 0, .string ⟨#[]⟩, .int .i64 0, .int .u64 0, .nilIface], .bool false]) w := by
  by_cases h : t = 108
  · simp [Instr.typeAssert, run_underlying Try.underlying108, h]
  · simp [Instr.typeAssert, run_underlying Try.underlying108, h]
theorem asn108 (w : World) : (Instr.typeAssert .nilIface 30 108 true).run Try.prog w = .ok (.tuple #[.agg #[.int .i64 0, .string ⟨#[]⟩, .int .i64 0, .int .u64 0, .nilIface], .bool false]) w := by
  simp [Instr.typeAssert, run_underlying Try.underlying108]

theorem as114 (t : TypeId) (v : Value) (w : World) : (Instr.typeAssert (.iface t v) 30 114 true).run Try.prog w = .ok (if t = 114 then .tuple #[v, .bool true] else .tuple #[.agg #[.int .i64 0, .string ⟨#[]⟩, .int .i64 0, .slice none 0 0], .bool false]) w := by
  by_cases h : t = 114
  · simp [Instr.typeAssert, run_underlying Try.underlying114, h]
  · simp [Instr.typeAssert, run_underlying Try.underlying114, h]
theorem asn114 (w : World) : (Instr.typeAssert .nilIface 30 114 true).run Try.prog w = .ok (.tuple #[.agg #[.int .i64 0, .string ⟨#[]⟩, .int .i64 0, .slice none 0 0], .bool false]) w := by
  simp [Instr.typeAssert, run_underlying Try.underlying114]

theorem as117 (t : TypeId) (v : Value) (w : World) : (Instr.typeAssert (.iface t v) 30 117 true).run Try.prog w = .ok (if t = 117 then .tuple #[v, .bool true] else .tuple #[.agg #[.int .i64 0, .string ⟨#[]⟩, .int .i64 0, .slice none 0 0], .bool false]) w := by
  by_cases h : t = 117
  · simp [Instr.typeAssert, run_underlying Try.underlying117, h]
  · simp [Instr.typeAssert, run_underlying Try.underlying117, h]
theorem asn117 (w : World) : (Instr.typeAssert .nilIface 30 117 true).run Try.prog w = .ok (.tuple #[.agg #[.int .i64 0, .string ⟨#[]⟩, .int .i64 0, .slice none 0 0], .bool false]) w := by
  simp [Instr.typeAssert, run_underlying Try.underlying117]
end Go.Proofs.Ythpgnhmikffcpaa
