/- The assertions of a value's type: what each yields. No condition. -/
import Derived.Test.YtnalppgjbllehaaGreatDoorL13
namespace Go.Proofs.YtnalppgjbllehaaGreatDoor
set_option linter.unusedVariables false
set_option maxRecDepth 1000000
open Go.RowKit

theorem as82 (t : TypeId) (v : Value) (w : World) : (Instr.typeAssert (.iface t v) 54 131 true).run Tryz.prog w = .ok (if t = 131 then .tuple #[v, .bool true] else .tuple #[.agg #[.int .i64 0, .string ⟨#[]⟩, .int .i64 0, .bool false], .bool false]) w := by
  by_cases h : t = 131
  · simp [Instr.typeAssert, run_underlying Tryz.underlying131, h]
  · simp [Instr.typeAssert, run_underlying Tryz.underlying131, h]
theorem asn82 (w : World) : (Instr.typeAssert .nilIface 54 131 true).run Tryz.prog w = .ok (.tuple #[.agg #[.int .i64 0, .string ⟨#[]⟩, .int .i64 0, .bool false], .bool false]) w := by
  simp [Instr.typeAssert, run_underlying Tryz.underlying131]

theorem as85 (t : TypeId) (v : Value) (w : World) : (Instr.typeAssert (.iface t v) 54 134 true).run Tryz.prog w = .ok (if t = 134 then .tuple #[v, .bool true] else .tuple #[.agg #[.int .i64 0, .string ⟨#[]⟩, .int .i64 0, .int .i64 0], .bool false]) w := by
  by_cases h : t = 134
  · simp [Instr.typeAssert, run_underlying Tryz.underlying134, h]
  · simp [Instr.typeAssert, run_underlying Tryz.underlying134, h]
theorem asn85 (w : World) : (Instr.typeAssert .nilIface 54 134 true).run Tryz.prog w = .ok (.tuple #[.agg #[.int .i64 0, .string ⟨#[]⟩, .int .i64 0, .int .i64 0], .bool false]) w := by
  simp [Instr.typeAssert, run_underlying Tryz.underlying134]

theorem as87 (t : TypeId) (v : Value) (w : World) : (Instr.typeAssert (.iface t v) 54 136 true).run Tryz.prog w = .ok (if t = 136 then .tuple #[v, .bool true] else .tuple #[.agg #[.int .i64 0, .string ⟨#[]⟩, .int .i64 0, .int .u64 0], .bool false]) w := by
  by_cases h : t = 136
  · simp [Instr.typeAssert, run_underlying Tryz.underlying136, h]
  · simp [Instr.typeAssert, run_underlying Tryz.underlying136, h]
theorem asn87 (w : World) : (Instr.typeAssert .nilIface 54 136 true).run Tryz.prog w = .ok (.tuple #[.agg #[.int .i64 0, .string ⟨#[]⟩, .int .i64 0, .int .u64 0], .bool false]) w := by
  simp [Instr.typeAssert, run_underlying Tryz.underlying136]

theorem as90 (t : TypeId) (v : Value) (w : World) : (Instr.typeAssert (.iface t v) 54 139 true).run Tryz.prog w = .ok (if t = 139 then .tuple #[v, .bool true] else .tuple #[.agg #[.int .i64 0, .string ⟨#[]⟩, .int .i64 0, .int .u64 0, .int .i64 0], .bool false]) w := by
  by_cases h : t = 139
  · simp [Instr.typeAssert, run_underlying Tryz.underlying139, h]
  · simp [Instr.typeAssert, run_underlying Tryz.underlying139, h]
theorem asn90 (w : World) : (Instr.typeAssert .nilIface 54 139 true).run Tryz.prog w = .ok (.tuple #[.agg #[.int .i64 0, .string ⟨#[]⟩, .int .i64 0, .int .u64 0, .int .i64 0], .bool false]) w := by
  simp [Instr.typeAssert, run_underlying Tryz.underlying139]

theorem as92 (t : TypeId) (v : Value) (w : World) : (Instr.typeAssert (.iface t v) 54 141 true).run Tryz.prog w = .ok (if t = 141 then .tuple #[v, .bool true] else .tuple #[.agg #[.int .i64 0, .string ⟨#[]⟩, .int .i64 0, .int .u64 0, .int .u64 0, .int .i64 0], .bool false]) w := by
  by_cases h : t = 141
  · simp [Instr.typeAssert, run_underlying Tryz.underlying141, h]
  · simp [Instr.typeAssert, run_underlying Tryz.underlying141, h]
theorem asn92 (w : World) : (Instr.typeAssert .nilIface 54 141 true).run Tryz.prog w = .ok (.tuple #[.agg #[.int .i64 0, .string ⟨#[]⟩, .int .i64 0, .int .u64 0, .int .u64 0, .int .i64 0], .bool false]) w := by
  simp [Instr.typeAssert, run_underlying Tryz.underlying141]

theorem as94 (t : TypeId) (v : Value) (w : World) : (Instr.typeAssert (.iface t v) 54 78 true).run Tryz.prog w = .ok (if t = 78 then .tuple #[v, .bool true] else .tuple #[.agg #[.int .i64 0, .string ⟨#[]⟩, .int .i64 0, .string ⟨#[]⟩], .bool false]) w := by
  by_cases h : t = 78
  · simp [Instr.typeAssert, run_underlying Tryz.underlying78, h]
  · simp [Instr.typeAssert, run_underlying Tryz.underlying78, h]
theorem asn94 (w : World) : (Instr.typeAssert .nilIface 54 78 true).run Tryz.prog w = .ok (.tuple #[.agg #[.int .i64 0, .string ⟨#[]⟩, .int .i64 0, .string ⟨#[]⟩], .bool false]) w := by
  simp [Instr.typeAssert, run_underlying Tryz.underlying78]

theorem as95 (t : TypeId) (v : Value) (w : World) : (Instr.typeAssert (.iface t v) 54 142 true).run Tryz.prog w = .ok (if t = 142 then .tuple #[v, .bool true] else .tuple #[.agg #[.int .i64 0, .string ⟨#[]⟩, .int .i64 0, .string ⟨#[]⟩], .bool false]) w := by
  by_cases h : t = 142
  · simp [Instr.typeAssert, run_underlying Tryz.underlying142, h]
  · simp [Instr.typeAssert, run_underlying Tryz.underlying142, h]
theorem asn95 (w : World) : (Instr.typeAssert .nilIface 54 142 true).run Tryz.prog w = .ok (.tuple #[.agg #[.int .i64 0, .string ⟨#[]⟩, .int .i64 0, .string ⟨#[]⟩], .bool false]) w := by
  simp [Instr.typeAssert, run_underlying Tryz.underlying142]

theorem as104 (t : TypeId) (v : Value) (w : World) : (Instr.typeAssert (.iface t v) 54 160 true).run Tryz.prog w = .ok (if t = 160 then .tuple #[v, .bool true] else .tuple #[.agg #[.int .i64 0, .string ⟨#[]⟩, .int .i64 0, .slice none 0 0], .bool false]) w := by
  by_cases h : t = 160
  · simp [Instr.typeAssert, run_underlying Tryz.underlying160, h]
  · simp [Instr.typeAssert, run_underlying Tryz.underlying160, h]
theorem asn104 (w : World) : (Instr.typeAssert .nilIface 54 160 true).run Tryz.prog w = .ok (.tuple #[.agg #[.int .i64 0, .string ⟨#[]⟩, .int .i64 0, .slice none 0 0], .bool false]) w := by
  simp [Instr.typeAssert, run_underlying Tryz.underlying160]

theorem as108 (t : TypeId) (v : Value) (w : World) : (Instr.typeAssert (.iface t v) 54 119 true).run Tryz.prog w = .ok (if t = 119 then .tuple #[v, .bool true] else .tuple #[.agg #[.int .i64 0, .string ⟨#[]⟩, .int .i64 0, .int .u64 0, .nilIface], .bool false]) w := by
  by_cases h : t = 119
  · simp [Instr.typeAssert, run_underlying Tryz.underlying119, h]
  · simp [Instr.typeAssert, run_underlying Tryz.underlying119, h]
theorem asn108 (w : World) : (Instr.typeAssert .nilIface 54 119 true).run Tryz.prog w = .ok (.tuple #[.agg #[.int .i64 0, .string ⟨#[]⟩, .int .i64 0, .int .u64 0, .nilIface], .bool false]) w := by
  simp [Instr.typeAssert, run_underlying Tryz.underlying119]

theorem as114 (t : TypeId) (v : Value) (w : World) : (Instr.typeAssert (.iface t v) 54 162 true).run Tryz.prog w = .ok (if t = 162 then .tuple #[v, .bool true] else .tuple #[.agg #[.int .i64 0, .string ⟨#[]⟩, .int .i64 0, .slice none 0 0], .bool false]) w := by
  by_cases h : t = 162
  · simp [Instr.typeAssert, run_underlying Tryz.underlying162, h]
  · simp [Instr.typeAssert, run_underlying Tryz.underlying162, h]
theorem asn114 (w : World) : (Instr.typeAssert .nilIface 54 162 true).run Tryz.prog w = .ok (.tuple #[.agg #[.int .i64 0, .string ⟨#[]⟩, .int .i64 0, .slice none 0 0], .bool false]) w := by
  simp [Instr.typeAssert, run_underlying Tryz.underlying162]

theorem as117 (t : TypeId) (v : Value) (w : World) : (Instr.typeAssert (.iface t v) 54 165 true).run Tryz.prog w = .ok (if t = 165 then .tuple #[v, .bool true] else .tuple #[.agg #[.int .i64 0, .string ⟨#[]⟩, .int .i64 0, .slice none 0 0], .bool false]) w := by
  by_cases h : t = 165
  · simp [Instr.typeAssert, run_underlying Tryz.underlying165, h]
  · simp [Instr.typeAssert, run_underlying Tryz.underlying165, h]
theorem asn117 (w : World) : (Instr.typeAssert .nilIface 54 165 true).run Tryz.prog w = .ok (.tuple #[.agg #[.int .i64 0, .string ⟨#[]⟩, .int .i64 0, .slice none 0 0], .bool false]) w := by
  simp [Instr.typeAssert, run_underlying Tryz.underlying165]
end Go.Proofs.YtnalppgjbllehaaGreatDoor
