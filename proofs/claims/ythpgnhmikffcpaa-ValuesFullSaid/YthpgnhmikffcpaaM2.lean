/- Values without parts out of descriptors, further kinds. -/
import Derived.Test.YthpgnhmikffcpaaM1
import Derived.WalkSmall
namespace Go.Proofs.Ythpgnhmikffcpaa
set_option linter.unusedVariables false
set_option linter.unusedSimpArgs false
open Go.RowKit

theorem bit1 (x : Int) (h : U64 x) : bits BinOp.and IntKind.u64 x 1 = x % 2 := and_one_u64 x h.1 (by have := h.2; omega)
theorem low32q (x : Int) (w : World) : Calls Try.prog 57 #[.int .u64 x, .int .i64 32] w fun e w' => e = .returned (.int .u64 (x % 4294967296)) ∧ w' = w := (low32 x w).mono fun _ _ h => ⟨h.1, h.2.symm⟩
theorem low64q (x : Int) (hx : U64 x) (w : World) : Calls Try.prog 57 #[.int .u64 x, .int .i64 64] w fun e w' => e = .returned (.int .u64 x) ∧ w' = w := (low64 x hx w).mono fun _ _ h => ⟨h.1, h.2.symm⟩

set_option maxHeartbeats 4000000 in
set_option maxRecDepth 100000 in
theorem made_k1 (d : D) (w : World) (v : Value) (h : IsD w v d) (h1 : d.kind = 1) : Calls Try.prog 42 #[v] w (MadeIs w (leafV d)) := by
  obtain ⟨a5, c5, a6, c6, rfl, hk, hb, hi, ht, hx, hn, hp⟩ := h.open
  have HB := Lib.hid hb
  have HI := Lib.hid hi
  have HV : Hid (leafV d = .leaf (.bool d.base (d.bits % 2 == 1))) := by show _ = _; unfold leafV; simp [h1]
  have HBase : Hid (d.base = ⟨1, d.type, d.hook⟩) := by show _ = _; unfold D.base; rw [h1]
  clear hp hn hb hi hk ht hx h
  unfold aggD
  obtain ⟨x, hx⟩ : ∃ x, x = leafV d := ⟨_, rfl⟩
  rw [← hx] at HV
  rw [← hx, h1]
  clear hx h1
  go_enter Try.func42, Try.ntmps42
  go_wp2
  refine bodyPost_ret (v := .iface 82 (.agg #[.int .i64 1, .string d.type, .int .i64 d.hook, .bool (d.bits % 2 == 1)])) (by simp [results, Try.f42, go_sem, bit1 _ HB.out]) rfl ?_
  rw [HBase.out] at HV
  exact made_of (l := .bool ⟨1, d.type, d.hook⟩ (d.bits % 2 == 1)) (((Below.new _).push _)) HV.out

set_option maxHeartbeats 4000000 in
set_option maxRecDepth 100000 in
theorem made_k12 (d : D) (w : World) (v : Value) (h : IsD w v d) (h1 : d.kind = 12) : Calls Try.prog 42 #[v] w (MadeIs w (leafV d)) := by
  obtain ⟨a5, c5, a6, c6, rfl, hk, hb, hi, ht, hx, hn, hp⟩ := h.open
  have HB := Lib.hid hb
  have HI := Lib.hid hi
  have HV : Hid (leafV d = .leaf (.float d.base (d.bits % 4294967296) 32)) := by show _ = _; unfold leafV; simp [h1]
  have HBase : Hid (d.base = ⟨12, d.type, d.hook⟩) := by show _ = _; unfold D.base; rw [h1]
  clear hp hn hb hi hk ht hx h
  unfold aggD
  obtain ⟨x, hx⟩ : ∃ x, x = leafV d := ⟨_, rfl⟩
  rw [← hx] at HV
  rw [← hx, h1]
  clear hx h1
  go_enter Try.func42, Try.ntmps42
  go_wp2_with fail
  go_quiet ((first | (go_at_call 57; exact Calls.quiet_of_same (low32q _ _))))
  go_wp2_with fail
  refine bodyPost_ret (v := .iface 90 (.agg #[.int .i64 12, .string d.type, .int .i64 d.hook, .int .u64 (d.bits % 4294967296), .int .i64 32])) (by simp [results, Try.f42, go_sem]) rfl ?_
  rw [HBase.out] at HV
  exact made_of (l := .float ⟨12, d.type, d.hook⟩ (d.bits % 4294967296) 32) (((Below.new _).push _).drewN _) HV.out

set_option maxHeartbeats 4000000 in
set_option maxRecDepth 100000 in
theorem made_k13 (d : D) (w : World) (v : Value) (h : IsD w v d) (h1 : d.kind = 13) : Calls Try.prog 42 #[v] w (MadeIs w (leafV d)) := by
  obtain ⟨a5, c5, a6, c6, rfl, hk, hb, hi, ht, hx, hn, hp⟩ := h.open
  have HB := Lib.hid hb
  have HI := Lib.hid hi
  have HV : Hid (leafV d = .leaf (.float d.base d.bits 64)) := by show _ = _; unfold leafV; simp [h1]
  have HBase : Hid (d.base = ⟨13, d.type, d.hook⟩) := by show _ = _; unfold D.base; rw [h1]
  clear hp hn hb hi hk ht hx h
  unfold aggD
  obtain ⟨x, hx⟩ : ∃ x, x = leafV d := ⟨_, rfl⟩
  rw [← hx] at HV
  rw [← hx, h1]
  clear hx h1
  go_enter Try.func42, Try.ntmps42
  go_wp2_with fail
  go_quiet ((first | (go_at_call 57; with_reducible exact Calls.quiet_of_same (low64q _ HB.out _)) | (go_at_call 57; with_reducible exact Calls.quiet_of_same (low64q _ HI.out _))))
  go_wp2_with fail
  refine bodyPost_ret (v := .iface 90 (.agg #[.int .i64 13, .string d.type, .int .i64 d.hook, .int .u64 d.bits, .int .i64 64])) (by simp [results, Try.f42, go_sem]) rfl ?_
  rw [HBase.out] at HV
  exact made_of (l := .float ⟨13, d.type, d.hook⟩ d.bits 64) (((Below.new _).push _).drewN _) HV.out

set_option maxHeartbeats 4000000 in
set_option maxRecDepth 100000 in
theorem made_k14 (d : D) (w : World) (v : Value) (h : IsD w v d) (h1 : d.kind = 14) : Calls Try.prog 42 #[v] w (MadeIs w (leafV d)) := by
  obtain ⟨a5, c5, a6, c6, rfl, hk, hb, hi, ht, hx, hn, hp⟩ := h.open
  have HB := Lib.hid hb
  have HI := Lib.hid hi
  have HV : Hid (leafV d = .leaf (.cplx d.base (d.bits % 4294967296) (d.imag % 4294967296) 64)) := by show _ = _; unfold leafV; simp [h1]
  have HBase : Hid (d.base = ⟨14, d.type, d.hook⟩) := by show _ = _; unfold D.base; rw [h1]
  clear hp hn hb hi hk ht hx h
  unfold aggD
  obtain ⟨x, hx⟩ : ∃ x, x = leafV d := ⟨_, rfl⟩
  rw [← hx] at HV
  rw [← hx, h1]
  clear hx h1
  go_enter Try.func42, Try.ntmps42
  go_wp2_with fail
  go_quiet ((first | (go_at_call 57; exact Calls.quiet_of_same (low32q _ _))))
  go_wp2_with fail
  refine bodyPost_ret (v := .iface 92 (.agg #[.int .i64 14, .string d.type, .int .i64 d.hook, .int .u64 (d.bits % 4294967296), .int .u64 (d.imag % 4294967296), .int .i64 64])) (by simp [results, Try.f42, go_sem]) rfl ?_
  rw [HBase.out] at HV
  exact made_of (l := .cplx ⟨14, d.type, d.hook⟩ (d.bits % 4294967296) (d.imag % 4294967296) 64) (((Below.new _).push _).drewN _) HV.out

set_option maxHeartbeats 4000000 in
set_option maxRecDepth 100000 in
theorem made_k15 (d : D) (w : World) (v : Value) (h : IsD w v d) (h1 : d.kind = 15) : Calls Try.prog 42 #[v] w (MadeIs w (leafV d)) := by
  obtain ⟨a5, c5, a6, c6, rfl, hk, hb, hi, ht, hx, hn, hp⟩ := h.open
  have HB := Lib.hid hb
  have HI := Lib.hid hi
  have HV : Hid (leafV d = .leaf (.cplx d.base d.bits d.imag 128)) := by show _ = _; unfold leafV; simp [h1]
  have HBase : Hid (d.base = ⟨15, d.type, d.hook⟩) := by show _ = _; unfold D.base; rw [h1]
  clear hp hn hb hi hk ht hx h
  unfold aggD
  obtain ⟨x, hx⟩ : ∃ x, x = leafV d := ⟨_, rfl⟩
  rw [← hx] at HV
  rw [← hx, h1]
  clear hx h1
  go_enter Try.func42, Try.ntmps42
  go_wp2_with fail
  go_quiet ((first | (go_at_call 57; with_reducible exact Calls.quiet_of_same (low64q _ HB.out _)) | (go_at_call 57; with_reducible exact Calls.quiet_of_same (low64q _ HI.out _))))
  go_wp2_with fail
  refine bodyPost_ret (v := .iface 92 (.agg #[.int .i64 15, .string d.type, .int .i64 d.hook, .int .u64 d.bits, .int .u64 d.imag, .int .i64 128])) (by simp [results, Try.f42, go_sem]) rfl ?_
  rw [HBase.out] at HV
  exact made_of (l := .cplx ⟨15, d.type, d.hook⟩ d.bits d.imag 128) (((Below.new _).push _).drewN _) HV.out

set_option maxHeartbeats 4000000 in
set_option maxRecDepth 100000 in
theorem made_k16 (d : D) (w : World) (v : Value) (h : IsD w v d) (h1 : d.kind = 16) : Calls Try.prog 42 #[v] w (MadeIs w (leafV d)) := by
  obtain ⟨a5, c5, a6, c6, rfl, hk, hb, hi, ht, hx, hn, hp⟩ := h.open
  have HB := Lib.hid hb
  have HI := Lib.hid hi
  have HV : Hid (leafV d = .leaf (.text d.base d.text)) := by show _ = _; unfold leafV; simp [h1]
  have HBase : Hid (d.base = ⟨16, d.type, d.hook⟩) := by show _ = _; unfold D.base; rw [h1]
  clear hp hn hb hi hk ht hx h
  unfold aggD
  obtain ⟨x, hx⟩ : ∃ x, x = leafV d := ⟨_, rfl⟩
  rw [← hx] at HV
  rw [← hx, h1]
  clear hx h1
  go_enter Try.func42, Try.ntmps42
  go_wp2
  refine bodyPost_ret (v := .iface 94 (.agg #[.int .i64 16, .string d.type, .int .i64 d.hook, .string d.text])) (by simp [results, Try.f42, go_sem]) rfl ?_
  rw [HBase.out] at HV
  exact made_of (l := .text ⟨16, d.type, d.hook⟩ d.text) (((Below.new _).push _)) HV.out

set_option maxHeartbeats 4000000 in
set_option maxRecDepth 100000 in
theorem made_k17 (d : D) (w : World) (v : Value) (h : IsD w v d) (h1 : d.kind = 17) : Calls Try.prog 42 #[v] w (MadeIs w (leafV d)) := by
  obtain ⟨a5, c5, a6, c6, rfl, hk, hb, hi, ht, hx, hn, hp⟩ := h.open
  have HB := Lib.hid hb
  have HI := Lib.hid hi
  have HV : Hid (leafV d = .leaf (.bytes d.base d.text)) := by show _ = _; unfold leafV; simp [h1]
  have HBase : Hid (d.base = ⟨17, d.type, d.hook⟩) := by show _ = _; unfold D.base; rw [h1]
  clear hp hn hb hi hk ht hx h
  unfold aggD
  obtain ⟨x, hx⟩ : ∃ x, x = leafV d := ⟨_, rfl⟩
  rw [← hx] at HV
  rw [← hx, h1]
  clear hx h1
  go_enter Try.func42, Try.ntmps42
  go_wp2
  refine bodyPost_ret (v := .iface 95 (.agg #[.int .i64 17, .string d.type, .int .i64 d.hook, .string d.text])) (by simp [results, Try.f42, go_sem]) rfl ?_
  rw [HBase.out] at HV
  exact made_of (l := .bytes ⟨17, d.type, d.hook⟩ d.text) (((Below.new _).push _)) HV.out

theorem made_nil (d : D) (w : World) (v : Value) (h : IsD w v d) (h1 : d.kind = 0) : Calls Try.prog 42 #[v] w (MadeIs w (leafV d)) := by
  obtain ⟨a5, c5, a6, c6, rfl, hk, hb, hi, ht, hx, hn, hp⟩ := h.open
  have HV : Hid (leafV d = .nil) := by show _ = _; unfold leafV; simp [h1]
  clear hp hn hb hi hk ht hx h
  unfold aggD
  obtain ⟨x, hx⟩ : ∃ x, x = leafV d := ⟨_, rfl⟩
  rw [← hx] at HV
  rw [← hx, h1]
  clear hx h1
  go_enter Try.func42, Try.ntmps42
  go_wp2
  refine bodyPost_ret (v := .iface 80 (.agg #[])) (by simp [results, Try.f42, go_sem]) rfl ?_
  exact ⟨(Below.new _).push _, 80, _, rfl, by rw [HV.out]; exact .nil⟩
end Go.Proofs.Ythpgnhmikffcpaa
