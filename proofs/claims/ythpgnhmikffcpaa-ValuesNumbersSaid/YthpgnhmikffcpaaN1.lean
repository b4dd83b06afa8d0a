/- Whole numbers keep the bits that their kind has: the law's walk. No condition. -/
import Derived.Test.YthpgnhmikffcpaaL1
namespace Go.Proofs.Ythpgnhmikffcpaa
set_option linter.unusedVariables false
set_option linter.unusedSimpArgs false
open Go.RowKit

theorem s8 (b : Int) : u64of (sgnN 8 b) = IntKind.u64.wrap (IntKind.i8.wrap b) := by
  unfold u64of sgnN modN; simp [IntKind.wrap, IntKind.signed, IntKind.bits]; split <;> omega
theorem s16 (b : Int) : u64of (sgnN 16 b) = IntKind.u64.wrap (IntKind.i16.wrap b) := by
  unfold u64of sgnN modN; simp [IntKind.wrap, IntKind.signed, IntKind.bits]; split <;> omega
theorem s32 (b : Int) : u64of (sgnN 32 b) = IntKind.u64.wrap (wrap32 b) := by
  unfold u64of sgnN modN; simp [IntKind.wrap, IntKind.signed, IntKind.bits, wrap32]; split <;> omega
theorem s64 (b : Int) (h : U64 b) : u64of (sgnN 64 b) = b := by
  unfold U64 at h; unfold u64of sgnN modN; simp; split <;> omega
theorem n8 (b : Int) : unsN 8 b = IntKind.u64.wrap (IntKind.u8.wrap b) := by
  unfold unsN modN; simp [IntKind.wrap, IntKind.signed, IntKind.bits]; omega
theorem n16 (b : Int) : unsN 16 b = IntKind.u64.wrap (IntKind.u16.wrap b) := by
  unfold unsN modN; simp [IntKind.wrap, IntKind.signed, IntKind.bits]; omega
theorem n32 (b : Int) : unsN 32 b = IntKind.u64.wrap (IntKind.u32.wrap b) := by
  unfold unsN modN; simp [IntKind.wrap, IntKind.signed, IntKind.bits]; omega
theorem n64 (b : Int) (h : U64 b) : unsN 64 b = b := by
  unfold U64 at h; unfold unsN modN; simp; omega

set_option maxHeartbeats 4000000 in
theorem numbers_other (k b : Int) (hk : I64 k) (hb : U64 b) (h : k < 2 ∨ 11 < k) (w : World) : Calls Try.prog 4 #[.int .i64 k, .int .u64 b] w fun e w' => e = .returned (.bool true) ∧ Below w.heap.size w w' := by
  have hbd := build_any (bareD_is hk hb w)
  have hres : Hid (∀ e w', BuildPost w (bareD k b) e w' → Below w.heap.size w w' ∧ ((∃ t y, e = .returned (.tuple #[.iface t y, .int .i64 0])) ∨ ∃ c : Int, e = .returned (.tuple #[.nilIface, .int .i64 c]))) := by
    intro e w' q
    refine ⟨q.1, ?_⟩
    by_cases he : errD (bareD k b) = 0
    · obtain ⟨t, y, x, _, q2, _⟩ := q.2.2 he
      exact .inl ⟨t, y, q2⟩
    · exact .inr ⟨_, q.2.1 he⟩
  have HBD := Lib.hid hbd
  clear hbd
  have hcase : (k < 2) ∨ (2 ≤ k ∧ 11 < k) := by omega
  clear h hk hb
  rcases hcase with h | ⟨h, h'⟩
  all_goals
    go_enter Try.func4, Try.ntmps4
    go_wp2_with fail
    refine HBD.out.mono ?_
    intro e w1 hq
    obtain ⟨hB, hx⟩ := hres.out e w1 hq
    have HB := Lib.hid hB
    clear hq hB
    rcases hx with ⟨t, y, rfl⟩ | ⟨c, rfl⟩
    all_goals
      go_wp2_with fail
      refine (lives_any _).mono ?_
      rintro e w2 ⟨rfl, hB2⟩
      have HB2 := Lib.hid (HB.out.next hB2)
      clear hB2
      go_wp2_with fail
      go_ret
      exact ⟨rfl, HB2.out⟩

set_option maxHeartbeats 4000000 in
theorem numbers_2 (b : Int) (hb : U64 b) (w : World) : Calls Try.prog 4 #[.int .i64 2, .int .u64 b] w fun e w' => e = .returned (.bool true) ∧ Below w.heap.size w w' := by
  have hfld := fld26_2
  have hbd := build_bare (k := 2) (b := b) ⟨by decide, by decide⟩ hb (by decide) (by decide) w
  have hl : leafV (bareD 2 b) = .leaf (.int ⟨2, ⟨#[]⟩, 0⟩ (sgnN 8 b)) := by rfl
  rw [hl] at hbd
  have HBD := Lib.hid hbd
  have HU := Lib.hid hb
  clear hbd hl hb
  go_enter Try.func4, Try.ntmps4
  go_wp2_with fail
  refine HBD.out.mono ?_
  rintro e w1 ⟨hB1, t, y, rfl, hv⟩
  have hval := isVF_leaf hv
  have hv' := hv.isV
  simp only [Leaf.val, Value.iface.injEq] at hval
  obtain ⟨rfl, rfl⟩ := hval
  have HV := Lib.hid hv'
  have HB1 := Lib.hid hB1
  clear hv hv' hB1
  go_wp2_with fail
  refine (Raw_at (VR.leaf (.int ⟨2, ⟨#[]⟩, 0⟩ (sgnN 8 b)) ⟨⟨⟨by decide, by decide⟩, ⟨by decide, by decide⟩, cap_0⟩, sgnN_rng _ _⟩) HV.out).mono ?_
  rintro e w3 ⟨hB3, a5, c5, a6, c6, rfl, _⟩
  have HB3 := Lib.hid (HB1.out.next hB3)
  clear hB3
  simp only [aggD, rawV, rawLeaf, D.kind, D.type, D.bits, D.imag, D.text, D.names, D.parts, D.hook]
  rw [s8]
  go_wp2_with fail
  refine (lives_any _).mono ?_
  rintro e w2 ⟨rfl, hB2⟩
  have HB2 := Lib.hid (HB3.out.next hB2)
  clear hB2
  go_wp2_with fail
  go_ret
  exact ⟨rfl, HB2.out⟩

set_option maxHeartbeats 4000000 in
theorem numbers_3 (b : Int) (hb : U64 b) (w : World) : Calls Try.prog 4 #[.int .i64 3, .int .u64 b] w fun e w' => e = .returned (.bool true) ∧ Below w.heap.size w w' := by
  have hfld := fld26_2
  have hbd := build_bare (k := 3) (b := b) ⟨by decide, by decide⟩ hb (by decide) (by decide) w
  have hl : leafV (bareD 3 b) = .leaf (.int ⟨3, ⟨#[]⟩, 0⟩ (sgnN 16 b)) := by rfl
  rw [hl] at hbd
  have HBD := Lib.hid hbd
  have HU := Lib.hid hb
  clear hbd hl hb
  go_enter Try.func4, Try.ntmps4
  go_wp2_with fail
  refine HBD.out.mono ?_
  rintro e w1 ⟨hB1, t, y, rfl, hv⟩
  have hval := isVF_leaf hv
  have hv' := hv.isV
  simp only [Leaf.val, Value.iface.injEq] at hval
  obtain ⟨rfl, rfl⟩ := hval
  have HV := Lib.hid hv'
  have HB1 := Lib.hid hB1
  clear hv hv' hB1
  go_wp2_with fail
  refine (Raw_at (VR.leaf (.int ⟨3, ⟨#[]⟩, 0⟩ (sgnN 16 b)) ⟨⟨⟨by decide, by decide⟩, ⟨by decide, by decide⟩, cap_0⟩, sgnN_rng _ _⟩) HV.out).mono ?_
  rintro e w3 ⟨hB3, a5, c5, a6, c6, rfl, _⟩
  have HB3 := Lib.hid (HB1.out.next hB3)
  clear hB3
  simp only [aggD, rawV, rawLeaf, D.kind, D.type, D.bits, D.imag, D.text, D.names, D.parts, D.hook]
  rw [s16]
  go_wp2_with fail
  refine (lives_any _).mono ?_
  rintro e w2 ⟨rfl, hB2⟩
  have HB2 := Lib.hid (HB3.out.next hB2)
  clear hB2
  go_wp2_with fail
  go_ret
  exact ⟨rfl, HB2.out⟩

set_option maxHeartbeats 4000000 in
theorem numbers_4 (b : Int) (hb : U64 b) (w : World) : Calls Try.prog 4 #[.int .i64 4, .int .u64 b] w fun e w' => e = .returned (.bool true) ∧ Below w.heap.size w w' := by
  have hfld := fld26_2
  have hbd := build_bare (k := 4) (b := b) ⟨by decide, by decide⟩ hb (by decide) (by decide) w
  have hl : leafV (bareD 4 b) = .leaf (.int ⟨4, ⟨#[]⟩, 0⟩ (sgnN 32 b)) := by rfl
  rw [hl] at hbd
  have HBD := Lib.hid hbd
  have HU := Lib.hid hb
  clear hbd hl hb
  go_enter Try.func4, Try.ntmps4
  go_wp2_with fail
  refine HBD.out.mono ?_
  rintro e w1 ⟨hB1, t, y, rfl, hv⟩
  have hval := isVF_leaf hv
  have hv' := hv.isV
  simp only [Leaf.val, Value.iface.injEq] at hval
  obtain ⟨rfl, rfl⟩ := hval
  have HV := Lib.hid hv'
  have HB1 := Lib.hid hB1
  clear hv hv' hB1
  go_wp2_with fail
  refine (Raw_at (VR.leaf (.int ⟨4, ⟨#[]⟩, 0⟩ (sgnN 32 b)) ⟨⟨⟨by decide, by decide⟩, ⟨by decide, by decide⟩, cap_0⟩, sgnN_rng _ _⟩) HV.out).mono ?_
  rintro e w3 ⟨hB3, a5, c5, a6, c6, rfl, _⟩
  have HB3 := Lib.hid (HB1.out.next hB3)
  clear hB3
  simp only [aggD, rawV, rawLeaf, D.kind, D.type, D.bits, D.imag, D.text, D.names, D.parts, D.hook]
  rw [s32]
  go_wp2_with fail
  refine (lives_any _).mono ?_
  rintro e w2 ⟨rfl, hB2⟩
  have HB2 := Lib.hid (HB3.out.next hB2)
  clear hB2
  go_wp2_with fail
  go_ret
  exact ⟨rfl, HB2.out⟩

set_option maxHeartbeats 4000000 in
theorem numbers_5 (b : Int) (hb : U64 b) (w : World) : Calls Try.prog 4 #[.int .i64 5, .int .u64 b] w fun e w' => e = .returned (.bool true) ∧ Below w.heap.size w w' := by
  have hfld := fld26_2
  have hbd := build_bare (k := 5) (b := b) ⟨by decide, by decide⟩ hb (by decide) (by decide) w
  have hl : leafV (bareD 5 b) = .leaf (.int ⟨5, ⟨#[]⟩, 0⟩ (sgnN 64 b)) := by rfl
  rw [hl] at hbd
  have HBD := Lib.hid hbd
  have HU := Lib.hid hb
  clear hbd hl hb
  go_enter Try.func4, Try.ntmps4
  go_wp2_with fail
  refine HBD.out.mono ?_
  rintro e w1 ⟨hB1, t, y, rfl, hv⟩
  have hval := isVF_leaf hv
  have hv' := hv.isV
  simp only [Leaf.val, Value.iface.injEq] at hval
  obtain ⟨rfl, rfl⟩ := hval
  have HV := Lib.hid hv'
  have HB1 := Lib.hid hB1
  clear hv hv' hB1
  go_wp2_with fail
  refine (Raw_at (VR.leaf (.int ⟨5, ⟨#[]⟩, 0⟩ (sgnN 64 b)) ⟨⟨⟨by decide, by decide⟩, ⟨by decide, by decide⟩, cap_0⟩, sgnN_rng _ _⟩) HV.out).mono ?_
  rintro e w3 ⟨hB3, a5, c5, a6, c6, rfl, _⟩
  have HB3 := Lib.hid (HB1.out.next hB3)
  clear hB3
  simp only [aggD, rawV, rawLeaf, D.kind, D.type, D.bits, D.imag, D.text, D.names, D.parts, D.hook]
  rw [s64 b HU.out]
  go_wp2_with fail
  refine (lives_any _).mono ?_
  rintro e w2 ⟨rfl, hB2⟩
  have HB2 := Lib.hid (HB3.out.next hB2)
  clear hB2
  go_wp2_with fail
  go_ret
  exact ⟨rfl, HB2.out⟩

set_option maxHeartbeats 4000000 in
theorem numbers_6 (b : Int) (hb : U64 b) (w : World) : Calls Try.prog 4 #[.int .i64 6, .int .u64 b] w fun e w' => e = .returned (.bool true) ∧ Below w.heap.size w w' := by
  have hfld := fld26_2
  have hbd := build_bare (k := 6) (b := b) ⟨by decide, by decide⟩ hb (by decide) (by decide) w
  have hl : leafV (bareD 6 b) = .leaf (.int ⟨6, ⟨#[]⟩, 0⟩ (sgnN 64 b)) := by rfl
  rw [hl] at hbd
  have HBD := Lib.hid hbd
  have HU := Lib.hid hb
  clear hbd hl hb
  go_enter Try.func4, Try.ntmps4
  go_wp2_with fail
  refine HBD.out.mono ?_
  rintro e w1 ⟨hB1, t, y, rfl, hv⟩
  have hval := isVF_leaf hv
  have hv' := hv.isV
  simp only [Leaf.val, Value.iface.injEq] at hval
  obtain ⟨rfl, rfl⟩ := hval
  have HV := Lib.hid hv'
  have HB1 := Lib.hid hB1
  clear hv hv' hB1
  go_wp2_with fail
  refine (Raw_at (VR.leaf (.int ⟨6, ⟨#[]⟩, 0⟩ (sgnN 64 b)) ⟨⟨⟨by decide, by decide⟩, ⟨by decide, by decide⟩, cap_0⟩, sgnN_rng _ _⟩) HV.out).mono ?_
  rintro e w3 ⟨hB3, a5, c5, a6, c6, rfl, _⟩
  have HB3 := Lib.hid (HB1.out.next hB3)
  clear hB3
  simp only [aggD, rawV, rawLeaf, D.kind, D.type, D.bits, D.imag, D.text, D.names, D.parts, D.hook]
  rw [s64 b HU.out]
  go_wp2_with fail
  refine (lives_any _).mono ?_
  rintro e w2 ⟨rfl, hB2⟩
  have HB2 := Lib.hid (HB3.out.next hB2)
  clear hB2
  go_wp2_with fail
  go_ret
  exact ⟨rfl, HB2.out⟩

set_option maxHeartbeats 4000000 in
theorem numbers_7 (b : Int) (hb : U64 b) (w : World) : Calls Try.prog 4 #[.int .i64 7, .int .u64 b] w fun e w' => e = .returned (.bool true) ∧ Below w.heap.size w w' := by
  have hfld := fld26_2
  have hbd := build_bare (k := 7) (b := b) ⟨by decide, by decide⟩ hb (by decide) (by decide) w
  have hl : leafV (bareD 7 b) = .leaf (.uint ⟨7, ⟨#[]⟩, 0⟩ (unsN 8 b)) := by rfl
  rw [hl] at hbd
  have HBD := Lib.hid hbd
  have HU := Lib.hid hb
  clear hbd hl hb
  go_enter Try.func4, Try.ntmps4
  go_wp2_with fail
  refine HBD.out.mono ?_
  rintro e w1 ⟨hB1, t, y, rfl, hv⟩
  have hval := isVF_leaf hv
  have hv' := hv.isV
  simp only [Leaf.val, Value.iface.injEq] at hval
  obtain ⟨rfl, rfl⟩ := hval
  have HV := Lib.hid hv'
  have HB1 := Lib.hid hB1
  clear hv hv' hB1
  go_wp2_with fail
  refine (Raw_at (VR.leaf (.uint ⟨7, ⟨#[]⟩, 0⟩ (unsN 8 b)) ⟨⟨⟨by decide, by decide⟩, ⟨by decide, by decide⟩, cap_0⟩, unsN_rng _ _⟩) HV.out).mono ?_
  rintro e w3 ⟨hB3, a5, c5, a6, c6, rfl, _⟩
  have HB3 := Lib.hid (HB1.out.next hB3)
  clear hB3
  simp only [aggD, rawV, rawLeaf, D.kind, D.type, D.bits, D.imag, D.text, D.names, D.parts, D.hook]
  rw [n8]
  go_wp2_with fail
  refine (lives_any _).mono ?_
  rintro e w2 ⟨rfl, hB2⟩
  have HB2 := Lib.hid (HB3.out.next hB2)
  clear hB2
  go_wp2_with fail
  go_ret
  exact ⟨rfl, HB2.out⟩

set_option maxHeartbeats 4000000 in
theorem numbers_8 (b : Int) (hb : U64 b) (w : World) : Calls Try.prog 4 #[.int .i64 8, .int .u64 b] w fun e w' => e = .returned (.bool true) ∧ Below w.heap.size w w' := by
  have hfld := fld26_2
  have hbd := build_bare (k := 8) (b := b) ⟨by decide, by decide⟩ hb (by decide) (by decide) w
  have hl : leafV (bareD 8 b) = .leaf (.uint ⟨8, ⟨#[]⟩, 0⟩ (unsN 16 b)) := by rfl
  rw [hl] at hbd
  have HBD := Lib.hid hbd
  have HU := Lib.hid hb
  clear hbd hl hb
  go_enter Try.func4, Try.ntmps4
  go_wp2_with fail
  refine HBD.out.mono ?_
  rintro e w1 ⟨hB1, t, y, rfl, hv⟩
  have hval := isVF_leaf hv
  have hv' := hv.isV
  simp only [Leaf.val, Value.iface.injEq] at hval
  obtain ⟨rfl, rfl⟩ := hval
  have HV := Lib.hid hv'
  have HB1 := Lib.hid hB1
  clear hv hv' hB1
  go_wp2_with fail
  refine (Raw_at (VR.leaf (.uint ⟨8, ⟨#[]⟩, 0⟩ (unsN 16 b)) ⟨⟨⟨by decide, by decide⟩, ⟨by decide, by decide⟩, cap_0⟩, unsN_rng _ _⟩) HV.out).mono ?_
  rintro e w3 ⟨hB3, a5, c5, a6, c6, rfl, _⟩
  have HB3 := Lib.hid (HB1.out.next hB3)
  clear hB3
  simp only [aggD, rawV, rawLeaf, D.kind, D.type, D.bits, D.imag, D.text, D.names, D.parts, D.hook]
  rw [n16]
  go_wp2_with fail
  refine (lives_any _).mono ?_
  rintro e w2 ⟨rfl, hB2⟩
  have HB2 := Lib.hid (HB3.out.next hB2)
  clear hB2
  go_wp2_with fail
  go_ret
  exact ⟨rfl, HB2.out⟩

set_option maxHeartbeats 4000000 in
theorem numbers_9 (b : Int) (hb : U64 b) (w : World) : Calls Try.prog 4 #[.int .i64 9, .int .u64 b] w fun e w' => e = .returned (.bool true) ∧ Below w.heap.size w w' := by
  have hfld := fld26_2
  have hbd := build_bare (k := 9) (b := b) ⟨by decide, by decide⟩ hb (by decide) (by decide) w
  have hl : leafV (bareD 9 b) = .leaf (.uint ⟨9, ⟨#[]⟩, 0⟩ (unsN 32 b)) := by rfl
  rw [hl] at hbd
  have HBD := Lib.hid hbd
  have HU := Lib.hid hb
  clear hbd hl hb
  go_enter Try.func4, Try.ntmps4
  go_wp2_with fail
  refine HBD.out.mono ?_
  rintro e w1 ⟨hB1, t, y, rfl, hv⟩
  have hval := isVF_leaf hv
  have hv' := hv.isV
  simp only [Leaf.val, Value.iface.injEq] at hval
  obtain ⟨rfl, rfl⟩ := hval
  have HV := Lib.hid hv'
  have HB1 := Lib.hid hB1
  clear hv hv' hB1
  go_wp2_with fail
  refine (Raw_at (VR.leaf (.uint ⟨9, ⟨#[]⟩, 0⟩ (unsN 32 b)) ⟨⟨⟨by decide, by decide⟩, ⟨by decide, by decide⟩, cap_0⟩, unsN_rng _ _⟩) HV.out).mono ?_
  rintro e w3 ⟨hB3, a5, c5, a6, c6, rfl, _⟩
  have HB3 := Lib.hid (HB1.out.next hB3)
  clear hB3
  simp only [aggD, rawV, rawLeaf, D.kind, D.type, D.bits, D.imag, D.text, D.names, D.parts, D.hook]
  rw [n32]
  go_wp2_with fail
  refine (lives_any _).mono ?_
  rintro e w2 ⟨rfl, hB2⟩
  have HB2 := Lib.hid (HB3.out.next hB2)
  clear hB2
  go_wp2_with fail
  go_ret
  exact ⟨rfl, HB2.out⟩

set_option maxHeartbeats 4000000 in
theorem numbers_10 (b : Int) (hb : U64 b) (w : World) : Calls Try.prog 4 #[.int .i64 10, .int .u64 b] w fun e w' => e = .returned (.bool true) ∧ Below w.heap.size w w' := by
  have hfld := fld26_2
  have hbd := build_bare (k := 10) (b := b) ⟨by decide, by decide⟩ hb (by decide) (by decide) w
  have hl : leafV (bareD 10 b) = .leaf (.uint ⟨10, ⟨#[]⟩, 0⟩ (unsN 64 b)) := by rfl
  rw [hl] at hbd
  have HBD := Lib.hid hbd
  have HU := Lib.hid hb
  clear hbd hl hb
  go_enter Try.func4, Try.ntmps4
  go_wp2_with fail
  refine HBD.out.mono ?_
  rintro e w1 ⟨hB1, t, y, rfl, hv⟩
  have hval := isVF_leaf hv
  have hv' := hv.isV
  simp only [Leaf.val, Value.iface.injEq] at hval
  obtain ⟨rfl, rfl⟩ := hval
  have HV := Lib.hid hv'
  have HB1 := Lib.hid hB1
  clear hv hv' hB1
  go_wp2_with fail
  refine (Raw_at (VR.leaf (.uint ⟨10, ⟨#[]⟩, 0⟩ (unsN 64 b)) ⟨⟨⟨by decide, by decide⟩, ⟨by decide, by decide⟩, cap_0⟩, unsN_rng _ _⟩) HV.out).mono ?_
  rintro e w3 ⟨hB3, a5, c5, a6, c6, rfl, _⟩
  have HB3 := Lib.hid (HB1.out.next hB3)
  clear hB3
  simp only [aggD, rawV, rawLeaf, D.kind, D.type, D.bits, D.imag, D.text, D.names, D.parts, D.hook]
  rw [n64 b HU.out]
  go_wp2_with fail
  refine (lives_any _).mono ?_
  rintro e w2 ⟨rfl, hB2⟩
  have HB2 := Lib.hid (HB3.out.next hB2)
  clear hB2
  go_wp2_with fail
  go_ret
  exact ⟨rfl, HB2.out⟩

set_option maxHeartbeats 4000000 in
theorem numbers_11 (b : Int) (hb : U64 b) (w : World) : Calls Try.prog 4 #[.int .i64 11, .int .u64 b] w fun e w' => e = .returned (.bool true) ∧ Below w.heap.size w w' := by
  have hfld := fld26_2
  have hbd := build_bare (k := 11) (b := b) ⟨by decide, by decide⟩ hb (by decide) (by decide) w
  have hl : leafV (bareD 11 b) = .leaf (.uint ⟨11, ⟨#[]⟩, 0⟩ (unsN 64 b)) := by rfl
  rw [hl] at hbd
  have HBD := Lib.hid hbd
  have HU := Lib.hid hb
  clear hbd hl hb
  go_enter Try.func4, Try.ntmps4
  go_wp2_with fail
  refine HBD.out.mono ?_
  rintro e w1 ⟨hB1, t, y, rfl, hv⟩
  have hval := isVF_leaf hv
  have hv' := hv.isV
  simp only [Leaf.val, Value.iface.injEq] at hval
  obtain ⟨rfl, rfl⟩ := hval
  have HV := Lib.hid hv'
  have HB1 := Lib.hid hB1
  clear hv hv' hB1
  go_wp2_with fail
  refine (Raw_at (VR.leaf (.uint ⟨11, ⟨#[]⟩, 0⟩ (unsN 64 b)) ⟨⟨⟨by decide, by decide⟩, ⟨by decide, by decide⟩, cap_0⟩, unsN_rng _ _⟩) HV.out).mono ?_
  rintro e w3 ⟨hB3, a5, c5, a6, c6, rfl, _⟩
  have HB3 := Lib.hid (HB1.out.next hB3)
  clear hB3
  simp only [aggD, rawV, rawLeaf, D.kind, D.type, D.bits, D.imag, D.text, D.names, D.parts, D.hook]
  rw [n64 b HU.out]
  go_wp2_with fail
  refine (lives_any _).mono ?_
  rintro e w2 ⟨rfl, hB2⟩
  have HB2 := Lib.hid (HB3.out.next hB2)
  clear hB2
  go_wp2_with fail
  go_ret
  exact ⟨rfl, HB2.out⟩
end Go.Proofs.Ythpgnhmikffcpaa
