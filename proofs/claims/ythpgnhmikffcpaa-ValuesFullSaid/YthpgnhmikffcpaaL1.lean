/- The document's examples are as it says: lives. No condition. -/
import Derived.Test.YthpgnhmikffcpaaT1
import Derived.Test.YthpgnhmikffcpaaT2
namespace Go.Proofs.Ythpgnhmikffcpaa
set_option linter.unusedVariables false
set_option linter.unusedSimpArgs false
open Go.RowKit

/-- Raw's answer with its cells open. -/
def RawAt (w : World) (d : D) (e : Ending) (w' : World) : Prop := Below w.heap.size w w' ∧ ∃ a5 c5 a6 c6, e = .returned (aggD d a5 c5 a6 c6) ∧ IsDF w' (w.heap.size ≤ ·) (aggD d a5 c5 a6 c6) d
theorem raw_at {w : World} {x : V} {e : Ending} {w' : World} (h : RawPost w x e w') : RawAt w (rawV x) e w' := by
  obtain ⟨h1, v, h2, h3⟩ := h
  refine ⟨h1, ?_⟩
  generalize rawV x = d at h3 ⊢
  have h4 := h3
  cases h3 with
  | mk S d a5 c5 a6 c6 b5 o5 b6 o6 P hk hb hi hh ht hx n1 n2 n3 n4 n5 p1 p2 p3 p4 p5 p6 p7 p8 => exact ⟨_, _, _, _, h2, h4⟩
theorem Raw_at {x : V} (hr : VR x) {w : World} {v : Value} (h : IsV w v x) : Calls Try.prog 17 #[v] w (RawAt w (rawV x)) := (Raw_any hr h).mono fun e w' h => raw_at h

/-- A descriptor of a kind and bits alone. -/
def bareD (k b : Int) : D := .mk k ⟨#[]⟩ b 0 ⟨#[]⟩ [] [] 0
theorem bareD_is {k b : Int} (hk : I64 k) (hb : U64 b) (w : World) : IsD w (.agg #[.int .i64 k, .string ⟨#[]⟩, .int .u64 b, .int .u64 0, .string ⟨#[]⟩, .slice none 0 0, .slice none 0 0, .int .i64 0]) (bareD k b) :=
  (IsDF.bare (S := fun _ => True) hk hb U64_0 I64_0 cap_0 cap_0).isD
theorem typed_empty : typedB ⟨#[]⟩ = true := by decide
theorem rfl_parts {k b : Int} (hg : greatK k = false) : partsOf (bareD k b) = [] := by unfold partsOf; rw [show (bareD k b).kind = k from rfl, hg]; rfl
theorem bare_fine {k : Int} (b : Int) (h0 : 0 ≤ k) (h17 : k ≤ 17) : errD (bareD k b) = 0 ∧ mkV (bareD k b) = some (leafV (bareD k b)) := by
  have hg : greatK k = false := by simp [greatK]; omega
  have hm : mkV (bareD k b) = some (leafV (bareD k b)) := mkV_leaf (by show k < 18; omega)
  refine ⟨?_, hm⟩
  rw [errD_is, hm]
  have h1 : sizeD (bareD k b) = 1 := by simp [bareD, sizeD, hg]
  have h2 : textD (bareD k b) = 0 := by
    have : ((⟨#[]⟩ : ByteArray).size : Int) = 0 := rfl
    simp [bareD, textD, hg, this]
  have h3 : depthD (bareD k b) = 1 := by simp [bareD, depthD, hg]
  have hp : partsOf (bareD k b) = [] := rfl_parts hg
  have h4 : allD kindB (bareD k b) = true := by rw [allD_eq, hp]; simp only [kindB, show (bareD k b).kind = k from rfl, allL, Bool.and_true, decide_eq_true_eq]; omega
  have h5 : allD formB (bareD k b) = true := by
    have e18 : ¬ k = 18 := by omega
    have e21 : ¬ k = 21 := by omega
    have e22 : ¬ k = 22 := by omega
    simp [bareD, allD, hg, formB, D.kind, D.type, typed_empty, e18, e21, e22]
  rw [h1, h2, h3, h4, h5]
  simp
theorem bare_bad {k : Int} (b : Int) (h : k < 0 ∨ 22 < k) : errD (bareD k b) = 3 := by
  have hg : greatK k = false := by simp [greatK]; omega
  rw [errD_is]
  have h1 : sizeD (bareD k b) = 1 := by simp [bareD, sizeD, hg]
  have h2 : textD (bareD k b) = 0 := by
    have : ((⟨#[]⟩ : ByteArray).size : Int) = 0 := rfl
    simp [bareD, textD, hg, this]
  have h3 : depthD (bareD k b) = 1 := by simp [bareD, depthD, hg]
  have hp : partsOf (bareD k b) = [] := rfl_parts hg
  have h4 : allD kindB (bareD k b) = false := by rw [allD_eq, hp]; simp only [kindB, show (bareD k b).kind = k from rfl, allL, Bool.and_true, decide_eq_false_iff_not]; omega
  rw [h1, h2, h3, h4]
  simp
/-- Build at such a descriptor. -/
theorem build_bare {k b : Int} (hk : I64 k) (hb : U64 b) (h0 : 0 ≤ k) (h17 : k ≤ 17) (w : World) : Calls Try.prog 14 #[.agg #[.int .i64 k, .string ⟨#[]⟩, .int .u64 b, .int .u64 0, .string ⟨#[]⟩, .slice none 0 0, .slice none 0 0, .int .i64 0]] w fun e w' =>
    Below w.heap.size w w' ∧ ∃ t y, e = .returned (.tuple #[.iface t y, .int .i64 0]) ∧ IsVF (w.heap.size ≤ ·) w' (.iface t y) (leafV (bareD k b)) := by
  obtain ⟨h1, h2⟩ := bare_fine b h0 h17
  refine (build_any (bareD_is hk hb w)).mono fun e w' h => ⟨h.1, ?_⟩
  obtain ⟨t, y, x, q1, q2, q3⟩ := h.2.2 h1
  rw [h2] at q1
  injection q1 with q1
  subst q1
  exact ⟨t, y, q2, q3⟩
theorem build_refused {k b : Int} (hk : I64 k) (hb : U64 b) (h : k < 0 ∨ 22 < k) (w : World) : Calls Try.prog 14 #[.agg #[.int .i64 k, .string ⟨#[]⟩, .int .u64 b, .int .u64 0, .string ⟨#[]⟩, .slice none 0 0, .slice none 0 0, .int .i64 0]] w fun e w' =>
    Below w.heap.size w w' ∧ e = .returned (.tuple #[.nilIface, .int .i64 3]) := by
  have h1 := bare_bad b h
  refine (build_any (bareD_is hk hb w)).mono fun e w' q => ⟨q.1, ?_⟩
  have := q.2.1 (by rw [h1]; decide)
  rw [h1] at this
  exact this

theorem fld26_2 (a0 a1 a2 a3 a4 a5 a6 a7 : Value) (w : World) : (Instr.field 26 (.agg #[a0, a1, a2, a3, a4, a5, a6, a7]) 2).run Try.prog w = .ok a2 w := by kernel_rfl
set_option maxHeartbeats 4000000 in
set_option maxRecDepth 100000 in
theorem lives_any (w : World) : Calls Try.prog 13 #[] w fun e w' => e = .returned (.bool true) ∧ Below w.heap.size w w' := by
  have hfld := fld26_2
  go_enter Try.func13, Try.ntmps13
  go_wp2_with fail
  refine (build_bare (k := 2) (b := 255) ⟨by decide, by decide⟩ ⟨by decide, by decide⟩ (by decide) (by decide) _).mono ?_
  rintro e w1 ⟨hB1, t, y, rfl, hv⟩
  have hl : leafV (bareD 2 255) = .leaf (.int ⟨2, ⟨#[]⟩, 0⟩ (-1)) := by rfl
  rw [hl] at hv
  have hval := isVF_leaf hv
  have hv' := hv.isV
  simp only [Leaf.val, Value.iface.injEq] at hval
  obtain ⟨rfl, rfl⟩ := hval
  have HV := Lib.hid hv'
  have HB1 := Lib.hid hB1
  clear hv hv' hB1
  go_wp2_with fail
  refine (build_refused (k := 23) (b := 0) ⟨by decide, by decide⟩ ⟨by decide, by decide⟩ (by decide) _).mono ?_
  rintro e w2 ⟨hB2, rfl⟩
  have HB2 := Lib.hid (HB1.out.next hB2)
  have HV2 := Lib.hid (HV.out.later hB2)
  clear hB2
  go_wp2_with fail
  refine (Raw_at (VR.leaf (.int ⟨2, ⟨#[]⟩, 0⟩ (-1)) ⟨⟨⟨by decide, by decide⟩, ⟨by decide, by decide⟩, cap_0⟩, ⟨by decide, by decide⟩⟩) HV2.out).mono ?_
  rintro e w3 ⟨hB3, a5, c5, a6, c6, rfl, _⟩
  have HB3 := Lib.hid (HB2.out.next hB3)
  have HV3 := Lib.hid (HV2.out.later hB3)
  clear hB3
  have hu : u64of (-1) = 18446744073709551615 := by decide
  simp only [aggD, rawV, rawLeaf, D.kind, D.type, D.bits, D.imag, D.text, D.names, D.parts, D.hook, hu]
  go_wp2_with fail
  refine (Type_any HV3.out ⟨by decide, by decide⟩).mono ?_
  rintro e w4 ⟨rfl, hB4⟩
  have HB4 := Lib.hid (HB3.out.next hB4)
  clear hB4
  have ht : typeV (.leaf (.int ⟨2, ⟨#[]⟩, 0⟩ (-1))) = ⟨#[105, 110, 116, 56]⟩ := by rfl
  rw [ht]
  go_wp2_with fail
  refine (named_any ⟨#[97, 95, 49]⟩ (by unfold cap47; decide) _).mono ?_
  have hn : namedB ⟨#[97, 95, 49]⟩ = true := by decide
  rw [hn]
  rintro e w5 ⟨rfl, hB5⟩
  have HB5 := Lib.hid (HB4.out.next hB5)
  clear hB5
  go_wp2_with fail
  go_ret
  exact ⟨rfl, HB5.out⟩
end Go.Proofs.Ythpgnhmikffcpaa
