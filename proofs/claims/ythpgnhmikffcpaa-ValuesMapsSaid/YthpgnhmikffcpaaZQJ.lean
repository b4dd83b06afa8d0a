/- How many descriptors there are in all, and how deep: left, Big, the reference's Size and Deep. Condition: the argument is a descriptor; not too great. -/
import Derived.Test.YthpgnhmikffcpaaZB
import Derived.Test.YthpgnhmikffcpaaZQI
import Derived.Test.YthpgnhmikffcpaaZL1
import Derived.BigRegion
namespace Go.Proofs.Ythpgnhmikffcpaa
set_option linter.unusedVariables false
set_option linter.unusedSimpArgs false
open Go.RowKit

mutual
/-- All descriptors of a descriptor, looked at or not. -/
def wholeD : D → Nat
  | .mk _ _ _ _ _ _ p _ => wholeL p + 1
def wholeL : List D → Nat
  | [] => 0
  | x :: l => wholeD x + wholeL l
end
theorem wholeD_eq (d : D) : wholeD d = wholeL d.parts + 1 := by cases d; rfl
theorem wholeL_mem {x : D} : ∀ {l : List D}, x ∈ l → wholeD x ≤ wholeL l
  | y :: l, h => by
    rw [wholeL]
    rcases List.mem_cons.1 h with rfl | h
    · omega
    · have := wholeL_mem h; omega
theorem wholeD_pos (d : D) : 1 ≤ wholeD d := by rw [wholeD_eq]; omega
theorem wholeL_len : ∀ l : List D, l.length ≤ wholeL l
  | [] => Nat.le_refl _
  | x :: l => by have := wholeL_len l; have := wholeD_pos x; simp only [wholeL, List.length_cons]; omega

set_option maxHeartbeats 1000000 in
theorem left_any : ∀ (d : D) (w : World) (v : Value) (n : Nat), IsD w v d → 1 ≤ n → n ≤ 400 → Calls Try.prog 32 #[v, .int .i64 (n : Int)] w fun e w' => e = .returned (.int .i64 ((n - wholeD d : Nat) : Int)) ∧ Below w.heap.size w w' := by
  refine D.induct_d fun d ih w v n h hn1 hn => ?_
  have IH := Lib.hid ih
  have HE := Lib.hid (wholeD_eq d)
  obtain ⟨a5, c5, a6, c6, rfl, hk, hb, hi, ht, hx, hnm, hp⟩ := h.open
  clear hnm hb hi hk ht hx h ih
  unfold aggD
  have HPM := Lib.hid (fun x (hx : x ∈ d.parts) => IH.out x hx)
  have HP := Lib.hid (hp.below (Below.new (w := w) (.cells #[.int .i64 d.kind, .string d.type, .int .u64 d.bits, .int .u64 d.imag, .string d.text, .slice a5 d.names.length c5, .slice a6 d.parts.length c6, .int .i64 d.hook] 26)))
  have hl2 : d.parts.length ≤ 9223372036854775807 := by have := hp.2.1; unfold cap47 at this; omega
  obtain ⟨ps, hps⟩ : ∃ ps, d.parts = ps := ⟨_, rfl⟩
  rw [hps] at HP HPM HE hl2 ⊢
  clear hps hp IH
  go_enter Try.func32, Try.ntmps32
  go_wp2_with fail
  have HW1 := Lib.hid (Below.new (w := w) (.cells #[.int .i64 d.kind, .string d.type, .int .u64 d.bits, .int .u64 d.imag, .string d.text, .slice a5 d.names.length c5, .slice a6 ps.length c6, .int .i64 d.hook] 26))
  generalize w.alloc (.cells #[.int .i64 d.kind, .string d.type, .int .u64 d.bits, .int .u64 d.imag, .string d.text, .slice a5 d.names.length c5, .slice a6 ps.length c6, .int .i64 d.hook] 26) = w1 at HP HW1 ⊢
  go_loopw [1, 12] (fun m k wr => ∃ (i M : Nat), i ≤ ps.length ∧ m = .int .i64 M ∧ k = .int .i64 i ∧ M ≤ 400 ∧ Hid (n - 1 - wholeL ps = M - wholeL (ps.drop i)) ∧ Below w1.heap.size w1 wr) (fun _ k _ => ps.length - (intOf k).toNat)
  case atStart => exact ⟨0, n - 1, by omega, by go_num, rfl, by omega, by show _ = _; simp, Below.refl _ _⟩
  case round =>
    obtain ⟨i, M, hi, rfl, rfl, hM, HRec, hB⟩ := hrel
    have HB := Lib.hid hB
    clear hB
    by_cases hin : i < ps.length
    · obtain ⟨b, o, p5, q5, p6, q6, rfl, hrow, hD⟩ := HP.out.elem HB.out hin
      obtain ⟨k0, k1, k2, k3, k4, k5, k6, k7⟩ := hrow
      have hrc := HRec.out
      rw [drop_cons hin, wholeL] at hrc
      have HRec2 := Lib.hid hrc
      have HX := Lib.hid hD
      have hpos := wholeD_pos ps[i]
      have HIH := Lib.hid (HPM.out ps[i] (List.getElem_mem _))
      clear hrc hD
      obtain ⟨x, hx⟩ : ∃ x, x = ps[i] := ⟨_, rfl⟩
      rw [← hx] at k0 k1 k2 k3 k4 k5 k6 k7 HRec2 HX HIH hpos
      unfold aggD at HX
      clear hx
      by_cases hM0 : M = 0
      · subst hM0
        go_wp2_with fail
        go_ret
        refine ⟨?_, HW1.out.next (HB.out.push _)⟩
        have := HRec2.out; have := HE.out
        rw [show n - wholeD d = 0 by omega]; rfl
      · have hM1 : 1 ≤ M := by omega
        have hM2 : ¬ (M : Int) ≤ 0 := by omega
        clear hM0
        go_wp2_with fail
        refine (HIH.out _ _ M (HX.out.later (Below.new _)) hM1 hM).mono ?_
        rintro e w3 ⟨rfl, hB3⟩
        have HB3 := Lib.hid ((HB.out.push _).next hB3)
        obtain ⟨q, hq⟩ : ∃ q, q = M - wholeD x := ⟨_, rfl⟩
        have hqM : q ≤ M := by omega
        have HQ := Lib.hid hq
        rw [← hq]
        clear hq hB3 k0 k1 k2 k3 k4 k5 k6 k7 HX HIH
        go_wp2_with fail
        go_roundw
        case rel => exact ⟨i + 1, q, by omega, rfl, by go_num, by omega, by show _ = _; rw [HRec2.out, HQ.out]; omega, HB3.out⟩
        case measure => simp [intOf]; omega
    · go_wp2_with fail
      go_ret
      have h3 := HRec.out
      rw [List.drop_of_length_le (by omega), wholeL] at h3
      refine ⟨?_, HW1.out.next HB.out⟩
      have := HE.out
      rw [show n - wholeD d = M by omega]
      rfl
theorem ret_boolQ {a b : Bool} (h : a = b) : Ending.returned (.bool a) = .returned (.bool b) := by rw [h]
/-- Big. -/
theorem big_any {d : D} {w : World} {v : Value} (h : IsD w v d) : Calls Try.prog 12 #[v] w fun e w' => e = .returned (.bool (decide (400 ≤ wholeD d))) ∧ Below w.heap.size w w' := by
  have HD := Lib.hid h
  obtain ⟨a5, c5, a6, c6, rfl, hk, hb, hi, ht, hx, hnm, hp⟩ := h.open
  clear hnm hb hi hk ht hx h hp
  unfold aggD at HD ⊢
  go_enter Try.func12, Try.ntmps12
  go_wp2_with fail
  refine (left_any d _ _ 400 (HD.out.later (Below.new _)) (by omega) (by omega)).mono ?_
  rintro e w1 ⟨rfl, hB⟩
  have HB := Lib.hid ((Below.new _).next hB)
  clear hB
  obtain ⟨q, hq⟩ : ∃ q, 400 - wholeD d = q := ⟨_, rfl⟩
  rw [hq]
  have HQ := Lib.hid hq
  clear hq
  go_wp2_with fail
  go_ret
  exact ⟨ret_boolQ (by have := HQ.out; rw [decide_eq_decide]; omega), HB.out⟩

set_option maxHeartbeats 1000000 in
theorem refSize_any : ∀ (d : D) (w : World) (v : Value), IsD w v d → wholeD d ≤ 1000 → Calls Try.prog 29 #[v] w fun e w' => e = .returned (.int .i64 (wholeD d : Int)) ∧ Below w.heap.size w w' := by
  refine D.induct_d fun d ih w v h hd => ?_
  have IH := Lib.hid ih
  have HE := Lib.hid (wholeD_eq d)
  obtain ⟨a5, c5, a6, c6, rfl, hk, hb, hi, ht, hx, hnm, hp⟩ := h.open
  clear hnm hb hi hk ht hx h ih
  unfold aggD
  have HPM := Lib.hid (fun x (hx : x ∈ d.parts) => IH.out x hx)
  have HP := Lib.hid (hp.below (Below.new (w := w) (.cells #[.int .i64 d.kind, .string d.type, .int .u64 d.bits, .int .u64 d.imag, .string d.text, .slice a5 d.names.length c5, .slice a6 d.parts.length c6, .int .i64 d.hook] 26)))
  have hl2 : d.parts.length ≤ 9223372036854775807 := by have := hp.2.1; unfold cap47 at this; omega
  have hwl : wholeL d.parts ≤ 999 := by have := HE.out; omega
  obtain ⟨ps, hps⟩ : ∃ ps, d.parts = ps := ⟨_, rfl⟩
  rw [hps] at HP HPM HE hl2 hwl ⊢
  clear hps hp IH
  go_enter Try.func29, Try.ntmps29
  go_wp2_with fail
  have HW1 := Lib.hid (Below.new (w := w) (.cells #[.int .i64 d.kind, .string d.type, .int .u64 d.bits, .int .u64 d.imag, .string d.text, .slice a5 d.names.length c5, .slice a6 ps.length c6, .int .i64 d.hook] 26))
  generalize w.alloc (.cells #[.int .i64 d.kind, .string d.type, .int .u64 d.bits, .int .u64 d.imag, .string d.text, .slice a5 d.names.length c5, .slice a6 ps.length c6, .int .i64 d.hook] 26) = w1 at HP HW1 ⊢
  go_loopw [3, 9] (fun m k wr => ∃ (i M : Nat), i ≤ ps.length ∧ m = .int .i64 M ∧ k = .int .i64 i ∧ M + wholeL (ps.drop i) ≤ 1000 ∧ Hid (wholeL ps + 1 = M + wholeL (ps.drop i)) ∧ Below w1.heap.size w1 wr) (fun _ k _ => ps.length - (intOf k).toNat)
  case atStart => exact ⟨0, 1, by omega, rfl, rfl, by rw [List.drop_zero]; omega, by show _ = _; rw [List.drop_zero]; omega, Below.refl _ _⟩
  case round =>
    obtain ⟨i, M, hi, rfl, rfl, hM, HRec, hB⟩ := hrel
    have HB := Lib.hid hB
    clear hB
    by_cases hin : i < ps.length
    · obtain ⟨b, o, p5, q5, p6, q6, rfl, hrow, hD⟩ := HP.out.elem HB.out hin
      obtain ⟨k0, k1, k2, k3, k4, k5, k6, k7⟩ := hrow
      have hrc := HRec.out
      rw [drop_cons hin, wholeL] at hrc hM
      have HRec2 := Lib.hid hrc
      have HX := Lib.hid hD
      have HIH := Lib.hid (HPM.out ps[i] (List.getElem_mem _))
      clear hrc hD
      obtain ⟨x, hx⟩ : ∃ x, x = ps[i] := ⟨_, rfl⟩
      rw [← hx] at k0 k1 k2 k3 k4 k5 k6 k7 HRec2 HX HIH hM
      unfold aggD at HX
      clear hx
      go_wp2_with fail
      refine (HIH.out _ _ (HX.out.later (Below.new _)) (by omega)).mono ?_
      rintro e w3 ⟨rfl, hB3⟩
      have HB3 := Lib.hid ((HB.out.push _).next hB3)
      obtain ⟨q, hq⟩ : ∃ q, q = wholeD x := ⟨_, rfl⟩
      rw [← hq] at HRec2 hM ⊢
      clear hq hB3 k0 k1 k2 k3 k4 k5 k6 k7 HX HIH
      go_wp2_with fail
      go_roundw
      case rel => exact ⟨i + 1, M + q, by omega, by go_num, by go_num, by omega, by show _ = _; rw [HRec2.out]; omega, HB3.out⟩
      case measure => simp [intOf]; omega
    · go_wp2_with fail
      go_ret
      have h3 := HRec.out
      rw [List.drop_of_length_le (by omega), wholeL] at h3
      refine ⟨?_, HW1.out.next HB.out⟩
      have := HE.out
      rw [show wholeD d = M by omega]
      rfl

mutual
/-- How deep descriptors stand, looked at or not. -/
def deepD : D → Nat
  | .mk _ _ _ _ _ _ p _ => deepL p + 1
def deepL : List D → Nat
  | [] => 0
  | x :: l => max (deepD x) (deepL l)
end
theorem deepD_eq (d : D) : deepD d = deepL d.parts + 1 := by cases d; rfl
theorem deepL_mem {x : D} : ∀ {l : List D}, x ∈ l → deepD x ≤ deepL l
  | y :: l, h => by
    rw [deepL]
    rcases List.mem_cons.1 h with rfl | h
    · omega
    · have := deepL_mem h; omega

set_option maxHeartbeats 1000000 in
theorem refDeep_any : ∀ (d : D) (w : World) (v : Value), IsD w v d → deepD d ≤ 1000 → Calls Try.prog 31 #[v] w fun e w' => e = .returned (.int .i64 (deepD d : Int)) ∧ Below w.heap.size w w' := by
  refine D.induct_d fun d ih w v h hd => ?_
  have IH := Lib.hid ih
  have HE := Lib.hid (deepD_eq d)
  obtain ⟨a5, c5, a6, c6, rfl, hk, hb, hi, ht, hx, hnm, hp⟩ := h.open
  clear hnm hb hi hk ht hx h ih
  unfold aggD
  have HPM := Lib.hid (fun x (hx : x ∈ d.parts) => IH.out x hx)
  have HP := Lib.hid (hp.below (Below.new (w := w) (.cells #[.int .i64 d.kind, .string d.type, .int .u64 d.bits, .int .u64 d.imag, .string d.text, .slice a5 d.names.length c5, .slice a6 d.parts.length c6, .int .i64 d.hook] 26)))
  have hl2 : d.parts.length ≤ 9223372036854775807 := by have := hp.2.1; unfold cap47 at this; omega
  have hwl : deepL d.parts ≤ 999 := by have := HE.out; omega
  obtain ⟨ps, hps⟩ : ∃ ps, d.parts = ps := ⟨_, rfl⟩
  rw [hps] at HP HPM HE hl2 hwl ⊢
  clear hps hp IH
  go_enter Try.func31, Try.ntmps31
  go_wp2_with fail
  have HW1 := Lib.hid (Below.new (w := w) (.cells #[.int .i64 d.kind, .string d.type, .int .u64 d.bits, .int .u64 d.imag, .string d.text, .slice a5 d.names.length c5, .slice a6 ps.length c6, .int .i64 d.hook] 26))
  generalize w.alloc (.cells #[.int .i64 d.kind, .string d.type, .int .u64 d.bits, .int .u64 d.imag, .string d.text, .slice a5 d.names.length c5, .slice a6 ps.length c6, .int .i64 d.hook] 26) = w1 at HP HW1 ⊢
  go_loopw [3, 10] (fun m k wr => ∃ (i M : Nat), i ≤ ps.length ∧ m = .int .i64 M ∧ k = .int .i64 i ∧ M ≤ 1000 ∧ Hid (deepL ps = max M (deepL (ps.drop i))) ∧ Below w1.heap.size w1 wr) (fun _ k _ => ps.length - (intOf k).toNat)
  case atStart => exact ⟨0, 0, by omega, rfl, rfl, by omega, by show _ = _; rw [List.drop_zero]; omega, Below.refl _ _⟩
  case round =>
    obtain ⟨i, M, hi, rfl, rfl, hM, HRec, hB⟩ := hrel
    have HB := Lib.hid hB
    clear hB
    by_cases hin : i < ps.length
    · obtain ⟨b, o, p5, q5, p6, q6, rfl, hrow, hD⟩ := HP.out.elem HB.out hin
      obtain ⟨k0, k1, k2, k3, k4, k5, k6, k7⟩ := hrow
      have hrc := HRec.out
      rw [drop_cons hin, deepL] at hrc
      have hle : deepD ps[i] ≤ 1000 := by have := deepL_mem (List.getElem_mem hin); omega
      have HRec2 := Lib.hid hrc
      have HX := Lib.hid hD
      have HIH := Lib.hid (HPM.out ps[i] (List.getElem_mem _))
      clear hrc hD
      obtain ⟨x, hx⟩ : ∃ x, x = ps[i] := ⟨_, rfl⟩
      rw [← hx] at k0 k1 k2 k3 k4 k5 k6 k7 HRec2 HX HIH hle
      unfold aggD at HX
      clear hx
      go_wp2_with fail
      refine (HIH.out _ _ (HX.out.later (Below.new _)) hle).mono ?_
      rintro e w3 ⟨rfl, hB3⟩
      have HB3 := Lib.hid ((HB.out.push _).next hB3)
      obtain ⟨q, hq⟩ : ∃ q, q = deepD x := ⟨_, rfl⟩
      rw [← hq] at HRec2 hle ⊢
      clear hq hB3 k0 k1 k2 k3 k4 k5 k6 k7 HX HIH
      by_cases hxq : M < q
      · have hxq' : (M : Int) < (q : Int) := by omega
        go_wp2_with fail
        go_roundw
        case rel => exact ⟨i + 1, q, by omega, rfl, by go_num, by omega, by show _ = _; rw [HRec2.out]; omega, HB3.out⟩
        case measure => simp [intOf]; omega
      · have hxq' : ¬ (M : Int) < (q : Int) := by omega
        go_wp2_with fail
        go_roundw
        case rel => exact ⟨i + 1, M, by omega, rfl, by go_num, by omega, by show _ = _; rw [HRec2.out]; omega, HB3.out⟩
        case measure => simp [intOf]; omega
    · go_wp2_with fail
      go_ret
      have h3 := HRec.out
      rw [List.drop_of_length_le (by omega), deepL] at h3
      refine ⟨?_, HW1.out.next HB.out⟩
      have := HE.out
      rw [show deepD d = M + 1 by omega]
      rfl
end Go.Proofs.Ythpgnhmikffcpaa

/- The reference's Build, and the law's helper built. Condition: the argument is a descriptor. -/
namespace Go.Proofs.Ythpgnhmikffcpaa
set_option linter.unusedVariables false
set_option linter.unusedSimpArgs false
open Go.RowKit

theorem err_zero {d : D} (h : errD d = 0) : sizeD d ≤ 64 ∧ allD kindB d = true ∧ allD formB d = true ∧ ∃ x, mkV d = some x := by
  rw [errD_is] at h
  by_cases h1 : 64 < sizeD d ∨ 1024 < textD d
  · rw [if_pos h1] at h; cases h
  · rw [if_neg h1] at h
    by_cases h2 : 8 < depthD d
    · rw [if_pos h2] at h; cases h
    · rw [if_neg h2] at h
      by_cases h3 : allD kindB d = false
      · rw [if_pos h3] at h; cases h
      · rw [if_neg h3] at h
        by_cases h4 : allD formB d = false
        · rw [if_pos h4] at h; cases h
        · rw [if_neg h4] at h
          cases hm : mkV d with
          | none => rw [if_pos hm] at h; cases h
          | some x => exact ⟨by omega, by simpa using h3, by simpa using h4, x, rfl⟩
theorem ne_of2 {a b c k : Nat} (h1 : a + 1 < b) (h2 : b ≤ c) (hk : c ≤ k) : k ≠ a + 1 := by omega
theorem le_of2 {w w0 w1 : World} (h0 : Below w.heap.size w w0) (h1 : Below w0.heap.size w0 w1) {k : Nat} (hk : w1.heap.size ≤ k) : w.heap.size ≤ k := by
  have := h0.size
  have := h1.size
  omega
theorem drew_heap (w : World) : w.drew.heap = w.heap := rfl
theorem st8_drew {w : World} {b : Nat} {u0 u1 u2 u3 u4 u5 u6 u7 : Value} {k : Nat} (h : k ≠ b) : (st8 w b u0 u1 u2 u3 u4 u5 u6 u7).drew.heap[k]? = w.heap[k]? := by
  rw [drew_heap]
  exact st8_other h
def zeroA : Value := .agg #[.int .i64 0, .string ⟨#[]⟩, .int .u64 0, .int .u64 0, .string ⟨#[]⟩, .slice none 0 0, .slice none 0 0, .int .i64 0]
theorem zeroA_is (w : World) : IsD w zeroA zeroD := bareD_is (k := 0) (b := 0) I64_0 U64_0 w
/-- What the reference's Build hands back. -/
def RefPost (w : World) (d : D) (e : Ending) (w' : World) : Prop :=
  Below w.heap.size w w' ∧ ∃ k0 ty b0 i0 tx a5 n5 c5 a6 n6 c6 h0 du, e = .returned (.tuple #[.agg #[.int .i64 k0, .string ty, .int .u64 b0, .int .u64 i0, .string tx, .slice a5 n5 c5, .slice a6 n6 c6, .int .i64 h0], .int .i64 (errD d)]) ∧
    IsDF w' (w.heap.size ≤ ·) (.agg #[.int .i64 k0, .string ty, .int .u64 b0, .int .u64 i0, .string tx, .slice a5 n5 c5, .slice a6 n6 c6, .int .i64 h0]) du ∧ (errD d = 0 → ∃ x, mkV d = some x ∧ du = rawV x)
theorem tup2 {a : Value} {k : IntKind} {x y : Int} (h : x = y) : Ending.returned (.tuple #[a, .int k x]) = .returned (.tuple #[a, .int k y]) := by rw [h]
set_option maxRecDepth 100000 in
set_option maxHeartbeats 2000000 in
theorem refBuild_any {w : World} {v : Value} {d : D} (h : IsD w v d) : Calls Try.prog 15 #[v] w (RefPost w d) := by
  have HD := Lib.hid h
  obtain ⟨a5, c5, a6, c6, rfl, hk, hb, hi, ht, hx, hn, hp⟩ := h.open
  clear hp hn hb hi hk ht hx h
  unfold aggD at HD ⊢
  go_enter Try.func15, Try.ntmps15
  go_wp2_with fail
  have HB0 := Lib.hid ((Below.new (w := w) (.cells #[.int .i64 d.kind, .string d.type, .int .u64 d.bits, .int .u64 d.imag, .string d.text, .slice a5 d.names.length c5, .slice a6 d.parts.length c6, .int .i64 d.hook] 26)).push (.cells #[.int .i64 0, .string ⟨#[]⟩, .int .u64 0, .int .u64 0, .string ⟨#[]⟩, .slice none 0 0, .slice none 0 0, .int .i64 0] 26))
  have HBox : Hid (BoxD ((w.alloc (.cells #[.int .i64 d.kind, .string d.type, .int .u64 d.bits, .int .u64 d.imag, .string d.text, .slice a5 d.names.length c5, .slice a6 d.parts.length c6, .int .i64 d.hook] 26)).alloc (.cells #[.int .i64 0, .string ⟨#[]⟩, .int .u64 0, .int .u64 0, .string ⟨#[]⟩, .slice none 0 0, .slice none 0 0, .int .i64 0] 26)) w.heap.size d a5 c5 a6 c6) := (BoxD.new w d a5 c5 a6 c6).later (Below.new _)
  have HBr : Hid (Blk ((w.alloc (.cells #[.int .i64 d.kind, .string d.type, .int .u64 d.bits, .int .u64 d.imag, .string d.text, .slice a5 d.names.length c5, .slice a6 d.parts.length c6, .int .i64 d.hook] 26)).alloc (.cells #[.int .i64 0, .string ⟨#[]⟩, .int .u64 0, .int .u64 0, .string ⟨#[]⟩, .slice none 0 0, .slice none 0 0, .int .i64 0] 26)) (w.heap.size + 1) (.int .i64 0) (.string ⟨#[]⟩) (.int .u64 0) (.int .u64 0) (.string ⟨#[]⟩) (.slice none 0 0) (.slice none 0 0) (.int .i64 0)) := by
    have := Blk.of (heap_alloc_new (w.alloc (.cells #[.int .i64 d.kind, .string d.type, .int .u64 d.bits, .int .u64 d.imag, .string d.text, .slice a5 d.names.length c5, .slice a6 d.parts.length c6, .int .i64 d.hook] 26)) (.cells #[.int .i64 0, .string ⟨#[]⟩, .int .u64 0, .int .u64 0, .string ⟨#[]⟩, .slice none 0 0, .slice none 0 0, .int .i64 0] 26))
    exact Lib.hid (by simpa using this)
  generalize (w.alloc (.cells #[.int .i64 d.kind, .string d.type, .int .u64 d.bits, .int .u64 d.imag, .string d.text, .slice a5 d.names.length c5, .slice a6 d.parts.length c6, .int .i64 d.hook] 26)).alloc (.cells #[.int .i64 0, .string ⟨#[]⟩, .int .u64 0, .int .u64 0, .string ⟨#[]⟩, .slice none 0 0, .slice none 0 0, .int .i64 0] 26) = w0 at HB0 HBox HBr ⊢
  refine (check_any (HD.out.later HB0.out)).mono ?_
  rintro e w1 ⟨rfl, hB1⟩
  have HB1 := Lib.hid hB1
  have HBx1 := Lib.hid (HBox.out.later hB1)
  have HBr1 := Lib.hid (HBr.out.below hB1)
  have HBW := Lib.hid (HB0.out.next hB1)
  clear hB1
  obtain ⟨c, hc⟩ : ∃ c, errD d = c := ⟨_, rfl⟩
  have HC := Lib.hid hc
  rw [hc]
  clear hc
  obtain ⟨r0, r1, r2, r3, r4, r5, r6, r7, rf⟩ := HBr1.out
  have rf0 := rf 0
  have rf1 := rf 1
  have rf2 := rf 2
  have rf3 := rf 3
  have rf4 := rf 4
  have rf5 := rf 5
  have rf6 := rf 6
  have rf7 := rf 7
  clear rf
  by_cases hc0 : c = 0
  · subst hc0
    obtain ⟨q0, q1, q2, q3, q4, q5, q6, q7⟩ := HBx1.out
    obtain ⟨z1, z2, z3, x, hx⟩ := err_zero HC.out
    have HIn : Hid (∀ W, Below w.heap.size w W → Calls Try.prog 44 #[.agg #[.int .i64 d.kind, .string d.type, .int .u64 d.bits, .int .u64 d.imag, .string d.text, .slice a5 d.names.length c5, .slice a6 d.parts.length c6, .int .i64 d.hook]] W (RawOpen W x)) :=
      fun W hW => (in_any d z1 z2 z3 x hx W _ (HD.out.later hW)).mono fun e w' h => raw_open h
    have HX := Lib.hid hx
    clear z1 z2 z3 hx
    go_wp2_with fail
    refine (HIn.out _ HBW.out).mono ?_
    rintro e w2 ⟨hB2, k0, ty, b0, i0, tx, a5', n5, c5', a6', n6, c6', h0, rfl, hDF⟩
    have HB2 := Lib.hid hB2
    have HDF := Lib.hid hDF
    have HBr2 := Lib.hid (HBr1.out.below hB2)
    have HBW2 := Lib.hid (HBW.out.next hB2)
    have hz : w.heap.size + 1 < w1.heap.size := World.block_lt_of_cell? w1 _ r0
    have HZ := Lib.hid hz
    clear hB2 hDF q0 q1 q2 q3 q4 q5 q6 q7 r0 r1 r2 r3 r4 r5 r6 r7 rf0 rf1 rf2 rf3 rf4 rf5 rf6 rf7 hz
    obtain ⟨r0, r1, r2, r3, r4, r5, r6, r7, rf⟩ := HBr2.out
    have rf0 := rf 0
    have rf1 := rf 1
    have rf2 := rf 2
    have rf3 := rf 3
    have rf4 := rf 4
    have rf5 := rf 5
    have rf6 := rf 6
    have rf7 := rf 7
    clear rf
    go_wp2_with fail
    change bodyPost Try.prog Try.f15 _ _ _ (st8 w2 (w.heap.size + 1) (.int .i64 k0) (.string ty) (.int .u64 b0) (.int .u64 i0) (.string tx) (.slice a5' n5 c5') (.slice a6' n6 c6') (.int .i64 h0))
    have hb3 := Blk.put w2 (w.heap.size + 1) HBr2.out (.int .i64 k0) (.string ty) (.int .u64 b0) (.int .u64 i0) (.string tx) (.slice a5' n5 c5') (.slice a6' n6 c6') (.int .i64 h0)
    have HBW3 := Lib.hid (st8_below HBW2.out (by omega : w.heap.size ≤ w.heap.size + 1) (.int .i64 k0) (.string ty) (.int .u64 b0) (.int .u64 i0) (.string tx) (.slice a5' n5 c5') (.slice a6' n6 c6') (.int .i64 h0))
    have HDF3 := Lib.hid (HDF.out.keep (w' := st8 w2 (w.heap.size + 1) (.int .i64 k0) (.string ty) (.int .u64 b0) (.int .u64 i0) (.string tx) (.slice a5' n5 c5') (.slice a6' n6 c6') (.int .i64 h0)) fun k _ hk => st8_other (by have := HZ.out; omega))
    generalize st8 w2 (w.heap.size + 1) (.int .i64 k0) (.string ty) (.int .u64 b0) (.int .u64 i0) (.string tx) (.slice a5' n5 c5') (.slice a6' n6 c6') (.int .i64 h0) = W9 at hb3 HBW3 HDF3 ⊢
    clear r0 r1 r2 r3 r4 r5 r6 r7 rf0 rf1 rf2 rf3 rf4 rf5 rf6 rf7
    have zc0 := hb3.c0
    have zc1 := hb3.c1
    have zc2 := hb3.c2
    have zc3 := hb3.c3
    have zc4 := hb3.c4
    have zc5 := hb3.c5
    have zc6 := hb3.c6
    have zc7 := hb3.c7
    refine bodyPost_ret (v := .tuple #[.agg #[.int .i64 k0, .string ty, .int .u64 b0, .int .u64 i0, .string tx, .slice a5' n5 c5', .slice a6' n6 c6', .int .i64 h0], .int .i64 0]) (by simp [results, Try.f15, go_sem, zc0, zc1, zc2, zc3, zc4, zc5, zc6, zc7]) rfl ?_
    exact ⟨HBW3.out, _, _, _, _, _, _, _, _, _, _, _, _, _, tup2 HC.out.symm, HDF3.out.mono (fun k hk => le_of2 HB0.out HB1.out hk), fun _ => ⟨x, HX.out, rfl⟩⟩
  · have hc1 : (c != 0) = true := by simpa using hc0
    have HC0 := Lib.hid hc0
    clear hc0
    go_wp2_with fail
    change bodyPost Try.prog Try.f15 _ _ _ (st8 w1 (w.heap.size + 1) (.int .i64 0) (.string ⟨#[]⟩) (.int .u64 0) (.int .u64 0) (.string ⟨#[]⟩) (.slice none 0 0) (.slice none 0 0) (.int .i64 0))
    have hb3 := Blk.put w1 (w.heap.size + 1) HBr1.out (.int .i64 0) (.string ⟨#[]⟩) (.int .u64 0) (.int .u64 0) (.string ⟨#[]⟩) (.slice none 0 0) (.slice none 0 0) (.int .i64 0)
    have HBW3 := Lib.hid (st8_below HBW.out (by omega : w.heap.size ≤ w.heap.size + 1) (.int .i64 0) (.string ⟨#[]⟩) (.int .u64 0) (.int .u64 0) (.string ⟨#[]⟩) (.slice none 0 0) (.slice none 0 0) (.int .i64 0))
    generalize st8 w1 (w.heap.size + 1) (.int .i64 0) (.string ⟨#[]⟩) (.int .u64 0) (.int .u64 0) (.string ⟨#[]⟩) (.slice none 0 0) (.slice none 0 0) (.int .i64 0) = W9 at hb3 HBW3 ⊢
    clear r0 r1 r2 r3 r4 r5 r6 r7 rf0 rf1 rf2 rf3 rf4 rf5 rf6 rf7
    have zc0 := hb3.c0
    have zc1 := hb3.c1
    have zc2 := hb3.c2
    have zc3 := hb3.c3
    have zc4 := hb3.c4
    have zc5 := hb3.c5
    have zc6 := hb3.c6
    have zc7 := hb3.c7
    refine bodyPost_ret (v := .tuple #[.agg #[.int .i64 0, .string ⟨#[]⟩, .int .u64 0, .int .u64 0, .string ⟨#[]⟩, .slice none 0 0, .slice none 0 0, .int .i64 0], .int .i64 c]) (by simp [results, Try.f15, go_sem, zc0, zc1, zc2, zc3, zc4, zc5, zc6, zc7]) rfl ?_
    exact ⟨HBW3.out, _, _, _, _, _, _, _, _, _, _, _, _, zeroD, tup2 HC.out.symm, IsDF.bare I64_0 U64_0 U64_0 I64_0 cap_0 cap_0, fun h => absurd (HC.out.symm.trans h) HC0.out⟩
/-- What the law's helper built hands back. -/
def BuiltPost (w : World) (d : D) (e : Ending) (w' : World) : Prop :=
  Below w.heap.size w w' ∧ ∃ v ok k0 ty b0 i0 tx a5 n5 c5 a6 n6 c6 h0 du, e = .returned (.tuple #[v, .agg #[.int .i64 k0, .string ty, .int .u64 b0, .int .u64 i0, .string tx, .slice a5 n5 c5, .slice a6 n6 c6, .int .i64 h0], .bool ok]) ∧
    IsD w' (.agg #[.int .i64 k0, .string ty, .int .u64 b0, .int .u64 i0, .string tx, .slice a5 n5 c5, .slice a6 n6 c6, .int .i64 h0]) du ∧ (v = .nilIface ∨ ∃ t y, v = .iface t y) ∧
    (ok = true → wholeD d < 400 ∧ errD d = 0 ∧ ∃ x, mkV d = some x ∧ IsVF (w.heap.size ≤ ·) w' v x ∧ du = rawV x)
set_option maxRecDepth 100000 in
set_option maxHeartbeats 4000000 in
theorem built_any {w : World} {v : Value} {d : D} (h : IsD w v d) : Calls Try.prog 18 #[v] w (BuiltPost w d) := by
  have HD := Lib.hid h
  obtain ⟨a5, c5, a6, c6, rfl, hk, hb, hi, ht, hx, hn, hp⟩ := h.open
  clear hp hn hb hi hk ht hx h
  unfold aggD at HD ⊢
  go_enter Try.func18, Try.ntmps18
  go_wp2_with fail
  have HB0 := Lib.hid ((Below.new (w := w) (.cells #[.int .i64 d.kind, .string d.type, .int .u64 d.bits, .int .u64 d.imag, .string d.text, .slice a5 d.names.length c5, .slice a6 d.parts.length c6, .int .i64 d.hook] 26)).push (.cells #[.int .i64 0, .string ⟨#[]⟩, .int .u64 0, .int .u64 0, .string ⟨#[]⟩, .slice none 0 0, .slice none 0 0, .int .i64 0] 26))
  have HBox : Hid (BoxD ((w.alloc (.cells #[.int .i64 d.kind, .string d.type, .int .u64 d.bits, .int .u64 d.imag, .string d.text, .slice a5 d.names.length c5, .slice a6 d.parts.length c6, .int .i64 d.hook] 26)).alloc (.cells #[.int .i64 0, .string ⟨#[]⟩, .int .u64 0, .int .u64 0, .string ⟨#[]⟩, .slice none 0 0, .slice none 0 0, .int .i64 0] 26)) w.heap.size d a5 c5 a6 c6) := (BoxD.new w d a5 c5 a6 c6).later (Below.new _)
  have HBr : Hid (Blk ((w.alloc (.cells #[.int .i64 d.kind, .string d.type, .int .u64 d.bits, .int .u64 d.imag, .string d.text, .slice a5 d.names.length c5, .slice a6 d.parts.length c6, .int .i64 d.hook] 26)).alloc (.cells #[.int .i64 0, .string ⟨#[]⟩, .int .u64 0, .int .u64 0, .string ⟨#[]⟩, .slice none 0 0, .slice none 0 0, .int .i64 0] 26)) (w.heap.size + 1) (.int .i64 0) (.string ⟨#[]⟩) (.int .u64 0) (.int .u64 0) (.string ⟨#[]⟩) (.slice none 0 0) (.slice none 0 0) (.int .i64 0)) := by
    have := Blk.of (heap_alloc_new (w.alloc (.cells #[.int .i64 d.kind, .string d.type, .int .u64 d.bits, .int .u64 d.imag, .string d.text, .slice a5 d.names.length c5, .slice a6 d.parts.length c6, .int .i64 d.hook] 26)) (.cells #[.int .i64 0, .string ⟨#[]⟩, .int .u64 0, .int .u64 0, .string ⟨#[]⟩, .slice none 0 0, .slice none 0 0, .int .i64 0] 26))
    exact Lib.hid (by simpa using this)
  generalize (w.alloc (.cells #[.int .i64 d.kind, .string d.type, .int .u64 d.bits, .int .u64 d.imag, .string d.text, .slice a5 d.names.length c5, .slice a6 d.parts.length c6, .int .i64 d.hook] 26)).alloc (.cells #[.int .i64 0, .string ⟨#[]⟩, .int .u64 0, .int .u64 0, .string ⟨#[]⟩, .slice none 0 0, .slice none 0 0, .int .i64 0] 26) = w0 at HB0 HBox HBr ⊢
  refine (big_any (HD.out.later HB0.out)).mono ?_
  rintro e w1 ⟨rfl, hB1⟩
  have HB1 := Lib.hid hB1
  have HBx1 := Lib.hid (HBox.out.later hB1)
  have HBr1 := Lib.hid (HBr.out.below hB1)
  have HBW := Lib.hid (HB0.out.next hB1)
  clear hB1
  by_cases hbig : 400 ≤ wholeD d
  · rw [decide_eq_true hbig]
    have HBG := Lib.hid hbig
    clear hbig
    obtain ⟨r0, r1, r2, r3, r4, r5, r6, r7, rf⟩ := HBr1.out
    have rf0 := rf 0
    have rf1 := rf 1
    have rf2 := rf 2
    have rf3 := rf 3
    have rf4 := rf 4
    have rf5 := rf 5
    have rf6 := rf 6
    have rf7 := rf 7
    clear rf
    go_wp2_with fail
    change bodyPost Try.prog Try.f18 _ _ _ (st8 w1 (w.heap.size + 1) (.int .i64 0) (.string ⟨#[]⟩) (.int .u64 0) (.int .u64 0) (.string ⟨#[]⟩) (.slice none 0 0) (.slice none 0 0) (.int .i64 0))
    have hb3 := Blk.put w1 (w.heap.size + 1) HBr1.out (.int .i64 0) (.string ⟨#[]⟩) (.int .u64 0) (.int .u64 0) (.string ⟨#[]⟩) (.slice none 0 0) (.slice none 0 0) (.int .i64 0)
    have HBW3 := Lib.hid (st8_below HBW.out (by omega : w.heap.size ≤ w.heap.size + 1) (.int .i64 0) (.string ⟨#[]⟩) (.int .u64 0) (.int .u64 0) (.string ⟨#[]⟩) (.slice none 0 0) (.slice none 0 0) (.int .i64 0))
    generalize st8 w1 (w.heap.size + 1) (.int .i64 0) (.string ⟨#[]⟩) (.int .u64 0) (.int .u64 0) (.string ⟨#[]⟩) (.slice none 0 0) (.slice none 0 0) (.int .i64 0) = W9 at hb3 HBW3 ⊢
    clear r0 r1 r2 r3 r4 r5 r6 r7 rf0 rf1 rf2 rf3 rf4 rf5 rf6 rf7
    have zc0 := hb3.c0
    have zc1 := hb3.c1
    have zc2 := hb3.c2
    have zc3 := hb3.c3
    have zc4 := hb3.c4
    have zc5 := hb3.c5
    have zc6 := hb3.c6
    have zc7 := hb3.c7
    refine bodyPost_ret (v := .tuple #[.nilIface, .agg #[.int .i64 0, .string ⟨#[]⟩, .int .u64 0, .int .u64 0, .string ⟨#[]⟩, .slice none 0 0, .slice none 0 0, .int .i64 0], .bool false]) (by simp [results, Try.f18, go_sem, zc0, zc1, zc2, zc3, zc4, zc5, zc6, zc7]) rfl ?_
    exact ⟨HBW3.out, _, _, _, _, _, _, _, _, _, _, _, _, _, _, zeroD, rfl, zeroA_is _, .inl rfl, fun h => by cases h⟩
  · rw [decide_eq_false hbig]
    have HSM : Hid (wholeD d < 400) := by show _ < _; omega
    clear hbig
    obtain ⟨q0, q1, q2, q3, q4, q5, q6, q7⟩ := HBx1.out
    go_wp2_with fail
    refine (build_any (HD.out.later HBW.out)).mono ?_
    rintro e w2 ⟨hB2, hbad, hgood⟩
    have HB2 := Lib.hid hB2
    have HBx2 := Lib.hid (HBx1.out.later hB2)
    have HBr2 := Lib.hid (HBr1.out.below hB2)
    have HBW2 := Lib.hid (HBW.out.next hB2)
    have HV : Hid (∃ v, e = .returned (.tuple #[v, .int .i64 (errD d)]) ∧ (v = .nilIface ∨ ∃ t y, v = .iface t y) ∧ (errD d = 0 → ∃ x, mkV d = some x ∧ IsVF (w1.heap.size ≤ ·) w2 v x)) := by
      by_cases h0 : errD d = 0
      · obtain ⟨t, y, x, h1, h2, h3⟩ := hgood h0
        exact Lib.hid ⟨.iface t y, by rw [h0]; exact h2, .inr ⟨t, y, rfl⟩, fun _ => ⟨x, h1, h3⟩⟩
      · exact Lib.hid ⟨.nilIface, hbad h0, .inl rfl, fun h => absurd h h0⟩
    obtain ⟨v, rfl, hv1, hv2⟩ := HV.out
    have HV1 := Lib.hid hv1
    have HV2 := Lib.hid hv2
    clear hB2 hbad hgood HV hv1 hv2 q0 q1 q2 q3 q4 q5 q6 q7
    obtain ⟨c, hc⟩ : ∃ c, errD d = c := ⟨_, rfl⟩
    have HC := Lib.hid hc
    rw [hc]
    clear hc
    obtain ⟨q0, q1, q2, q3, q4, q5, q6, q7⟩ := HBx2.out
    go_wp2_with fail
    refine (refBuild_any (HD.out.later HBW2.out)).mono ?_
    rintro e w3 ⟨hB3, k0, ty, b0, i0, tx, a5', n5, c5', a6', n6, c6', h0, du, rfl, hdu, hgood⟩
    rw [HC.out]
    have HB3 := Lib.hid hB3
    have HDU := Lib.hid hdu
    have HG := Lib.hid hgood
    have HBr3 := Lib.hid (HBr2.out.below hB3)
    have HBW3 := Lib.hid (HBW2.out.next hB3)
    clear hB3 hdu hgood q0 q1 q2 q3 q4 q5 q6 q7
    go_upto_region 5 with fail
    have HBr4 := Lib.hid (HBr3.out.below (Below.new (.cells #[.int .i64 k0, .string ty, .int .u64 b0, .int .u64 i0, .string tx, .slice a5' n5 c5', .slice a6' n6 c6', .int .i64 h0] 26)))
    have HB4 := Lib.hid (HBW3.out.push (.cells #[.int .i64 k0, .string ty, .int .u64 b0, .int .u64 i0, .string tx, .slice a5' n5 c5', .slice a6' n6 c6', .int .i64 h0] 26))
    have HBx := Lib.hid (Blk.of (heap_alloc_new w3 (.cells #[.int .i64 k0, .string ty, .int .u64 b0, .int .u64 i0, .string tx, .slice a5' n5 c5', .slice a6' n6 c6', .int .i64 h0] 26)))
    have HDU4 := Lib.hid (HDU.out.later (Below.new (.cells #[.int .i64 k0, .string ty, .int .u64 b0, .int .u64 i0, .string tx, .slice a5' n5 c5', .slice a6' n6 c6', .int .i64 h0] 26)))
    have HZ1 : Hid (w.heap.size + 1 < w1.heap.size) := World.block_lt_of_cell? w1 _ HBr1.out.c0
    have HZ12 := Lib.hid HB2.out.size
    have hB34 : Below w3.heap.size w3 (w3.alloc (.cells #[.int .i64 k0, .string ty, .int .u64 b0, .int .u64 i0, .string tx, .slice a5' n5 c5', .slice a6' n6 c6', .int .i64 h0] 26)) := Below.new _
    have HB34 := Lib.hid hB34
    have hne : w3.heap.size ≠ w.heap.size + 1 := by
      have := World.block_lt_of_cell? w3 _ HBr3.out.c0
      simp only at this
      omega
    generalize w3.alloc (.cells #[.int .i64 k0, .string ty, .int .u64 b0, .int .u64 i0, .string tx, .slice a5' n5 c5', .slice a6' n6 c6', .int .i64 h0] 26) = W4 at HBr4 HB4 HBx HDU4 HB34 hB34 ⊢
    clear hB34
    obtain ⟨r0, r1, r2, r3, r4, r5, r6, r7, rf⟩ := HBr4.out
    have rf0 := rf 0
    have rf1 := rf 1
    have rf2 := rf 2
    have rf3 := rf 3
    have rf4 := rf 4
    have rf5 := rf 5
    have rf6 := rf 6
    have rf7 := rf 7
    obtain ⟨s0, s1, s2, s3, s4, s5, s6, s7, sf⟩ := HBx.out
    clear rf sf
    by_cases hc0 : c = 0
    · have hc1 : (c == 0) = true := by simpa using hc0
      have HC0 := Lib.hid hc0
      clear hc0
      go_region
      all_goals
        go_wp2_with fail
        change bodyPost Try.prog Try.f18 _ _ _ (st8 W4 (w.heap.size + 1) (.int .i64 k0) (.string ty) (.int .u64 b0) (.int .u64 i0) (.string tx) (.slice a5' n5 c5') (.slice a6' n6 c6') (.int .i64 h0)).drew
        have hb3 := (Blk.put W4 (w.heap.size + 1) HBr4.out (.int .i64 k0) (.string ty) (.int .u64 b0) (.int .u64 i0) (.string tx) (.slice a5' n5 c5') (.slice a6' n6 c6') (.int .i64 h0)).drew
        have HBW9 := Lib.hid (st8_below HB4.out (by omega : w.heap.size ≤ w.heap.size + 1) (.int .i64 k0) (.string ty) (.int .u64 b0) (.int .u64 i0) (.string tx) (.slice a5' n5 c5') (.slice a6' n6 c6') (.int .i64 h0)).drew
        have HKP : Hid (∀ k, k ≠ w.heap.size + 1 → (st8 W4 (w.heap.size + 1) (.int .i64 k0) (.string ty) (.int .u64 b0) (.int .u64 i0) (.string tx) (.slice a5' n5 c5') (.slice a6' n6 c6') (.int .i64 h0)).drew.heap[k]? = W4.heap[k]?) := fun k hk => st8_drew hk
        generalize (st8 W4 (w.heap.size + 1) (.int .i64 k0) (.string ty) (.int .u64 b0) (.int .u64 i0) (.string tx) (.slice a5' n5 c5') (.slice a6' n6 c6') (.int .i64 h0)).drew = W9 at hb3 HBW9 HKP ⊢
        clear r0 r1 r2 r3 r4 r5 r6 r7 rf0 rf1 rf2 rf3 rf4 rf5 rf6 rf7 s0 s1 s2 s3 s4 s5 s6 s7
        have zc0 := hb3.c0
        have zc1 := hb3.c1
        have zc2 := hb3.c2
        have zc3 := hb3.c3
        have zc4 := hb3.c4
        have zc5 := hb3.c5
        have zc6 := hb3.c6
        have zc7 := hb3.c7
        refine bodyPost_ret (v := .tuple #[v, .agg #[.int .i64 k0, .string ty, .int .u64 b0, .int .u64 i0, .string tx, .slice a5' n5 c5', .slice a6' n6 c6', .int .i64 h0], .bool true]) (by simp [results, Try.f18, go_sem, zc0, zc1, zc2, zc3, zc4, zc5, zc6, zc7]) rfl ?_
        refine ⟨HBW9.out, _, _, _, _, _, _, _, _, _, _, _, _, _, _, du, rfl, ?_, HV1.out, fun _ => ?_⟩
        · exact (HDU4.out.keep fun k _ hk => HKP.out k (ne_of2 HZ1.out HZ12.out hk)).isD
        · obtain ⟨x, hx, hvf⟩ := HV2.out (HC.out.trans HC0.out)
          obtain ⟨x', hx', hdu⟩ := HG.out (HC.out.trans HC0.out)
          rw [hx] at hx'
          injection hx' with hx'
          subst hx'
          refine ⟨HSM.out, HC.out.trans HC0.out, x, hx, ?_, hdu⟩
          refine hvf.keep fun k hk hk' => ⟨le_of2 HB0.out HB1.out hk', ?_⟩
          have hk2 : w1.heap.size ≤ k := hk'
          have hz1 := HZ1.out
          have hz3 := HB3.out.size
          rw [HKP.out k (by omega), HB34.out.block k (by omega), HB3.out.block k hk]
    · have hc1 : (c == 0) = false := by simpa using hc0
      have HC0 := Lib.hid hc0
      clear hc0
      go_region
      all_goals
        go_wp2_with fail
        change bodyPost Try.prog Try.f18 _ _ _ (st8 W4 (w.heap.size + 1) (.int .i64 k0) (.string ty) (.int .u64 b0) (.int .u64 i0) (.string tx) (.slice a5' n5 c5') (.slice a6' n6 c6') (.int .i64 h0)).drew
        have hb3 := (Blk.put W4 (w.heap.size + 1) HBr4.out (.int .i64 k0) (.string ty) (.int .u64 b0) (.int .u64 i0) (.string tx) (.slice a5' n5 c5') (.slice a6' n6 c6') (.int .i64 h0)).drew
        have HBW9 := Lib.hid (st8_below HB4.out (by omega : w.heap.size ≤ w.heap.size + 1) (.int .i64 k0) (.string ty) (.int .u64 b0) (.int .u64 i0) (.string tx) (.slice a5' n5 c5') (.slice a6' n6 c6') (.int .i64 h0)).drew
        have HKP : Hid (∀ k, k ≠ w.heap.size + 1 → (st8 W4 (w.heap.size + 1) (.int .i64 k0) (.string ty) (.int .u64 b0) (.int .u64 i0) (.string tx) (.slice a5' n5 c5') (.slice a6' n6 c6') (.int .i64 h0)).drew.heap[k]? = W4.heap[k]?) := fun k hk => st8_drew hk
        generalize (st8 W4 (w.heap.size + 1) (.int .i64 k0) (.string ty) (.int .u64 b0) (.int .u64 i0) (.string tx) (.slice a5' n5 c5') (.slice a6' n6 c6') (.int .i64 h0)).drew = W9 at hb3 HBW9 HKP ⊢
        clear r0 r1 r2 r3 r4 r5 r6 r7 rf0 rf1 rf2 rf3 rf4 rf5 rf6 rf7 s0 s1 s2 s3 s4 s5 s6 s7
        have zc0 := hb3.c0
        have zc1 := hb3.c1
        have zc2 := hb3.c2
        have zc3 := hb3.c3
        have zc4 := hb3.c4
        have zc5 := hb3.c5
        have zc6 := hb3.c6
        have zc7 := hb3.c7
        refine bodyPost_ret (v := .tuple #[v, .agg #[.int .i64 k0, .string ty, .int .u64 b0, .int .u64 i0, .string tx, .slice a5' n5 c5', .slice a6' n6 c6', .int .i64 h0], .bool false]) (by simp [results, Try.f18, go_sem, zc0, zc1, zc2, zc3, zc4, zc5, zc6, zc7]) rfl ?_
        refine ⟨HBW9.out, _, _, _, _, _, _, _, _, _, _, _, _, _, _, du, rfl, ?_, HV1.out, fun h => by cases h⟩
        exact (HDU4.out.keep fun k _ hk => HKP.out k (ne_of2 HZ1.out HZ12.out hk)).isD
end Go.Proofs.Ythpgnhmikffcpaa
