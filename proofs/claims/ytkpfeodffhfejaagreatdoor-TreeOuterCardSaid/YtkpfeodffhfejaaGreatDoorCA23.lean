/- The reference's Cmp: the order of values. Condition: descriptors. -/
import Derived.Test.YtkpfeodffhfejaaGreatDoorCA04
import Derived.Test.YtkpfeodffhfejaaGreatDoorCA07
namespace Go.Proofs.YtkpfeodffhfejaaGreatDoor
set_option linter.unusedVariables false
set_option maxRecDepth 1000000
set_option linter.unusedSimpArgs false
open Go.RowKit

theorem less_is : ∀ a b : List UInt8, Op.bytesLess a b = decide (Lib.compareBytes a b < 0)
  | [], [] => by simp [Op.bytesLess, Lib.compareBytes]
  | _ :: _, [] => by simp [Op.bytesLess, Lib.compareBytes]
  | [], _ :: _ => by simp [Op.bytesLess, Lib.compareBytes]
  | x :: a, y :: b => by
    rw [Op.bytesLess, less_is a b, Lib.compareBytes]
    by_cases h1 : x < y
    · simp [h1]
    · by_cases h2 : y < x
      · have hne : ¬ x = y := fun e => by subst e; exact h1 h2
        simp [h1, h2, hne]
      · have he : x = y := UInt8.le_antisymm (UInt8.not_lt.1 h2) (UInt8.not_lt.1 h1)
        subst he
        simp [h1]
theorem cmpB_zero : ∀ a b : List UInt8, Lib.compareBytes a b = 0 ↔ a = b
  | [], [] => by simp [Lib.compareBytes]
  | _ :: _, [] => by simp [Lib.compareBytes]
  | [], _ :: _ => by simp [Lib.compareBytes]
  | x :: a, y :: b => by
    rw [Lib.compareBytes]
    by_cases h1 : x < y
    · have hne : ¬ x = y := fun e => by subst e; exact UInt8.lt_irrefl _ h1
      simp [h1, hne]
    · by_cases h2 : y < x
      · have hne : ¬ x = y := fun e => by subst e; exact UInt8.lt_irrefl _ h2
        simp [h1, h2, hne]
      · have he : x = y := UInt8.le_antisymm (UInt8.not_lt.1 h2) (UInt8.not_lt.1 h1)
        subst he
        simp [h1, cmpB_zero a b]
theorem cmpB_vals : ∀ a b : List UInt8, Lib.compareBytes a b = -1 ∨ Lib.compareBytes a b = 0 ∨ Lib.compareBytes a b = 1
  | [], [] => .inr (.inl rfl)
  | [], _ :: _ => .inl rfl
  | _ :: _, [] => .inr (.inr rfl)
  | a :: l, b :: m => by
    unfold Lib.compareBytes
    split
    · exact .inl rfl
    · split
      · exact .inr (.inr rfl)
      · exact cmpB_vals l m
theorem sign_str (a b : ByteArray) : signB (Op.bytesLess a.toList b.toList) (!Op.bytesLess a.toList b.toList && !(a.toList == b.toList)) = cmpS a b := by
  rw [← Bool.not_or]
  rw [ByteArray.toList_eq, ByteArray.toList_eq, less_is]
  unfold cmpS signB
  have hz := cmpB_zero a.data.toList b.data.toList
  rcases cmpB_vals a.data.toList b.data.toList with h | h | h
  · rw [h]; simp
  · have e := hz.1 h
    rw [h, e]; simp
  · have e : ¬ a.data.toList = b.data.toList := fun e => by rw [hz.2 e] at h; cases h
    rw [h]
    simp [e]
    exact fun e' => e (by rw [e'])
theorem sign_int (x y : Int) : signB (decide (x < y)) (decide (y < x)) = cmpI x y := by
  unfold signB cmpI
  by_cases h1 : x < y
  · simp [h1]
  · by_cases h2 : y < x <;> simp [h1, h2]
theorem sign_ne {x y : Int} (h : x ≠ y) : signB (decide (x < y)) true = cmpI x y := by
  unfold signB cmpI
  by_cases h1 : x < y
  · simp [h1]
  · have h2 : y < x := by omega
    simp [h1, h2]
/-- The order of descriptors in form. -/
def cmpD (a b : D) : Int :=
  if a.kind ≠ b.kind then cmpI a.kind b.kind
  else if a.kind = 1 ∨ 7 ≤ a.kind ∧ a.kind ≤ 11 then (if cmpI a.bits b.bits = 0 then cmpS a.type b.type else cmpI a.bits b.bits)
  else if 2 ≤ a.kind ∧ a.kind ≤ 6 then (if cmpI (wrap64 a.bits) (wrap64 b.bits) = 0 then cmpS a.type b.type else cmpI (wrap64 a.bits) (wrap64 b.bits))
  else if a.kind = 16 then (if cmpS a.text b.text = 0 then cmpS a.type b.type else cmpS a.text b.text)
  else 0
def CmpDPost (w : World) (a b : D) (e : Ending) (w' : World) : Prop := e = .returned (.int .i64 (cmpD a b)) ∧ Below w.heap.size w w'
set_option maxHeartbeats 2000000 in
set_option maxRecDepth 100000 in
theorem cmp_ne {a b : D} {w : World} {va vb : Value} (ha : IsD w va a) (hb : IsD w vb b) (hne : a.kind ≠ b.kind) : Calls Tryz.prog 91 #[va, vb] w (CmpDPost w a b) := by
  obtain ⟨a5, c5, a6, c6, rfl, ak, ab, ai, at', ax, an, ap⟩ := ha.open
  obtain ⟨b5, d5, b6, d6, rfl, bk, bb, bi, bt, bx, bn, bp⟩ := hb.open
  clear ak ab ai at' ax an ap bk bb bi bt bx bn bp ha hb
  unfold aggD
  have HB : ∀ o o' : Obj, Hid (Below w.heap.size w ((w.alloc o).alloc o')) := fun o o' => (Below.new _).push _
  have HQ : Hid (cmpD a b = cmpI a.kind b.kind) := by show _ = _; unfold cmpD; rw [if_pos hne]
  have HN := Lib.hid hne
  have hk : (a.kind != b.kind) = true := by simpa using hne
  obtain ⟨ka, hka⟩ : ∃ k, a.kind = k := ⟨_, rfl⟩
  obtain ⟨kb, hkb⟩ : ∃ k, b.kind = k := ⟨_, rfl⟩
  rw [hka] at HQ HN hk ⊢
  rw [hkb] at HQ HN hk ⊢
  clear hne hka hkb
  go_enter Tryz.func91, Tryz.ntmps91
  go_wp2_with fail
  refine (sign_any _ _ _).mono ?_
  rintro e w1 ⟨rfl, rfl⟩
  go_wp2_with fail
  go_ret
  exact ⟨ret_int (by rw [HQ.out]; exact sign_ne HN.out), (HB _ _).out⟩
set_option maxHeartbeats 2000000 in
set_option maxRecDepth 100000 in
theorem cmp_u1 {a b : D} {w : World} {va vb : Value} (ha : IsD w va a) (hb : IsD w vb b) (he : b.kind = a.kind) (h : a.kind = 1) : Calls Tryz.prog 91 #[va, vb] w (CmpDPost w a b) := by
  obtain ⟨a5, c5, a6, c6, rfl, ak, ab, ai, at', ax, an, ap⟩ := ha.open
  obtain ⟨b5, d5, b6, d6, rfl, bk, bb, bi, bt, bx, bn, bp⟩ := hb.open
  clear ak ab ai at' ax an ap bk bb bi bt bx bn bp ha hb
  unfold aggD
  have HB : ∀ o o' : Obj, Hid (Below w.heap.size w ((w.alloc o).alloc o')) := fun o o' => (Below.new _).push _
  have HQ : Hid (cmpD a b = if cmpI a.bits b.bits = 0 then cmpS a.type b.type else cmpI a.bits b.bits) := by show _ = _; unfold cmpD; rw [if_neg (by simp [he]), if_pos (by omega)]
  rw [he, h]
  clear he h
  go_enter Tryz.func91, Tryz.ntmps91
  go_wp2_with fail
  refine (sign_any _ _ _).mono ?_
  rintro e w1 ⟨rfl, rfl⟩
  rw [sign_int]
  obtain ⟨c, hc⟩ : ∃ c, cmpI a.bits b.bits = c := ⟨_, rfl⟩
  rw [hc] at HQ ⊢
  clear hc
  by_cases hc0 : c = 0
  · subst hc0
    have HQ2 := Lib.hid (HQ.out.trans (if_pos rfl))
    clear HQ
    go_wp2_with fail
    refine (sign_any _ _ _).mono ?_
    rintro e w1 ⟨rfl, rfl⟩
    rw [sign_str]
    go_wp2_with fail
    go_ret
    exact ⟨ret_int HQ2.out.symm, (HB _ _).out⟩
  · have HQ2 := Lib.hid (HQ.out.trans (if_neg hc0))
    have hc1 : (c == 0) = false := by simpa using hc0
    clear hc0 HQ
    go_wp2_with fail
    go_ret
    exact ⟨ret_int HQ2.out.symm, (HB _ _).out⟩
set_option maxHeartbeats 2000000 in
set_option maxRecDepth 100000 in
theorem cmp_u7 {a b : D} {w : World} {va vb : Value} (ha : IsD w va a) (hb : IsD w vb b) (he : b.kind = a.kind) (h1 : 7 ≤ a.kind) (h2 : a.kind ≤ 11) : Calls Tryz.prog 91 #[va, vb] w (CmpDPost w a b) := by
  obtain ⟨a5, c5, a6, c6, rfl, ak, ab, ai, at', ax, an, ap⟩ := ha.open
  obtain ⟨b5, d5, b6, d6, rfl, bk, bb, bi, bt, bx, bn, bp⟩ := hb.open
  clear ak ab ai at' ax an ap bk bb bi bt bx bn bp ha hb
  unfold aggD
  have HB : ∀ o o' : Obj, Hid (Below w.heap.size w ((w.alloc o).alloc o')) := fun o o' => (Below.new _).push _
  have HQ : Hid (cmpD a b = if cmpI a.bits b.bits = 0 then cmpS a.type b.type else cmpI a.bits b.bits) := by show _ = _; unfold cmpD; rw [if_neg (by simp [he]), if_pos (by omega)]
  obtain ⟨k, hka⟩ : ∃ k, a.kind = k := ⟨_, rfl⟩
  rw [hka] at he h1 h2
  rw [hka, he]
  clear he hka
  have e1 : (k == 1) = false := by simp; omega
  go_enter Tryz.func91, Tryz.ntmps91
  go_wp2_with fail
  refine (whole_any _ _).mono ?_
  rintro e w1 ⟨rfl, rfl⟩
  rw [inB_yes (show 2 ≤ k by omega) h2]
  go_wp2_with fail
  refine (refSigned_any _ _).mono ?_
  rintro e w1 ⟨rfl, rfl⟩
  rw [inB_no (show k < 2 ∨ 6 < k by omega)]
  go_wp2_with fail
  refine (sign_any _ _ _).mono ?_
  rintro e w1 ⟨rfl, rfl⟩
  rw [sign_int]
  obtain ⟨c, hc⟩ : ∃ c, cmpI a.bits b.bits = c := ⟨_, rfl⟩
  rw [hc] at HQ ⊢
  clear hc
  by_cases hc0 : c = 0
  · subst hc0
    have HQ2 := Lib.hid (HQ.out.trans (if_pos rfl))
    clear HQ
    go_wp2_with fail
    refine (sign_any _ _ _).mono ?_
    rintro e w1 ⟨rfl, rfl⟩
    rw [sign_str]
    go_wp2_with fail
    go_ret
    exact ⟨ret_int HQ2.out.symm, (HB _ _).out⟩
  · have HQ2 := Lib.hid (HQ.out.trans (if_neg hc0))
    have hc1 : (c == 0) = false := by simpa using hc0
    clear hc0 HQ
    go_wp2_with fail
    go_ret
    exact ⟨ret_int HQ2.out.symm, (HB _ _).out⟩
set_option maxHeartbeats 2000000 in
set_option maxRecDepth 100000 in
theorem cmp_s {a b : D} {w : World} {va vb : Value} (ha : IsD w va a) (hb : IsD w vb b) (he : b.kind = a.kind) (h1 : 2 ≤ a.kind) (h2 : a.kind ≤ 6) : Calls Tryz.prog 91 #[va, vb] w (CmpDPost w a b) := by
  obtain ⟨a5, c5, a6, c6, rfl, ak, ab, ai, at', ax, an, ap⟩ := ha.open
  obtain ⟨b5, d5, b6, d6, rfl, bk, bb, bi, bt, bx, bn, bp⟩ := hb.open
  clear ak ab ai at' ax an ap bk bb bi bt bx bn bp ha hb
  unfold aggD
  have HB : ∀ o o' : Obj, Hid (Below w.heap.size w ((w.alloc o).alloc o')) := fun o o' => (Below.new _).push _
  have HQ : Hid (cmpD a b = if cmpI (wrap64 a.bits) (wrap64 b.bits) = 0 then cmpS a.type b.type else cmpI (wrap64 a.bits) (wrap64 b.bits)) := by show _ = _; unfold cmpD; rw [if_neg (by simp [he]), if_neg (by omega), if_pos (by omega)]
  obtain ⟨k, hka⟩ : ∃ k, a.kind = k := ⟨_, rfl⟩
  rw [hka] at he h1 h2
  rw [hka, he]
  clear he hka
  have e1 : (k == 1) = false := by simp; omega
  go_enter Tryz.func91, Tryz.ntmps91
  go_wp2_with fail
  refine (whole_any _ _).mono ?_
  rintro e w1 ⟨rfl, rfl⟩
  rw [inB_yes h1 (show k ≤ 11 by omega)]
  go_wp2_with fail
  refine (refSigned_any _ _).mono ?_
  rintro e w1 ⟨rfl, rfl⟩
  rw [inB_yes h1 h2]
  go_wp2_with fail
  refine (refSigned_any _ _).mono ?_
  rintro e w1 ⟨rfl, rfl⟩
  rw [inB_yes h1 h2]
  go_wp2_with fail
  refine (sign_any _ _ _).mono ?_
  rintro e w1 ⟨rfl, rfl⟩
  rw [sign_int]
  obtain ⟨c, hc⟩ : ∃ c, cmpI (wrap64 a.bits) (wrap64 b.bits) = c := ⟨_, rfl⟩
  rw [hc] at HQ ⊢
  clear hc
  by_cases hc0 : c = 0
  · subst hc0
    have HQ2 := Lib.hid (HQ.out.trans (if_pos rfl))
    clear HQ
    go_wp2_with fail
    refine (sign_any _ _ _).mono ?_
    rintro e w1 ⟨rfl, rfl⟩
    rw [sign_str]
    go_wp2_with fail
    go_ret
    exact ⟨ret_int HQ2.out.symm, (HB _ _).out⟩
  · have HQ2 := Lib.hid (HQ.out.trans (if_neg hc0))
    have hc1 : (c == 0) = false := by simpa using hc0
    clear hc0 HQ
    go_wp2_with fail
    go_ret
    exact ⟨ret_int HQ2.out.symm, (HB _ _).out⟩
set_option maxHeartbeats 2000000 in
set_option maxRecDepth 100000 in
theorem cmp_t {a b : D} {w : World} {va vb : Value} (ha : IsD w va a) (hb : IsD w vb b) (he : b.kind = a.kind) (h : a.kind = 16) : Calls Tryz.prog 91 #[va, vb] w (CmpDPost w a b) := by
  obtain ⟨a5, c5, a6, c6, rfl, ak, ab, ai, at', ax, an, ap⟩ := ha.open
  obtain ⟨b5, d5, b6, d6, rfl, bk, bb, bi, bt, bx, bn, bp⟩ := hb.open
  clear ak ab ai at' ax an ap bk bb bi bt bx bn bp ha hb
  unfold aggD
  have HB : ∀ o o' : Obj, Hid (Below w.heap.size w ((w.alloc o).alloc o')) := fun o o' => (Below.new _).push _
  have HQ : Hid (cmpD a b = if cmpS a.text b.text = 0 then cmpS a.type b.type else cmpS a.text b.text) := by show _ = _; unfold cmpD; rw [if_neg (by simp [he]), if_neg (by omega), if_neg (by omega), if_pos h]
  rw [he, h]
  clear he h
  go_enter Tryz.func91, Tryz.ntmps91
  go_wp2_with fail
  refine (whole_any _ _).mono ?_
  rintro e w1 ⟨rfl, rfl⟩
  rw [inB_no (show (16 : Int) < 2 ∨ (11 : Int) < 16 by omega)]
  go_wp2_with fail
  refine (refSigned_any _ _).mono ?_
  rintro e w1 ⟨rfl, rfl⟩
  rw [inB_no (show (16 : Int) < 2 ∨ (6 : Int) < 16 by omega)]
  go_wp2_with fail
  refine (sign_any _ _ _).mono ?_
  rintro e w1 ⟨rfl, rfl⟩
  rw [sign_str]
  obtain ⟨c, hc⟩ : ∃ c, cmpS a.text b.text = c := ⟨_, rfl⟩
  rw [hc] at HQ ⊢
  clear hc
  by_cases hc0 : c = 0
  · subst hc0
    have HQ2 := Lib.hid (HQ.out.trans (if_pos rfl))
    clear HQ
    go_wp2_with fail
    refine (sign_any _ _ _).mono ?_
    rintro e w1 ⟨rfl, rfl⟩
    rw [sign_str]
    go_wp2_with fail
    go_ret
    exact ⟨ret_int HQ2.out.symm, (HB _ _).out⟩
  · have HQ2 := Lib.hid (HQ.out.trans (if_neg hc0))
    have hc1 : (c == 0) = false := by simpa using hc0
    clear hc0 HQ
    go_wp2_with fail
    go_ret
    exact ⟨ret_int HQ2.out.symm, (HB _ _).out⟩
set_option maxHeartbeats 2000000 in
set_option maxRecDepth 100000 in
theorem cmp_o {a b : D} {w : World} {va vb : Value} (ha : IsD w va a) (hb : IsD w vb b) (he : b.kind = a.kind) (h1 : a.kind ≠ 1) (h2 : a.kind < 2 ∨ 11 < a.kind) (h3 : a.kind ≠ 16) : Calls Tryz.prog 91 #[va, vb] w (CmpDPost w a b) := by
  obtain ⟨a5, c5, a6, c6, rfl, ak, ab, ai, at', ax, an, ap⟩ := ha.open
  obtain ⟨b5, d5, b6, d6, rfl, bk, bb, bi, bt, bx, bn, bp⟩ := hb.open
  clear ak ab ai at' ax an ap bk bb bi bt bx bn bp ha hb
  unfold aggD
  have HB : ∀ o o' : Obj, Hid (Below w.heap.size w ((w.alloc o).alloc o')) := fun o o' => (Below.new _).push _
  have HQ : Hid (cmpD a b = 0) := by show _ = _; unfold cmpD; rw [if_neg (by simp [he]), if_neg (by omega), if_neg (by omega), if_neg h3]
  obtain ⟨k, hka⟩ : ∃ k, a.kind = k := ⟨_, rfl⟩
  rw [hka] at he h1 h2 h3
  rw [hka, he]
  clear he hka
  have e1 : (k == 1) = false := by simpa using h1
  have e2 : (k == 16) = false := by simpa using h3
  have H2 := Lib.hid h2
  clear h1 h2 h3
  go_enter Tryz.func91, Tryz.ntmps91
  go_wp2_with fail
  refine (whole_any _ _).mono ?_
  rintro e w1 ⟨rfl, rfl⟩
  rw [inB_no H2.out]
  go_wp2_with fail
  refine (refSigned_any _ _).mono ?_
  rintro e w1 ⟨rfl, rfl⟩
  rw [inB_no (show k < 2 ∨ 6 < k by have := H2.out; omega)]
  go_wp2_with fail
  go_ret
  exact ⟨ret_int HQ.out.symm, (HB _ _).out⟩
theorem refCmp_any {a b : D} {w : World} {va vb : Value} (ha : IsD w va a) (hb : IsD w vb b) : Calls Tryz.prog 91 #[va, vb] w (CmpDPost w a b) := by
  by_cases hne : a.kind = b.kind
  · by_cases h1 : a.kind = 1
    · exact cmp_u1 ha hb hne.symm h1
    · by_cases h2 : 7 ≤ a.kind ∧ a.kind ≤ 11
      · exact cmp_u7 ha hb hne.symm h2.1 h2.2
      · by_cases h3 : 2 ≤ a.kind ∧ a.kind ≤ 6
        · exact cmp_s ha hb hne.symm h3.1 h3.2
        · by_cases h4 : a.kind = 16
          · exact cmp_t ha hb hne.symm h4
          · exact cmp_o ha hb hne.symm h1 (by omega) h4
  · exact cmp_ne ha hb hne
end Go.Proofs.YtkpfeodffhfejaaGreatDoor
