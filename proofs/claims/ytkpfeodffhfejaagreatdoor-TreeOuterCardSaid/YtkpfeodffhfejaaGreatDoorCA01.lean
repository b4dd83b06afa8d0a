/- What descriptors are looked at, how many there are, how deep they stand: the functions parts, count, depth, key. No condition but that the argument is a descriptor. -/
import Derived.Test.YtkpfeodffhfejaaGreatDoorCA00
namespace Go.Proofs.YtkpfeodffhfejaaGreatDoor
set_option linter.unusedVariables false
set_option maxRecDepth 1000000
open Go.RowKit

/-- Has a kind parts that are looked at? -/
def greatK (k : Int) : Bool := decide (18 ≤ k ∧ k ≤ 22)
def partsOf (d : D) : List D := if greatK d.kind then d.parts else []

def PartsPost (w : World) (d : D) (e : Ending) (w' : World) : Prop :=
  ∃ a c, e = .returned (.slice a (partsOf d).length c) ∧ PartsAt w' a c (partsOf d) ∧ Below w.heap.size w w'

set_option maxHeartbeats 400000 in
theorem parts_any {w : World} {v : Value} {d : D} (h : IsD w v d) : Calls Tryz.prog 50 #[v] w (PartsPost w d) := by
  have hB := Below.new (w := w)
  obtain ⟨a5, c5, a6, c6, rfl, hk, hb, hi, ht, hx, hn, hp⟩ := h.open
  have HP := Lib.hid hp
  clear hp hn hb hi hk ht hx h
  unfold aggD
  by_cases hg : greatK d.kind = true
  · have e : partsOf d = d.parts := by simp [partsOf, hg]
    have hkk : d.kind = 18 ∨ d.kind = 19 ∨ d.kind = 20 ∨ d.kind = 21 ∨ d.kind = 22 := by simp [greatK] at hg; omega
    have HE := Lib.hid e
    clear e hg
    rcases hkk with hkk | hkk | hkk | hkk | hkk
    all_goals
      go_enter Tryz.func50, Tryz.ntmps50
      go_wp2
      go_ret
      exact ⟨a6, c6, by rw [HE.out]; rfl, by rw [HE.out]; exact HP.out.below (hB _), hB _⟩
  · have e : partsOf d = [] := by simp [partsOf, hg]
    have h1 : (d.kind == 18) = false ∧ (d.kind == 19) = false ∧ (d.kind == 20) = false ∧ (d.kind == 21) = false ∧ (d.kind == 22) = false := by simp [greatK] at hg ⊢; omega
    obtain ⟨h1, h2, h3, h4, h5⟩ := h1
    have HE := Lib.hid e
    clear e hg
    go_enter Tryz.func50, Tryz.ntmps50
    go_wp2
    go_ret
    exact ⟨none, 0, by rw [HE.out]; rfl, by rw [HE.out]; exact PartsAt.nil _, hB _⟩

mutual
/-- count: what is left of a budget, the longest text. -/
def countD : D → Int → Int × Int
  | .mk k _ _ _ t _ p _, left => if greatK k then countL p (left - 1) (if k = 16 ∨ k = 17 then (t.size : Int) else 0) else (left - 1, if k = 16 ∨ k = 17 then (t.size : Int) else 0)
def countL : List D → Int → Int → Int × Int
  | [], left, text => (left, text)
  | x :: l, left, text => if left < 0 then (left, text) else countL l (countD x left).1 (max text (countD x left).2)
end
theorem countD_eq (d : D) (left : Int) : countD d left = countL (partsOf d) (left - 1) (if d.kind = 16 ∨ d.kind = 17 then (d.text.size : Int) else 0) := by
  cases d with
  | mk k t b i x n p h =>
    by_cases hg : greatK k = true
    · have e : partsOf (.mk k t b i x n p h) = p := if_pos hg
      rw [e, countD, if_pos hg]; rfl
    · have e : partsOf (.mk k t b i x n p h) = [] := if_neg hg
      rw [e, countD, if_neg hg]; rfl


/-- What count keeps: the budget falls, but not below -1. -/
theorem countL_bd : ∀ (l : List D) (left text : Int), (∀ x ∈ l, ∀ left, 0 ≤ left → left ≤ 64 → -1 ≤ (countD x left).1 ∧ (countD x left).1 ≤ left ∧ 0 ≤ (countD x left).2 ∧ (countD x left).2 ≤ 9223372036854775807) →
    -1 ≤ left → left ≤ 64 → 0 ≤ text → text ≤ 9223372036854775807 → -1 ≤ (countL l left text).1 ∧ (countL l left text).1 ≤ left ∧ 0 ≤ (countL l left text).2 ∧ (countL l left text).2 ≤ 9223372036854775807 := by
  intro l
  induction l with
  | nil => intro left text _ h1 h2 h3 h4; simp only [countL]; omega
  | cons x l ih =>
    intro left text hx h1 h2 h3 h4
    simp only [countL]
    split
    · omega
    · rename_i h0
      have := hx x (by simp) left (by omega) h2
      have h5 := ih (countD x left).1 (max text (countD x left).2) (fun y hy => hx y (by simp [hy])) (by omega) (by omega) (by omega) (by omega)
      omega
/-- A descriptor whose texts are no longer than a text may be. -/
inductive Fits : D → Prop where
  | mk (d : D) (h : d.text.size ≤ cap47) (hp : ∀ x ∈ d.parts, Fits x) : Fits d
theorem IsD.fits {w : World} {v : Value} {d : D} (h : IsD w v d) : Fits d := by
  induction h with
  | mk d a5 c5 a6 c6 b6 o6 hk hbb hi hh ht hx hn h1 h2 h3 hp ih =>
    refine .mk d hx fun x hxm => ?_
    obtain ⟨i, hi, rfl⟩ := List.getElem_of_mem hxm
    exact ih i hi
theorem partsOf_mem {d x : D} (h : x ∈ partsOf d) : x ∈ d.parts := by
  unfold partsOf at h
  split at h
  · exact h
  · cases h
theorem countD_bd : ∀ (d : D), Fits d → ∀ left : Int, 0 ≤ left → left ≤ 64 → -1 ≤ (countD d left).1 ∧ (countD d left).1 ≤ left ∧ 0 ≤ (countD d left).2 ∧ (countD d left).2 ≤ 9223372036854775807 := by
  refine D.induct_d fun d ih hf left h1 h2 => ?_
  rw [countD_eq]
  cases hf with
  | mk _ ht hp =>
    unfold cap47 at ht
    have := countL_bd (partsOf d) (left - 1) (if d.kind = 16 ∨ d.kind = 17 then (d.text.size : Int) else 0) (fun x hx => ih x (partsOf_mem hx) (hp x (partsOf_mem hx))) (by omega) (by omega) (by split <;> omega) (by split <;> omega)
    omega

def CountPost (w : World) (d : D) (left : Int) (e : Ending) (w' : World) : Prop :=
  e = .returned (.tuple #[.int .i64 (countD d left).1, .int .i64 (countD d left).2]) ∧ Below w.heap.size w w'

theorem drop_cons {α : Type} {l : List α} {i : Nat} (h : i < l.length) : l.drop i = l[i] :: l.drop (i + 1) := List.drop_eq_getElem_cons h

set_option maxHeartbeats 1000000 in
theorem countd_any : ∀ (d : D) (w : World) (v : Value) (left : Int), IsD w v d → 0 ≤ left → left ≤ 64 → Calls Tryz.prog 29 #[v, .int .i64 left] w (CountPost w d left) := by
  refine D.induct_d fun d ih w v left h h1 h2 => ?_
  have IH := Lib.hid ih
  have HF := Lib.hid h.fits
  have HD := Lib.hid h
  have HCD := Lib.hid (countD_eq d left)
  obtain ⟨a5, c5, a6, c6, rfl, hk, hb, hi, ht, hx, hn, hp⟩ := h.open
  unfold cap47 at hx
  clear hp hn hb hi hk ht h ih
  obtain ⟨T, hT⟩ : ∃ T : Int, T = (if d.kind = 16 ∨ d.kind = 17 then (d.text.size : Int) else 0) := ⟨_, rfl⟩
  rw [← hT] at HCD
  have hT0 : 0 ≤ T ∧ T ≤ 9223372036854775807 := by rw [hT]; split <;> omega
  obtain ⟨hT0, hT1⟩ := hT0
  have hcase : ((d.kind == 16) = true ∧ T = d.text.size) ∨ ((d.kind == 16) = false ∧ (d.kind == 17) = true ∧ T = d.text.size) ∨ ((d.kind == 16) = false ∧ (d.kind == 17) = false ∧ T = 0) := by
    rw [hT]; by_cases e1 : d.kind = 16
    · left; simp [e1]
    · by_cases e2 : d.kind = 17
      · right; left; simp [e2]
      · right; right; simp [e1, e2]
  clear hT
  unfold aggD at HD ⊢
  rcases hcase with ⟨e1, e2⟩ | ⟨e1, e3, e2⟩ | ⟨e1, e3, e2⟩
  · subst e2
    go_enter Tryz.func29, Tryz.ntmps29
    go_wp2_with fail

    refine (parts_any (HD.out.later (Below.new _))).mono ?_
    rintro e w1 ⟨a, c, rfl, hp1, hB1⟩
    have HB1 := Lib.hid ((Below.new _).next hB1)
    have HPM := Lib.hid (fun x (hx : x ∈ partsOf d) => IH.out x (partsOf_mem hx))
    obtain ⟨R, hR⟩ : ∃ R, R = countD d left := ⟨_, rfl⟩
    rw [← hR] at HCD
    have HR := Lib.hid hR
    have hbd : ∀ x ∈ partsOf d, ∀ left : Int, 0 ≤ left → left ≤ 64 → -1 ≤ (countD x left).1 ∧ (countD x left).1 ≤ left ∧ 0 ≤ (countD x left).2 ∧ (countD x left).2 ≤ 9223372036854775807 := by
      intro x hx
      have hff := HF.out
      cases hff with
      | mk _ _ hpf => exact countD_bd x (hpf x (partsOf_mem hx))
    have HBD := Lib.hid hbd
    clear hbd hR hB1 IH HF
    obtain ⟨ps, hps⟩ : ∃ ps, ps = partsOf d := ⟨_, rfl⟩
    rw [← hps] at hp1 HPM HBD HCD ⊢
    clear hps HD
    obtain ⟨hl1, hl2, b, o, ha, hel⟩ := hp1
    unfold cap47 at hl2
    have HA := Lib.hid ha
    have HEL := Lib.hid hel
    clear ha hel
    go_wp2_with fail
    go_loopw [1, 6, 27] (fun l x k wr => ∃ (i : Nat) (L X : Int), i ≤ ps.length ∧ l = .int .i64 L ∧ x = .int .i64 X ∧ k = .int .i64 i ∧ R = countL (ps.drop i) L X ∧ -1 ≤ L ∧ L ≤ 64 ∧ 0 ≤ X ∧ X ≤ 9223372036854775807 ∧ Below w1.heap.size w1 wr) (fun _ _ k _ => ps.length - (intOf k).toNat)
    case atStart => exact ⟨0, left - 1, _, by omega, rfl, rfl, rfl, HCD.out, by omega, by omega, by omega, by omega, Below.refl _ _⟩
    case round =>
      obtain ⟨i, L, X, hi, rfl, rfl, rfl, hrec, hL0, hL1, hX0, hX1, hB⟩ := hrel
      have HB := Lib.hid hB
      have HRec := Lib.hid hrec
      clear hB hrec HCD
      by_cases hin : i < ps.length
      · obtain rfl := HA.out (by omega)
        obtain ⟨p5, q5, p6, q6, hrow, hD⟩ := (HEL.out i hin).row
        obtain ⟨k0, k1, k2, k3, k4, k5, k6, k7⟩ := hrow.below HB.out
        have hrc := HRec.out
        rw [drop_cons hin, countL] at hrc
        have HRec2 := Lib.hid hrc
        have HX := Lib.hid (hD.later HB.out)
        have HIH := Lib.hid (HPM.out ps[i] (List.getElem_mem _))
        have HBI := Lib.hid (HBD.out ps[i] (List.getElem_mem _))
        clear hrc hrow hD
        obtain ⟨x, hx⟩ : ∃ x, x = ps[i] := ⟨_, rfl⟩
        rw [← hx] at k0 k1 k2 k3 k4 k5 k6 k7 HRec2 HX HIH HBI
        unfold aggD at HX
        clear hx
        by_cases hL : L < 0
        · go_wp2_with fail
          go_ret2
          have h3 := HRec2.out
          rw [if_pos hL] at h3
          refine ⟨?_, HB1.out.next (HB.out.push _)⟩
          rw [← HR.out, h3]
          rfl
        · go_wp2_with fail
          refine (HIH.out _ _ L (HX.out.later (Below.new _)) (by omega) hL1).mono ?_
          rintro e w3 ⟨rfl, hB3⟩
          have h3 := HRec2.out
          rw [if_neg (by omega)] at h3
          have hbd := HBI.out L (by omega) hL1
          obtain ⟨hb1, hb2, hb3, hb4⟩ := hbd
          obtain ⟨q, hq⟩ : ∃ q, q = countD x L := ⟨_, rfl⟩
          rw [← hq] at h3 hb1 hb2 hb3 hb4 ⊢
          obtain ⟨q1, q2⟩ := q
          dsimp only at h3 hb1 hb2 hb3 hb4 ⊢
          have H3 := Lib.hid h3
          have HB3 := Lib.hid ((HB.out.push _).next hB3)
          clear h3 hq hB3 k0 k1 k2 k3 k4 k5 k6 k7 HRec2 HX HIH HBI
          by_cases hxq : X < q2
          · go_wp2_with fail
            go_roundw
            case rel => exact ⟨i + 1, q1, q2, by omega, (by first | rfl | (congr 1; omega)), (by first | rfl | (congr 1; omega)), by go_num, by rw [H3.out, Int.max_eq_right (Int.le_of_lt hxq)], by omega, by omega, by omega, by omega, HB3.out⟩
            case measure => simp [intOf]; omega
          · have hqx : q2 ≤ X := by omega
            go_wp2_with fail
            go_roundw
            case rel => exact ⟨i + 1, q1, X, by omega, (by first | rfl | (congr 1; omega)), (by first | rfl | (congr 1; omega)), by go_num, by rw [H3.out, Int.max_eq_left hqx], by omega, by omega, by omega, by omega, HB3.out⟩
            case measure => simp [intOf]; omega
      · go_wp2_with fail
        go_ret2
        have h3 := HRec.out
        rw [List.drop_of_length_le (by omega), countL] at h3
        refine ⟨?_, HB1.out.next HB.out⟩
        rw [← HR.out, h3]
        rfl
  · subst e2
    go_enter Tryz.func29, Tryz.ntmps29
    go_wp2_with fail

    refine (parts_any (HD.out.later (Below.new _))).mono ?_
    rintro e w1 ⟨a, c, rfl, hp1, hB1⟩
    have HB1 := Lib.hid ((Below.new _).next hB1)
    have HPM := Lib.hid (fun x (hx : x ∈ partsOf d) => IH.out x (partsOf_mem hx))
    obtain ⟨R, hR⟩ : ∃ R, R = countD d left := ⟨_, rfl⟩
    rw [← hR] at HCD
    have HR := Lib.hid hR
    have hbd : ∀ x ∈ partsOf d, ∀ left : Int, 0 ≤ left → left ≤ 64 → -1 ≤ (countD x left).1 ∧ (countD x left).1 ≤ left ∧ 0 ≤ (countD x left).2 ∧ (countD x left).2 ≤ 9223372036854775807 := by
      intro x hx
      have hff := HF.out
      cases hff with
      | mk _ _ hpf => exact countD_bd x (hpf x (partsOf_mem hx))
    have HBD := Lib.hid hbd
    clear hbd hR hB1 IH HF
    obtain ⟨ps, hps⟩ : ∃ ps, ps = partsOf d := ⟨_, rfl⟩
    rw [← hps] at hp1 HPM HBD HCD ⊢
    clear hps HD
    obtain ⟨hl1, hl2, b, o, ha, hel⟩ := hp1
    unfold cap47 at hl2
    have HA := Lib.hid ha
    have HEL := Lib.hid hel
    clear ha hel
    go_wp2_with fail
    go_loopw [1, 6, 27] (fun l x k wr => ∃ (i : Nat) (L X : Int), i ≤ ps.length ∧ l = .int .i64 L ∧ x = .int .i64 X ∧ k = .int .i64 i ∧ R = countL (ps.drop i) L X ∧ -1 ≤ L ∧ L ≤ 64 ∧ 0 ≤ X ∧ X ≤ 9223372036854775807 ∧ Below w1.heap.size w1 wr) (fun _ _ k _ => ps.length - (intOf k).toNat)
    case atStart => exact ⟨0, left - 1, _, by omega, rfl, rfl, rfl, HCD.out, by omega, by omega, by omega, by omega, Below.refl _ _⟩
    case round =>
      obtain ⟨i, L, X, hi, rfl, rfl, rfl, hrec, hL0, hL1, hX0, hX1, hB⟩ := hrel
      have HB := Lib.hid hB
      have HRec := Lib.hid hrec
      clear hB hrec HCD
      by_cases hin : i < ps.length
      · obtain rfl := HA.out (by omega)
        obtain ⟨p5, q5, p6, q6, hrow, hD⟩ := (HEL.out i hin).row
        obtain ⟨k0, k1, k2, k3, k4, k5, k6, k7⟩ := hrow.below HB.out
        have hrc := HRec.out
        rw [drop_cons hin, countL] at hrc
        have HRec2 := Lib.hid hrc
        have HX := Lib.hid (hD.later HB.out)
        have HIH := Lib.hid (HPM.out ps[i] (List.getElem_mem _))
        have HBI := Lib.hid (HBD.out ps[i] (List.getElem_mem _))
        clear hrc hrow hD
        obtain ⟨x, hx⟩ : ∃ x, x = ps[i] := ⟨_, rfl⟩
        rw [← hx] at k0 k1 k2 k3 k4 k5 k6 k7 HRec2 HX HIH HBI
        unfold aggD at HX
        clear hx
        by_cases hL : L < 0
        · go_wp2_with fail
          go_ret2
          have h3 := HRec2.out
          rw [if_pos hL] at h3
          refine ⟨?_, HB1.out.next (HB.out.push _)⟩
          rw [← HR.out, h3]
          rfl
        · go_wp2_with fail
          refine (HIH.out _ _ L (HX.out.later (Below.new _)) (by omega) hL1).mono ?_
          rintro e w3 ⟨rfl, hB3⟩
          have h3 := HRec2.out
          rw [if_neg (by omega)] at h3
          have hbd := HBI.out L (by omega) hL1
          obtain ⟨hb1, hb2, hb3, hb4⟩ := hbd
          obtain ⟨q, hq⟩ : ∃ q, q = countD x L := ⟨_, rfl⟩
          rw [← hq] at h3 hb1 hb2 hb3 hb4 ⊢
          obtain ⟨q1, q2⟩ := q
          dsimp only at h3 hb1 hb2 hb3 hb4 ⊢
          have H3 := Lib.hid h3
          have HB3 := Lib.hid ((HB.out.push _).next hB3)
          clear h3 hq hB3 k0 k1 k2 k3 k4 k5 k6 k7 HRec2 HX HIH HBI
          by_cases hxq : X < q2
          · go_wp2_with fail
            go_roundw
            case rel => exact ⟨i + 1, q1, q2, by omega, (by first | rfl | (congr 1; omega)), (by first | rfl | (congr 1; omega)), by go_num, by rw [H3.out, Int.max_eq_right (Int.le_of_lt hxq)], by omega, by omega, by omega, by omega, HB3.out⟩
            case measure => simp [intOf]; omega
          · have hqx : q2 ≤ X := by omega
            go_wp2_with fail
            go_roundw
            case rel => exact ⟨i + 1, q1, X, by omega, (by first | rfl | (congr 1; omega)), (by first | rfl | (congr 1; omega)), by go_num, by rw [H3.out, Int.max_eq_left hqx], by omega, by omega, by omega, by omega, HB3.out⟩
            case measure => simp [intOf]; omega
      · go_wp2_with fail
        go_ret2
        have h3 := HRec.out
        rw [List.drop_of_length_le (by omega), countL] at h3
        refine ⟨?_, HB1.out.next HB.out⟩
        rw [← HR.out, h3]
        rfl
  · subst e2
    go_enter Tryz.func29, Tryz.ntmps29
    go_wp2_with fail

    refine (parts_any (HD.out.later (Below.new _))).mono ?_
    rintro e w1 ⟨a, c, rfl, hp1, hB1⟩
    have HB1 := Lib.hid ((Below.new _).next hB1)
    have HPM := Lib.hid (fun x (hx : x ∈ partsOf d) => IH.out x (partsOf_mem hx))
    obtain ⟨R, hR⟩ : ∃ R, R = countD d left := ⟨_, rfl⟩
    rw [← hR] at HCD
    have HR := Lib.hid hR
    have hbd : ∀ x ∈ partsOf d, ∀ left : Int, 0 ≤ left → left ≤ 64 → -1 ≤ (countD x left).1 ∧ (countD x left).1 ≤ left ∧ 0 ≤ (countD x left).2 ∧ (countD x left).2 ≤ 9223372036854775807 := by
      intro x hx
      have hff := HF.out
      cases hff with
      | mk _ _ hpf => exact countD_bd x (hpf x (partsOf_mem hx))
    have HBD := Lib.hid hbd
    clear hbd hR hB1 IH HF
    obtain ⟨ps, hps⟩ : ∃ ps, ps = partsOf d := ⟨_, rfl⟩
    rw [← hps] at hp1 HPM HBD HCD ⊢
    clear hps HD
    obtain ⟨hl1, hl2, b, o, ha, hel⟩ := hp1
    unfold cap47 at hl2
    have HA := Lib.hid ha
    have HEL := Lib.hid hel
    clear ha hel
    go_wp2_with fail
    go_loopw [1, 6, 27] (fun l x k wr => ∃ (i : Nat) (L X : Int), i ≤ ps.length ∧ l = .int .i64 L ∧ x = .int .i64 X ∧ k = .int .i64 i ∧ R = countL (ps.drop i) L X ∧ -1 ≤ L ∧ L ≤ 64 ∧ 0 ≤ X ∧ X ≤ 9223372036854775807 ∧ Below w1.heap.size w1 wr) (fun _ _ k _ => ps.length - (intOf k).toNat)
    case atStart => exact ⟨0, left - 1, _, by omega, rfl, rfl, rfl, HCD.out, by omega, by omega, by omega, by omega, Below.refl _ _⟩
    case round =>
      obtain ⟨i, L, X, hi, rfl, rfl, rfl, hrec, hL0, hL1, hX0, hX1, hB⟩ := hrel
      have HB := Lib.hid hB
      have HRec := Lib.hid hrec
      clear hB hrec HCD
      by_cases hin : i < ps.length
      · obtain rfl := HA.out (by omega)
        obtain ⟨p5, q5, p6, q6, hrow, hD⟩ := (HEL.out i hin).row
        obtain ⟨k0, k1, k2, k3, k4, k5, k6, k7⟩ := hrow.below HB.out
        have hrc := HRec.out
        rw [drop_cons hin, countL] at hrc
        have HRec2 := Lib.hid hrc
        have HX := Lib.hid (hD.later HB.out)
        have HIH := Lib.hid (HPM.out ps[i] (List.getElem_mem _))
        have HBI := Lib.hid (HBD.out ps[i] (List.getElem_mem _))
        clear hrc hrow hD
        obtain ⟨x, hx⟩ : ∃ x, x = ps[i] := ⟨_, rfl⟩
        rw [← hx] at k0 k1 k2 k3 k4 k5 k6 k7 HRec2 HX HIH HBI
        unfold aggD at HX
        clear hx
        by_cases hL : L < 0
        · go_wp2_with fail
          go_ret2
          have h3 := HRec2.out
          rw [if_pos hL] at h3
          refine ⟨?_, HB1.out.next (HB.out.push _)⟩
          rw [← HR.out, h3]
          rfl
        · go_wp2_with fail
          refine (HIH.out _ _ L (HX.out.later (Below.new _)) (by omega) hL1).mono ?_
          rintro e w3 ⟨rfl, hB3⟩
          have h3 := HRec2.out
          rw [if_neg (by omega)] at h3
          have hbd := HBI.out L (by omega) hL1
          obtain ⟨hb1, hb2, hb3, hb4⟩ := hbd
          obtain ⟨q, hq⟩ : ∃ q, q = countD x L := ⟨_, rfl⟩
          rw [← hq] at h3 hb1 hb2 hb3 hb4 ⊢
          obtain ⟨q1, q2⟩ := q
          dsimp only at h3 hb1 hb2 hb3 hb4 ⊢
          have H3 := Lib.hid h3
          have HB3 := Lib.hid ((HB.out.push _).next hB3)
          clear h3 hq hB3 k0 k1 k2 k3 k4 k5 k6 k7 HRec2 HX HIH HBI
          by_cases hxq : X < q2
          · go_wp2_with fail
            go_roundw
            case rel => exact ⟨i + 1, q1, q2, by omega, (by first | rfl | (congr 1; omega)), (by first | rfl | (congr 1; omega)), by go_num, by rw [H3.out, Int.max_eq_right (Int.le_of_lt hxq)], by omega, by omega, by omega, by omega, HB3.out⟩
            case measure => simp [intOf]; omega
          · have hqx : q2 ≤ X := by omega
            go_wp2_with fail
            go_roundw
            case rel => exact ⟨i + 1, q1, X, by omega, (by first | rfl | (congr 1; omega)), (by first | rfl | (congr 1; omega)), by go_num, by rw [H3.out, Int.max_eq_left hqx], by omega, by omega, by omega, by omega, HB3.out⟩
            case measure => simp [intOf]; omega
      · go_wp2_with fail
        go_ret2
        have h3 := HRec.out
        rw [List.drop_of_length_le (by omega), countL] at h3
        refine ⟨?_, HB1.out.next HB.out⟩
        rw [← HR.out, h3]
        rfl
end Go.Proofs.YtkpfeodffhfejaaGreatDoor
