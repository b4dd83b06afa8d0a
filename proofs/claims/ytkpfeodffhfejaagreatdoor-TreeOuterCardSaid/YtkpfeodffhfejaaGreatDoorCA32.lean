/- The reference's twice: is a name, or a key, there twice? Condition: the descriptor's form is right. -/
import Derived.Test.YtkpfeodffhfejaaGreatDoorCA29
import Derived.Test.YtkpfeodffhfejaaGreatDoorCA30
import Derived.Test.YtkpfeodffhfejaaGreatDoorCA31
namespace Go.Proofs.YtkpfeodffhfejaaGreatDoor
set_option linter.unusedVariables false
set_option maxRecDepth 1000000
set_option linter.unusedSimpArgs false
open Go.RowKit

theorem in_any : ∀ (d : D), sizeD d ≤ 64 → allD kindB d = true → allD formB d = true → ∀ x, mkV d = some x → ∀ (w : World) (v : Value), IsD w v d → Calls Tryz.prog 40 #[v] w (RawPost w x) := by
  refine D.induct_d fun d ih hs hk hf x hx w v h => ?_
  rw [allD_eq, Bool.and_eq_true, allL_iff] at hk hf
  have hk1 : 0 ≤ d.kind ∧ d.kind ≤ 22 := by simpa [kindB] using hk.1
  by_cases h18 : d.kind < 18
  · rw [mkV_leaf h18] at hx
    injection hx with hx
    rw [← hx]
    exact in_leaf h hk1.1 (by omega)
  · have hp : partsOf d = d.parts := by unfold partsOf; rw [show greatK d.kind = true by simp [greatK]; omega]; rfl
    rw [hp] at hk hf
    rw [sizeD_eq, hp] at hs
    have hl := sizeL_len d.parts
    exact in_great h (by omega) hk1.2 hx (by omega) hf.1 fun p hpm y hy w v h => ih p hpm (by have := sizeL_mem hpm; omega) (hk.2 p hpm) (hf.2 p hpm) y hy w v h
def TwPost (w : World) (d : D) (e : Ending) (w' : World) : Prop := e = .returned (.bool (twB d)) ∧ Below w.heap.size w w'
/-- No two of the first i are related. -/
def Sep {α : Type} (R : α → α → Prop) (l : List α) (i : Nat) : Prop := ∀ a b (h1 : a < l.length) (h2 : b < l.length), a < b → b < i → R l[a] l[b]
theorem sep_all {α : Type} {R : α → α → Prop} {l : List α} {i : Nat} (hi : l.length ≤ i) : Sep R l i ↔ l.Pairwise R := by
  rw [List.pairwise_iff_getElem]
  exact ⟨fun h a b h1 h2 hab => h a b h1 h2 hab (by omega), fun h a b h1 h2 hab _ => h a b h1 h2 hab⟩
theorem sep_step {α : Type} {R : α → α → Prop} {l : List α} {i : Nat} (h : Sep R l i) (hi : i < l.length) (h2 : ∀ a (ha : a < l.length), a < i → R l[a] l[i]) : Sep R l (i + 1) := by
  intro a b h1 h3 hab hb
  by_cases e : b = i
  · subst e; exact h2 a h1 hab
  · exact h a b h1 h3 hab (by omega)
theorem sep_not {α : Type} {R : α → α → Prop} {l : List α} {i a : Nat} (hi : i < l.length) (ha : a < i) (h : ¬ R (l[a]'(by omega)) l[i]) : ¬ l.Pairwise R := by
  rw [List.pairwise_iff_getElem]
  exact fun q => h (q a i (by omega) hi ha)
set_option maxRecDepth 100000 in
set_option maxHeartbeats 4000000 in
theorem twice_names {w : World} {v : Value} {d : D} (h : IsD w v d) (h18 : d.kind = 18) : Calls Tryz.prog 61 #[v] w (TwPost w d) := by
  have HTw : Hid (twB d = !decide d.names.Nodup) := by show _ = _; unfold twB; rw [if_pos h18]
  obtain ⟨a5, c5, a6, c6, rfl, hk, hb, hi, ht, hx, hn, hp⟩ := h.open
  have hnl : d.names.length ≤ 140737488355328 := hn.2.1
  have HB := Lib.hid (Below.new (w := w) (cellsD d a5 c5 a6 c6))
  have HBox := Lib.hid (BoxD.new w d a5 c5 a6 c6)
  have HN := Lib.hid (hn.below (Below.new (w := w) (cellsD d a5 c5 a6 c6)))
  clear hk hb hi ht hx hn hp h
  unfold aggD
  unfold cellsD at HB HBox HN
  rw [h18] at HB HBox HN ⊢
  have HKd := Lib.hid h18
  clear h18
  go_enter Tryz.func61, Tryz.ntmps61
  go_wp2_with fail
  generalize w.alloc (.cells #[.int .i64 18, .string d.type, .int .u64 d.bits, .int .u64 d.imag, .string d.text, .slice a5 d.names.length c5, .slice a6 d.parts.length c6, .int .i64 d.hook] 26) = w1 at HB HBox HN ⊢
  obtain ⟨q0, q1, q2, q3, q4, q5, q6, q7⟩ := HBox.out
  rw [HKd.out] at q0
  clear q1 q2 q3 q4 q6 q7
  go_loopw [3, 4, 5, 14] (fun _ _ _ kk wr => ∃ i : Nat, i ≤ d.names.length ∧ kk = .int .i64 (i : Int) ∧ Hid (Sep (fun a b : ByteArray => a ≠ b) d.names i) ∧ wr = w1) (fun _ _ _ kk _ => d.names.length - (intOf kk).toNat)
  case atStart => exact ⟨0, Nat.zero_le _, rfl, Lib.hid (fun a b h1 h2 hab hb => by omega), rfl⟩
  case round =>
    obtain ⟨i, hi, rfl, HS, rfl⟩ := hrel
    by_cases hin : i < d.names.length
    · obtain ⟨b, o, rfl, hcell, hsz⟩ := HN.out.elem (Below.refl _ _) hin
      have HNA : Hid (∀ j (h : j < d.names.length), wr.cell? ⟨b, o + j, none⟩ = some (.string d.names[j])) := by
        intro j hj
        obtain ⟨b', o', e, hc, _⟩ := HN.out.elem (Below.refl _ _) hj
        injection e with e
        injection e with e1 e2
        subst e1 e2
        exact hc
      obtain ⟨x, hx⟩ : ∃ x, d.names[i] = x := ⟨_, rfl⟩
      have HX := Lib.hid hx
      rw [hx] at hcell
      clear hsz hx
      go_wp2_with fail
      go_loopw [5] (fun kk wq => ∃ k : Nat, k ≤ i ∧ kk = .int .i64 (k : Int) ∧ Hid (∀ a (ha : a < d.names.length), a < k → d.names[a] ≠ x) ∧ wq = wr) (fun kk _ => i - (intOf kk).toNat)
      case atStart => exact ⟨0, Nat.zero_le _, rfl, Lib.hid (fun a _ h => by omega), rfl⟩
      case round =>
        obtain ⟨k, hk, rfl, HA, rfl⟩ := hrel
        by_cases hki : k < i
        · have hkn : k < d.names.length := by omega
          have hc2 := HNA.out k hkn
          obtain ⟨y, hy⟩ : ∃ y, d.names[k] = y := ⟨_, rfl⟩
          have HY := Lib.hid hy
          rw [hy] at hc2
          clear hy
          have hkn2 : (k : Int) < (d.names.length : Int) := by omega
          by_cases hxy : y = x
          · subst hxy
            have HF : Hid (twB d = true) := by
              show _ = _
              have hnd : ¬ d.names.Nodup := sep_not (R := fun a b => a ≠ b) hin hki (by rw [HX.out, HY.out]; simp)
              rw [HTw.out, decide_eq_false hnd]
              rfl
            have he : (y.toList == y.toList) = true := by simp
            go_wp2_with fail
            go_ret
            exact ⟨by rw [HF.out]; rfl, HB.out⟩
          · have he : (y.toList == x.toList) = false := by
              rw [beq_eq_false_iff_ne]
              exact fun e => hxy (toList_inj' e)
            have HNE := Lib.hid hxy
            clear hxy
            go_wp2_with fail
            go_roundw
            case rel =>
              refine ⟨k + 1, by omega, by go_num, Lib.hid (fun a ha hak => ?_), by first | trivial | rfl⟩
              by_cases e : a = k
              · subst e; rw [HY.out]; exact HNE.out
              · exact HA.out a ha (by omega)
            case measure => simp [intOf]; omega
        · have hki2 : ¬ (k : Int) < (i : Int) := by omega
          have HS2 : Hid (Sep (fun a b : ByteArray => a ≠ b) d.names (i + 1)) := Lib.hid (sep_step HS.out hin (fun a ha hai => by rw [HX.out]; exact HA.out a ha (by omega)))
          go_wp2_with fail
          go_roundw
          case rel => exact ⟨i + 1, by omega, by go_num, HS2.out, by first | trivial | rfl⟩
          case measure => simp [intOf]; omega
    · have HF : Hid (twB d = false) := by
        show _ = _
        have hnd : d.names.Nodup := (sep_all (by omega)).1 HS.out
        rw [HTw.out, decide_eq_true hnd]
        rfl
      go_wp2_with fail
      go_ret
      exact ⟨by rw [HF.out]; rfl, HB.out⟩
theorem evens_get {α : Type} : ∀ (l : List α) (i : Nat) (h : i < (evens l).length), ∃ h2 : 2 * i < l.length, (evens l)[i] = l[2 * i]
  | [], i, h => by simp [evens] at h
  | [x], i, h => by
    have : i = 0 := by simp [evens] at h; omega
    subst this
    exact ⟨by simp, rfl⟩
  | x :: y :: l, 0, h => ⟨by simp, rfl⟩
  | x :: y :: l, i + 1, h => by
    obtain ⟨h2, e⟩ := evens_get l i (by simpa [evens] using h)
    refine ⟨by simp; omega, ?_⟩
    have : 2 * (i + 1) = 2 * i + 1 + 1 := by omega
    simp only [evens, List.getElem_cons_succ, this]
    exact e
theorem evens_len {α : Type} : ∀ l : List α, (evens l).length = (l.length + 1) / 2
  | [] => by simp [evens]
  | [x] => by simp [evens]
  | x :: y :: l => by simp only [evens, List.length_cons, evens_len l]; omega
def apartR (a b : D) : Prop := ordV (leafV a) (leafV b) ≠ 0
instance (a b : D) : Decidable (apartR a b) := by unfold apartR; infer_instance
theorem IsD.agg {w : World} {v : Value} {d : D} (h : IsD w v d) : ∃ a5 c5 a6 c6, v = aggD d a5 c5 a6 c6 := by
  obtain ⟨a5, c5, a6, c6, e, _⟩ := h.open
  exact ⟨a5, c5, a6, c6, e⟩
set_option maxRecDepth 100000 in
set_option maxHeartbeats 8000000 in
theorem twice_keys {w : World} {v : Value} {d : D} (h : IsD w v d) (h21 : d.kind = 21) (hf : formB d = true) : Calls Tryz.prog 61 #[v] w (TwPost w d) := by
  have hkl : keysL d.parts = true ∧ d.parts.length % 2 = 0 := by
    unfold formB at hf
    rw [if_neg (by omega), if_pos h21] at hf
    simp only [Bool.and_eq_true, decide_eq_true_eq] at hf
    exact hf.2
  have HTw : Hid (twB d = !decide ((evens d.parts).Pairwise apartR)) := by
    show _ = _
    unfold twB
    rw [if_neg (by omega), if_pos h21]
    congr 1
    rw [decide_eq_decide, List.pairwise_map]
    exact Iff.rfl
  have hdr := h.rng
  have HDP : Hid (∀ x ∈ d.parts, DR x) := by
    cases hdr with
    | mk _ _ _ _ _ _ _ _ hp => exact Lib.hid hp
  have HKey : Hid (∀ x ∈ evens d.parts, keyK x.kind = true) := by
    have := hkl.1
    rw [keys_evens, List.all_eq_true] at this
    exact Lib.hid this
  have HEv := Lib.hid hkl.2
  obtain ⟨a5, c5, a6, c6, rfl, hk, hb, hi, ht, hx, hn, hp⟩ := h.open
  have hpl : d.parts.length ≤ 140737488355328 := hp.2.1
  have HB := Lib.hid (Below.new (w := w) (cellsD d a5 c5 a6 c6))
  have HBox := Lib.hid (BoxD.new w d a5 c5 a6 c6)
  have HP := Lib.hid (hp.below (Below.new (w := w) (cellsD d a5 c5 a6 c6)))
  clear hk hb hi ht hx hn hp h hdr hf hkl
  unfold aggD
  unfold cellsD at HB HBox HP
  rw [h21] at HB HBox HP ⊢
  have HKd := Lib.hid h21
  clear h21
  obtain ⟨ps, hps⟩ : ∃ ps, d.parts = ps := ⟨_, rfl⟩
  rw [hps] at HTw HDP HKey HEv hpl HB HBox HP ⊢
  have HPE := Lib.hid hps
  clear hps
  go_enter Tryz.func61, Tryz.ntmps61
  go_wp2_with fail
  generalize w.alloc (.cells #[.int .i64 21, .string d.type, .int .u64 d.bits, .int .u64 d.imag, .string d.text, .slice a5 d.names.length c5, .slice a6 ps.length c6, .int .i64 d.hook] 26) = w1 at HB HBox HP ⊢
  obtain ⟨q0, q1, q2, q3, q4, q5, q6, q7⟩ := HBox.out
  rw [HKd.out] at q0
  rw [HPE.out] at q6
  clear q1 q2 q3 q4 q5 q7
  go_loopw [6, 7] (fun kk _ wr => ∃ i i2 : Nat, i2 ≤ ps.length ∧ kk = .int .i64 (i2 : Int) ∧ Hid (i2 = 2 * i) ∧ Hid (Sep apartR (evens ps) i) ∧ Hid (Below w1.heap.size w1 wr)) (fun kk _ _ => ps.length - (intOf kk).toNat)
  case atStart => exact ⟨0, 0, Nat.zero_le _, rfl, rfl, Lib.hid (fun a b h1 h2 hab hb => by omega), Below.refl _ _⟩
  case round =>
    obtain ⟨i, i2, hi, rfl, HI2, HS, HBr⟩ := hrel
    have q6r := cell_below HBr.out q6
    by_cases hin : i2 < ps.length
    · have hie : i < (evens ps).length := by rw [evens_len]; have := HI2.out; omega
      go_wp2_with fail
      go_loopw [7] (fun kk wq => ∃ k k2 : Nat, k2 ≤ i2 ∧ kk = .int .i64 (k2 : Int) ∧ Hid (k2 = 2 * k) ∧ Hid (∀ a (ha : a < (evens ps).length), a < k → apartR (evens ps)[a] (evens ps)[i]) ∧ Hid (Below w1.heap.size w1 wq)) (fun kk _ => i2 - (intOf kk).toNat)
      case atStart => exact ⟨0, 0, Nat.zero_le _, rfl, rfl, Lib.hid (fun a _ h => by omega), HBr.out⟩
      case round =>
        obtain ⟨k, k2, hk, rfl, HK2, HA, HBq⟩ := hrel
        by_cases hki : k2 < i2
        · have hkn : k2 < ps.length := by omega
          have hke : k < (evens ps).length := by rw [evens_len]; have := HK2.out; omega
          obtain ⟨b, o, x5, y5, x6, y6, rfl, hrx, hDx⟩ := HP.out.elem HBq.out hin
          obtain ⟨b', o', u5, v5, u6, v6, e, hry, hDy⟩ := HP.out.elem HBq.out hkn
          injection e with e
          injection e with e1 e2
          subst e1 e2
          have q6q := cell_below HBq.out q6
          have HEx : Hid ((evens ps)[i] = ps[i2]) := by
            obtain ⟨_, e⟩ := evens_get ps i hie
            show _ = _
            rw [e]
            congr 1
            exact HI2.out.symm
          have HEy : Hid ((evens ps)[k] = ps[k2]) := by
            obtain ⟨_, e⟩ := evens_get ps k hke
            show _ = _
            rw [e]
            congr 1
            exact HK2.out.symm
          have hkx := HKey.out _ (List.getElem_mem hie)
          have hky := HKey.out _ (List.getElem_mem hke)
          rw [HEx.out] at hkx
          rw [HEy.out] at hky
          have hdx := HDP.out _ (List.getElem_mem hin)
          have hdy := HDP.out _ (List.getElem_mem hkn)
          obtain ⟨x, hx⟩ : ∃ x, ps[i2] = x := ⟨_, rfl⟩
          obtain ⟨y, hy⟩ : ∃ y, ps[k2] = y := ⟨_, rfl⟩
          rw [hx] at hrx hDx HEx hkx hdx
          rw [hy] at hry hDy HEy hky hdy
          clear hx hy
          have HVx : Hid (KeyV (leafV x) ∧ VR (leafV x)) := ⟨(key_leaf hkx).2, leafV_rng hdx⟩
          have HVy : Hid (KeyV (leafV y) ∧ VR (leafV y)) := ⟨(key_leaf hky).2, leafV_rng hdy⟩
          have hkx' : (1 ≤ x.kind ∧ x.kind ≤ 11) ∨ x.kind = 16 := by simpa [keyK] using hkx
          have hky' : (1 ≤ y.kind ∧ y.kind ≤ 11) ∨ y.kind = 16 := by simpa [keyK] using hky
          have HIx : Hid (∀ W, Below wr.heap.size wr W → Calls Tryz.prog 40 #[.agg #[.int .i64 x.kind, .string x.type, .int .u64 x.bits, .int .u64 x.imag, .string x.text, .slice x5 x.names.length y5, .slice x6 x.parts.length y6, .int .i64 x.hook]] W (RawOpen W (leafV x))) := fun W hW => (in_leaf (hDx.later hW) (by omega) (by omega)).mono fun e w' h => raw_open h
          have HIy : Hid (∀ W, Below wr.heap.size wr W → Calls Tryz.prog 40 #[.agg #[.int .i64 y.kind, .string y.type, .int .u64 y.bits, .int .u64 y.imag, .string y.text, .slice u5 y.names.length v5, .slice u6 y.parts.length v6, .int .i64 y.hook]] W (RawOpen W (leafV y))) := fun W hW => (in_leaf (hDy.later hW) (by omega) (by omega)).mono fun e w' h => raw_open h
          obtain ⟨m0, m1, m2, m3, m4, m5, m6, m7⟩ := hrx
          obtain ⟨n0, n1, n2, n3, n4, n5, n6, n7⟩ := hry
          have p1 : (i2 : Int) < (ps.length : Int) := by omega
          have p2 : (k2 : Int) < (ps.length : Int) := by omega
          have K : wr.cell? ⟨w.heap.size, 6, none⟩ = some (.slice (some ⟨b, o, none⟩) ps.length c6) ∧ wr.cell? ⟨b, o + i2 * 8, none⟩ = some (.int .i64 x.kind) ∧ wr.cell? ⟨b, o + i2 * 8 + 1, none⟩ = some (.string x.type) ∧ wr.cell? ⟨b, o + i2 * 8 + 2, none⟩ = some (.int .u64 x.bits) ∧ wr.cell? ⟨b, o + i2 * 8 + 3, none⟩ = some (.int .u64 x.imag) ∧ wr.cell? ⟨b, o + i2 * 8 + 4, none⟩ = some (.string x.text) ∧ wr.cell? ⟨b, o + i2 * 8 + 5, none⟩ = some (.slice x5 x.names.length y5) ∧ wr.cell? ⟨b, o + i2 * 8 + 6, none⟩ = some (.slice x6 x.parts.length y6) ∧ wr.cell? ⟨b, o + i2 * 8 + 7, none⟩ = some (.int .i64 x.hook) ∧ wr.cell? ⟨b, o + k2 * 8, none⟩ = some (.int .i64 y.kind) ∧ wr.cell? ⟨b, o + k2 * 8 + 1, none⟩ = some (.string y.type) ∧ wr.cell? ⟨b, o + k2 * 8 + 2, none⟩ = some (.int .u64 y.bits) ∧ wr.cell? ⟨b, o + k2 * 8 + 3, none⟩ = some (.int .u64 y.imag) ∧ wr.cell? ⟨b, o + k2 * 8 + 4, none⟩ = some (.string y.text) ∧ wr.cell? ⟨b, o + k2 * 8 + 5, none⟩ = some (.slice u5 y.names.length v5) ∧ wr.cell? ⟨b, o + k2 * 8 + 6, none⟩ = some (.slice u6 y.parts.length v6) ∧ wr.cell? ⟨b, o + k2 * 8 + 7, none⟩ = some (.int .i64 y.hook) := ⟨q6q, m0, m1, m2, m3, m4, m5, m6, m7, n0, n1, n2, n3, n4, n5, n6, n7⟩
          have HBW : Below wr.heap.size wr wr.drew := (Below.refl _ _).drew
          clear hDx hDy hkx hky hdx hdy hkx' hky' q6q m0 m1 m2 m3 m4 m5 m6 m7 n0 n1 n2 n3 n4 n5 n6 n7
          obtain ⟨cc, hcc⟩ : ∃ cc, cmpD (rawV (leafV x)) (rawV (leafV y)) = cc := ⟨_, rfl⟩
          have HCC := Lib.hid hcc
          have HOrd : Hid (cc = ordV (leafV x) (leafV y)) := by
            show _ = _
            rw [← hcc]
            exact cmp_raw HVx.out.1.ok HVy.out.1.ok HVx.out.2 HVy.out.2
          have HCmp : Hid (∀ (W : World) (va vb : Value), IsD W va (rawV (leafV x)) → IsD W vb (rawV (leafV y)) → Calls Tryz.prog 91 #[va, vb] W fun e w' => e = .returned (.int .i64 cc) ∧ Below W.heap.size W w') := by
            intro W va vb h1 h2
            refine (refCmp_any h1 h2).mono fun e w' h => ?_
            rw [← hcc]
            exact h
          clear hcc
          by_cases hc0 : cc = 0
          · have hc1 : (cc == 0) = true := by simpa using hc0
            have HC0 := Lib.hid hc0
            clear hc0
            have HF : Hid (twB d = true) := by
              have hno : ¬ (evens ps).Pairwise apartR := sep_not (i := i) (a := k) hie (by have := HI2.out; have := HK2.out; omega) (by
                rw [HEx.out, HEy.out]
                unfold apartR
                intro hne
                have h1 := HOrd.out
                rw [HC0.out] at h1
                have := ordP_anti (a := (leafV x, leafV x)) (b := (leafV y, leafV y)) HVx.out.1 HVy.out.1
                unfold ordP at this
                simp only at this
                omega)
              show _ = _
              rw [HTw.out, decide_eq_false hno]
              rfl
            go_wp2_with fail
            go_region_held3 (fun w' => w'.cell? ⟨w.heap.size, 6, none⟩ = some (.slice (some ⟨b, o, none⟩) ps.length c6) ∧ w'.cell? ⟨b, o + i2 * 8, none⟩ = some (.int .i64 x.kind) ∧ w'.cell? ⟨b, o + i2 * 8 + 1, none⟩ = some (.string x.type) ∧ w'.cell? ⟨b, o + i2 * 8 + 2, none⟩ = some (.int .u64 x.bits) ∧ w'.cell? ⟨b, o + i2 * 8 + 3, none⟩ = some (.int .u64 x.imag) ∧ w'.cell? ⟨b, o + i2 * 8 + 4, none⟩ = some (.string x.text) ∧ w'.cell? ⟨b, o + i2 * 8 + 5, none⟩ = some (.slice x5 x.names.length y5) ∧ w'.cell? ⟨b, o + i2 * 8 + 6, none⟩ = some (.slice x6 x.parts.length y6) ∧ w'.cell? ⟨b, o + i2 * 8 + 7, none⟩ = some (.int .i64 x.hook) ∧ w'.cell? ⟨b, o + k2 * 8, none⟩ = some (.int .i64 y.kind) ∧ w'.cell? ⟨b, o + k2 * 8 + 1, none⟩ = some (.string y.type) ∧ w'.cell? ⟨b, o + k2 * 8 + 2, none⟩ = some (.int .u64 y.bits) ∧ w'.cell? ⟨b, o + k2 * 8 + 3, none⟩ = some (.int .u64 y.imag) ∧ w'.cell? ⟨b, o + k2 * 8 + 4, none⟩ = some (.string y.text) ∧ w'.cell? ⟨b, o + k2 * 8 + 5, none⟩ = some (.slice u5 y.names.length v5) ∧ w'.cell? ⟨b, o + k2 * 8 + 6, none⟩ = some (.slice u6 y.parts.length v6) ∧ w'.cell? ⟨b, o + k2 * 8 + 7, none⟩ = some (.int .i64 y.hook)) (exact K) (first
              | (go_at_call 40; (with_reducible refine (HIx.out _ HBW).mono ?_); rintro e wx ⟨hbN, k0x, tyx, b0x, i0x, txx, a5x, n5x, c5x, a6x, n6x, c6x, h0x, rfl, hdN⟩; have K := ((show wx.cell? ⟨w.heap.size, 6, none⟩ = some (.slice (some ⟨b, o, none⟩) ps.length c6) ∧ wx.cell? ⟨b, o + i2 * 8, none⟩ = some (.int .i64 x.kind) ∧ wx.cell? ⟨b, o + i2 * 8 + 1, none⟩ = some (.string x.type) ∧ wx.cell? ⟨b, o + i2 * 8 + 2, none⟩ = some (.int .u64 x.bits) ∧ wx.cell? ⟨b, o + i2 * 8 + 3, none⟩ = some (.int .u64 x.imag) ∧ wx.cell? ⟨b, o + i2 * 8 + 4, none⟩ = some (.string x.text) ∧ wx.cell? ⟨b, o + i2 * 8 + 5, none⟩ = some (.slice x5 x.names.length y5) ∧ wx.cell? ⟨b, o + i2 * 8 + 6, none⟩ = some (.slice x6 x.parts.length y6) ∧ wx.cell? ⟨b, o + i2 * 8 + 7, none⟩ = some (.int .i64 x.hook) ∧ wx.cell? ⟨b, o + k2 * 8, none⟩ = some (.int .i64 y.kind) ∧ wx.cell? ⟨b, o + k2 * 8 + 1, none⟩ = some (.string y.type) ∧ wx.cell? ⟨b, o + k2 * 8 + 2, none⟩ = some (.int .u64 y.bits) ∧ wx.cell? ⟨b, o + k2 * 8 + 3, none⟩ = some (.int .u64 y.imag) ∧ wx.cell? ⟨b, o + k2 * 8 + 4, none⟩ = some (.string y.text) ∧ wx.cell? ⟨b, o + k2 * 8 + 5, none⟩ = some (.slice u5 y.names.length v5) ∧ wx.cell? ⟨b, o + k2 * 8 + 6, none⟩ = some (.slice u6 y.parts.length v6) ∧ wx.cell? ⟨b, o + k2 * 8 + 7, none⟩ = some (.int .i64 y.hook) from ⟨cell_below hbN K.1, cell_below hbN K.2.1, cell_below hbN K.2.2.1, cell_below hbN K.2.2.2.1, cell_below hbN K.2.2.2.2.1, cell_below hbN K.2.2.2.2.2.1, cell_below hbN K.2.2.2.2.2.2.1, cell_below hbN K.2.2.2.2.2.2.2.1, cell_below hbN K.2.2.2.2.2.2.2.2.1, cell_below hbN K.2.2.2.2.2.2.2.2.2.1, cell_below hbN K.2.2.2.2.2.2.2.2.2.2.1, cell_below hbN K.2.2.2.2.2.2.2.2.2.2.2.1, cell_below hbN K.2.2.2.2.2.2.2.2.2.2.2.2.1, cell_below hbN K.2.2.2.2.2.2.2.2.2.2.2.2.2.1, cell_below hbN K.2.2.2.2.2.2.2.2.2.2.2.2.2.2.1, cell_below hbN K.2.2.2.2.2.2.2.2.2.2.2.2.2.2.2.1, cell_below hbN K.2.2.2.2.2.2.2.2.2.2.2.2.2.2.2.2⟩)); have HBW := HBW.next hbN; have HRx := Lib.hid hdN.isD; (try have HRy := Lib.hid (HRy.out.later hbN)); clear hbN hdN)
              | (go_at_call 40; (with_reducible refine (HIy.out _ HBW).mono ?_); rintro e wy ⟨hbN, k0y, tyy, b0y, i0y, txy, a5y, n5y, c5y, a6y, n6y, c6y, h0y, rfl, hdN⟩; have K := ((show wy.cell? ⟨w.heap.size, 6, none⟩ = some (.slice (some ⟨b, o, none⟩) ps.length c6) ∧ wy.cell? ⟨b, o + i2 * 8, none⟩ = some (.int .i64 x.kind) ∧ wy.cell? ⟨b, o + i2 * 8 + 1, none⟩ = some (.string x.type) ∧ wy.cell? ⟨b, o + i2 * 8 + 2, none⟩ = some (.int .u64 x.bits) ∧ wy.cell? ⟨b, o + i2 * 8 + 3, none⟩ = some (.int .u64 x.imag) ∧ wy.cell? ⟨b, o + i2 * 8 + 4, none⟩ = some (.string x.text) ∧ wy.cell? ⟨b, o + i2 * 8 + 5, none⟩ = some (.slice x5 x.names.length y5) ∧ wy.cell? ⟨b, o + i2 * 8 + 6, none⟩ = some (.slice x6 x.parts.length y6) ∧ wy.cell? ⟨b, o + i2 * 8 + 7, none⟩ = some (.int .i64 x.hook) ∧ wy.cell? ⟨b, o + k2 * 8, none⟩ = some (.int .i64 y.kind) ∧ wy.cell? ⟨b, o + k2 * 8 + 1, none⟩ = some (.string y.type) ∧ wy.cell? ⟨b, o + k2 * 8 + 2, none⟩ = some (.int .u64 y.bits) ∧ wy.cell? ⟨b, o + k2 * 8 + 3, none⟩ = some (.int .u64 y.imag) ∧ wy.cell? ⟨b, o + k2 * 8 + 4, none⟩ = some (.string y.text) ∧ wy.cell? ⟨b, o + k2 * 8 + 5, none⟩ = some (.slice u5 y.names.length v5) ∧ wy.cell? ⟨b, o + k2 * 8 + 6, none⟩ = some (.slice u6 y.parts.length v6) ∧ wy.cell? ⟨b, o + k2 * 8 + 7, none⟩ = some (.int .i64 y.hook) from ⟨cell_below hbN K.1, cell_below hbN K.2.1, cell_below hbN K.2.2.1, cell_below hbN K.2.2.2.1, cell_below hbN K.2.2.2.2.1, cell_below hbN K.2.2.2.2.2.1, cell_below hbN K.2.2.2.2.2.2.1, cell_below hbN K.2.2.2.2.2.2.2.1, cell_below hbN K.2.2.2.2.2.2.2.2.1, cell_below hbN K.2.2.2.2.2.2.2.2.2.1, cell_below hbN K.2.2.2.2.2.2.2.2.2.2.1, cell_below hbN K.2.2.2.2.2.2.2.2.2.2.2.1, cell_below hbN K.2.2.2.2.2.2.2.2.2.2.2.2.1, cell_below hbN K.2.2.2.2.2.2.2.2.2.2.2.2.2.1, cell_below hbN K.2.2.2.2.2.2.2.2.2.2.2.2.2.2.1, cell_below hbN K.2.2.2.2.2.2.2.2.2.2.2.2.2.2.2.1, cell_below hbN K.2.2.2.2.2.2.2.2.2.2.2.2.2.2.2.2⟩)); have HBW := HBW.next hbN; have HRy := Lib.hid hdN.isD; (try have HRx := Lib.hid (HRx.out.later hbN)); clear hbN hdN)
              | (go_at_call 91; (with_reducible refine (HCmp.out _ _ _ HRx.out HRy.out).mono ?_); rintro e wz ⟨rfl, hbN⟩; have K := ((show wz.cell? ⟨w.heap.size, 6, none⟩ = some (.slice (some ⟨b, o, none⟩) ps.length c6) ∧ wz.cell? ⟨b, o + i2 * 8, none⟩ = some (.int .i64 x.kind) ∧ wz.cell? ⟨b, o + i2 * 8 + 1, none⟩ = some (.string x.type) ∧ wz.cell? ⟨b, o + i2 * 8 + 2, none⟩ = some (.int .u64 x.bits) ∧ wz.cell? ⟨b, o + i2 * 8 + 3, none⟩ = some (.int .u64 x.imag) ∧ wz.cell? ⟨b, o + i2 * 8 + 4, none⟩ = some (.string x.text) ∧ wz.cell? ⟨b, o + i2 * 8 + 5, none⟩ = some (.slice x5 x.names.length y5) ∧ wz.cell? ⟨b, o + i2 * 8 + 6, none⟩ = some (.slice x6 x.parts.length y6) ∧ wz.cell? ⟨b, o + i2 * 8 + 7, none⟩ = some (.int .i64 x.hook) ∧ wz.cell? ⟨b, o + k2 * 8, none⟩ = some (.int .i64 y.kind) ∧ wz.cell? ⟨b, o + k2 * 8 + 1, none⟩ = some (.string y.type) ∧ wz.cell? ⟨b, o + k2 * 8 + 2, none⟩ = some (.int .u64 y.bits) ∧ wz.cell? ⟨b, o + k2 * 8 + 3, none⟩ = some (.int .u64 y.imag) ∧ wz.cell? ⟨b, o + k2 * 8 + 4, none⟩ = some (.string y.text) ∧ wz.cell? ⟨b, o + k2 * 8 + 5, none⟩ = some (.slice u5 y.names.length v5) ∧ wz.cell? ⟨b, o + k2 * 8 + 6, none⟩ = some (.slice u6 y.parts.length v6) ∧ wz.cell? ⟨b, o + k2 * 8 + 7, none⟩ = some (.int .i64 y.hook) from ⟨cell_below hbN K.1, cell_below hbN K.2.1, cell_below hbN K.2.2.1, cell_below hbN K.2.2.2.1, cell_below hbN K.2.2.2.2.1, cell_below hbN K.2.2.2.2.2.1, cell_below hbN K.2.2.2.2.2.2.1, cell_below hbN K.2.2.2.2.2.2.2.1, cell_below hbN K.2.2.2.2.2.2.2.2.1, cell_below hbN K.2.2.2.2.2.2.2.2.2.1, cell_below hbN K.2.2.2.2.2.2.2.2.2.2.1, cell_below hbN K.2.2.2.2.2.2.2.2.2.2.2.1, cell_below hbN K.2.2.2.2.2.2.2.2.2.2.2.2.1, cell_below hbN K.2.2.2.2.2.2.2.2.2.2.2.2.2.1, cell_below hbN K.2.2.2.2.2.2.2.2.2.2.2.2.2.2.1, cell_below hbN K.2.2.2.2.2.2.2.2.2.2.2.2.2.2.2.1, cell_below hbN K.2.2.2.2.2.2.2.2.2.2.2.2.2.2.2.2⟩)); have HBZ := Lib.hid (HBW.next hbN); clear hbN))
            all_goals
              go_wp2_with fail
              go_ret
              exact ⟨by rw [HF.out]; rfl, HB.out.next (HBq.out.next HBZ.out)⟩
          · have hc1 : (cc == 0) = false := by simpa using hc0
            have HC0 := Lib.hid hc0
            clear hc0
            go_wp2_with fail
            go_region_held3 (fun w' => w'.cell? ⟨w.heap.size, 6, none⟩ = some (.slice (some ⟨b, o, none⟩) ps.length c6) ∧ w'.cell? ⟨b, o + i2 * 8, none⟩ = some (.int .i64 x.kind) ∧ w'.cell? ⟨b, o + i2 * 8 + 1, none⟩ = some (.string x.type) ∧ w'.cell? ⟨b, o + i2 * 8 + 2, none⟩ = some (.int .u64 x.bits) ∧ w'.cell? ⟨b, o + i2 * 8 + 3, none⟩ = some (.int .u64 x.imag) ∧ w'.cell? ⟨b, o + i2 * 8 + 4, none⟩ = some (.string x.text) ∧ w'.cell? ⟨b, o + i2 * 8 + 5, none⟩ = some (.slice x5 x.names.length y5) ∧ w'.cell? ⟨b, o + i2 * 8 + 6, none⟩ = some (.slice x6 x.parts.length y6) ∧ w'.cell? ⟨b, o + i2 * 8 + 7, none⟩ = some (.int .i64 x.hook) ∧ w'.cell? ⟨b, o + k2 * 8, none⟩ = some (.int .i64 y.kind) ∧ w'.cell? ⟨b, o + k2 * 8 + 1, none⟩ = some (.string y.type) ∧ w'.cell? ⟨b, o + k2 * 8 + 2, none⟩ = some (.int .u64 y.bits) ∧ w'.cell? ⟨b, o + k2 * 8 + 3, none⟩ = some (.int .u64 y.imag) ∧ w'.cell? ⟨b, o + k2 * 8 + 4, none⟩ = some (.string y.text) ∧ w'.cell? ⟨b, o + k2 * 8 + 5, none⟩ = some (.slice u5 y.names.length v5) ∧ w'.cell? ⟨b, o + k2 * 8 + 6, none⟩ = some (.slice u6 y.parts.length v6) ∧ w'.cell? ⟨b, o + k2 * 8 + 7, none⟩ = some (.int .i64 y.hook)) (exact K) (first
              | (go_at_call 40; (with_reducible refine (HIx.out _ HBW).mono ?_); rintro e wx ⟨hbN, k0x, tyx, b0x, i0x, txx, a5x, n5x, c5x, a6x, n6x, c6x, h0x, rfl, hdN⟩; have K := ((show wx.cell? ⟨w.heap.size, 6, none⟩ = some (.slice (some ⟨b, o, none⟩) ps.length c6) ∧ wx.cell? ⟨b, o + i2 * 8, none⟩ = some (.int .i64 x.kind) ∧ wx.cell? ⟨b, o + i2 * 8 + 1, none⟩ = some (.string x.type) ∧ wx.cell? ⟨b, o + i2 * 8 + 2, none⟩ = some (.int .u64 x.bits) ∧ wx.cell? ⟨b, o + i2 * 8 + 3, none⟩ = some (.int .u64 x.imag) ∧ wx.cell? ⟨b, o + i2 * 8 + 4, none⟩ = some (.string x.text) ∧ wx.cell? ⟨b, o + i2 * 8 + 5, none⟩ = some (.slice x5 x.names.length y5) ∧ wx.cell? ⟨b, o + i2 * 8 + 6, none⟩ = some (.slice x6 x.parts.length y6) ∧ wx.cell? ⟨b, o + i2 * 8 + 7, none⟩ = some (.int .i64 x.hook) ∧ wx.cell? ⟨b, o + k2 * 8, none⟩ = some (.int .i64 y.kind) ∧ wx.cell? ⟨b, o + k2 * 8 + 1, none⟩ = some (.string y.type) ∧ wx.cell? ⟨b, o + k2 * 8 + 2, none⟩ = some (.int .u64 y.bits) ∧ wx.cell? ⟨b, o + k2 * 8 + 3, none⟩ = some (.int .u64 y.imag) ∧ wx.cell? ⟨b, o + k2 * 8 + 4, none⟩ = some (.string y.text) ∧ wx.cell? ⟨b, o + k2 * 8 + 5, none⟩ = some (.slice u5 y.names.length v5) ∧ wx.cell? ⟨b, o + k2 * 8 + 6, none⟩ = some (.slice u6 y.parts.length v6) ∧ wx.cell? ⟨b, o + k2 * 8 + 7, none⟩ = some (.int .i64 y.hook) from ⟨cell_below hbN K.1, cell_below hbN K.2.1, cell_below hbN K.2.2.1, cell_below hbN K.2.2.2.1, cell_below hbN K.2.2.2.2.1, cell_below hbN K.2.2.2.2.2.1, cell_below hbN K.2.2.2.2.2.2.1, cell_below hbN K.2.2.2.2.2.2.2.1, cell_below hbN K.2.2.2.2.2.2.2.2.1, cell_below hbN K.2.2.2.2.2.2.2.2.2.1, cell_below hbN K.2.2.2.2.2.2.2.2.2.2.1, cell_below hbN K.2.2.2.2.2.2.2.2.2.2.2.1, cell_below hbN K.2.2.2.2.2.2.2.2.2.2.2.2.1, cell_below hbN K.2.2.2.2.2.2.2.2.2.2.2.2.2.1, cell_below hbN K.2.2.2.2.2.2.2.2.2.2.2.2.2.2.1, cell_below hbN K.2.2.2.2.2.2.2.2.2.2.2.2.2.2.2.1, cell_below hbN K.2.2.2.2.2.2.2.2.2.2.2.2.2.2.2.2⟩)); have HBW := HBW.next hbN; have HRx := Lib.hid hdN.isD; (try have HRy := Lib.hid (HRy.out.later hbN)); clear hbN hdN)
              | (go_at_call 40; (with_reducible refine (HIy.out _ HBW).mono ?_); rintro e wy ⟨hbN, k0y, tyy, b0y, i0y, txy, a5y, n5y, c5y, a6y, n6y, c6y, h0y, rfl, hdN⟩; have K := ((show wy.cell? ⟨w.heap.size, 6, none⟩ = some (.slice (some ⟨b, o, none⟩) ps.length c6) ∧ wy.cell? ⟨b, o + i2 * 8, none⟩ = some (.int .i64 x.kind) ∧ wy.cell? ⟨b, o + i2 * 8 + 1, none⟩ = some (.string x.type) ∧ wy.cell? ⟨b, o + i2 * 8 + 2, none⟩ = some (.int .u64 x.bits) ∧ wy.cell? ⟨b, o + i2 * 8 + 3, none⟩ = some (.int .u64 x.imag) ∧ wy.cell? ⟨b, o + i2 * 8 + 4, none⟩ = some (.string x.text) ∧ wy.cell? ⟨b, o + i2 * 8 + 5, none⟩ = some (.slice x5 x.names.length y5) ∧ wy.cell? ⟨b, o + i2 * 8 + 6, none⟩ = some (.slice x6 x.parts.length y6) ∧ wy.cell? ⟨b, o + i2 * 8 + 7, none⟩ = some (.int .i64 x.hook) ∧ wy.cell? ⟨b, o + k2 * 8, none⟩ = some (.int .i64 y.kind) ∧ wy.cell? ⟨b, o + k2 * 8 + 1, none⟩ = some (.string y.type) ∧ wy.cell? ⟨b, o + k2 * 8 + 2, none⟩ = some (.int .u64 y.bits) ∧ wy.cell? ⟨b, o + k2 * 8 + 3, none⟩ = some (.int .u64 y.imag) ∧ wy.cell? ⟨b, o + k2 * 8 + 4, none⟩ = some (.string y.text) ∧ wy.cell? ⟨b, o + k2 * 8 + 5, none⟩ = some (.slice u5 y.names.length v5) ∧ wy.cell? ⟨b, o + k2 * 8 + 6, none⟩ = some (.slice u6 y.parts.length v6) ∧ wy.cell? ⟨b, o + k2 * 8 + 7, none⟩ = some (.int .i64 y.hook) from ⟨cell_below hbN K.1, cell_below hbN K.2.1, cell_below hbN K.2.2.1, cell_below hbN K.2.2.2.1, cell_below hbN K.2.2.2.2.1, cell_below hbN K.2.2.2.2.2.1, cell_below hbN K.2.2.2.2.2.2.1, cell_below hbN K.2.2.2.2.2.2.2.1, cell_below hbN K.2.2.2.2.2.2.2.2.1, cell_below hbN K.2.2.2.2.2.2.2.2.2.1, cell_below hbN K.2.2.2.2.2.2.2.2.2.2.1, cell_below hbN K.2.2.2.2.2.2.2.2.2.2.2.1, cell_below hbN K.2.2.2.2.2.2.2.2.2.2.2.2.1, cell_below hbN K.2.2.2.2.2.2.2.2.2.2.2.2.2.1, cell_below hbN K.2.2.2.2.2.2.2.2.2.2.2.2.2.2.1, cell_below hbN K.2.2.2.2.2.2.2.2.2.2.2.2.2.2.2.1, cell_below hbN K.2.2.2.2.2.2.2.2.2.2.2.2.2.2.2.2⟩)); have HBW := HBW.next hbN; have HRy := Lib.hid hdN.isD; (try have HRx := Lib.hid (HRx.out.later hbN)); clear hbN hdN)
              | (go_at_call 91; (with_reducible refine (HCmp.out _ _ _ HRx.out HRy.out).mono ?_); rintro e wz ⟨rfl, hbN⟩; have K := ((show wz.cell? ⟨w.heap.size, 6, none⟩ = some (.slice (some ⟨b, o, none⟩) ps.length c6) ∧ wz.cell? ⟨b, o + i2 * 8, none⟩ = some (.int .i64 x.kind) ∧ wz.cell? ⟨b, o + i2 * 8 + 1, none⟩ = some (.string x.type) ∧ wz.cell? ⟨b, o + i2 * 8 + 2, none⟩ = some (.int .u64 x.bits) ∧ wz.cell? ⟨b, o + i2 * 8 + 3, none⟩ = some (.int .u64 x.imag) ∧ wz.cell? ⟨b, o + i2 * 8 + 4, none⟩ = some (.string x.text) ∧ wz.cell? ⟨b, o + i2 * 8 + 5, none⟩ = some (.slice x5 x.names.length y5) ∧ wz.cell? ⟨b, o + i2 * 8 + 6, none⟩ = some (.slice x6 x.parts.length y6) ∧ wz.cell? ⟨b, o + i2 * 8 + 7, none⟩ = some (.int .i64 x.hook) ∧ wz.cell? ⟨b, o + k2 * 8, none⟩ = some (.int .i64 y.kind) ∧ wz.cell? ⟨b, o + k2 * 8 + 1, none⟩ = some (.string y.type) ∧ wz.cell? ⟨b, o + k2 * 8 + 2, none⟩ = some (.int .u64 y.bits) ∧ wz.cell? ⟨b, o + k2 * 8 + 3, none⟩ = some (.int .u64 y.imag) ∧ wz.cell? ⟨b, o + k2 * 8 + 4, none⟩ = some (.string y.text) ∧ wz.cell? ⟨b, o + k2 * 8 + 5, none⟩ = some (.slice u5 y.names.length v5) ∧ wz.cell? ⟨b, o + k2 * 8 + 6, none⟩ = some (.slice u6 y.parts.length v6) ∧ wz.cell? ⟨b, o + k2 * 8 + 7, none⟩ = some (.int .i64 y.hook) from ⟨cell_below hbN K.1, cell_below hbN K.2.1, cell_below hbN K.2.2.1, cell_below hbN K.2.2.2.1, cell_below hbN K.2.2.2.2.1, cell_below hbN K.2.2.2.2.2.1, cell_below hbN K.2.2.2.2.2.2.1, cell_below hbN K.2.2.2.2.2.2.2.1, cell_below hbN K.2.2.2.2.2.2.2.2.1, cell_below hbN K.2.2.2.2.2.2.2.2.2.1, cell_below hbN K.2.2.2.2.2.2.2.2.2.2.1, cell_below hbN K.2.2.2.2.2.2.2.2.2.2.2.1, cell_below hbN K.2.2.2.2.2.2.2.2.2.2.2.2.1, cell_below hbN K.2.2.2.2.2.2.2.2.2.2.2.2.2.1, cell_below hbN K.2.2.2.2.2.2.2.2.2.2.2.2.2.2.1, cell_below hbN K.2.2.2.2.2.2.2.2.2.2.2.2.2.2.2.1, cell_below hbN K.2.2.2.2.2.2.2.2.2.2.2.2.2.2.2.2⟩)); have HBZ := Lib.hid (HBW.next hbN); clear hbN))
            all_goals
              go_wp2_with fail
              go_roundw
              case rel =>
                refine ⟨k + 1, k2 + 2, by have := HI2.out; have := HK2.out; omega, by go_num, by show _ = _; have := HK2.out; omega, Lib.hid (fun a ha hak => ?_), HBq.out.next HBZ.out⟩
                by_cases e : a = k
                · subst e
                  rw [HEx.out, HEy.out]
                  unfold apartR
                  intro h0
                  have h1 := HOrd.out
                  have := ordP_anti (a := (leafV y, leafV y)) (b := (leafV x, leafV x)) HVy.out.1 HVx.out.1
                  unfold ordP at this
                  simp only at this
                  exact HC0.out (by omega)
                · exact HA.out a ha (by omega)
              case measure => simp [intOf]; have := HI2.out; have := HK2.out; omega
        · have HS2 : Hid (Sep apartR (evens ps) (i + 1)) := Lib.hid (sep_step HS.out hie (fun a ha hai => HA.out a ha (by have := HI2.out; have := HK2.out; omega)))
          go_wp2_with fail
          go_roundw
          case rel => exact ⟨i + 1, i2 + 2, by have := HI2.out; have := HEv.out; omega, by go_num, by show _ = _; have := HI2.out; omega, HS2.out, HBq.out⟩
          case measure => simp [intOf]; omega
    · have HF : Hid (twB d = false) := by
        have hyes : (evens ps).Pairwise apartR := (sep_all (by rw [evens_len]; have := HI2.out; omega)).1 HS.out
        show _ = _
        rw [HTw.out, decide_eq_true hyes]
        rfl
      go_wp2_with fail
      go_ret
      exact ⟨by rw [HF.out]; rfl, HB.out.next HBr.out⟩
/-- twice. -/
theorem twice_any {w : World} {v : Value} {d : D} (h : IsD w v d) (hf : formB d = true) : Calls Tryz.prog 61 #[v] w (TwPost w d) := by
  by_cases h18 : d.kind = 18
  · exact twice_names h h18
  · by_cases h21 : d.kind = 21
    · exact twice_keys h h21 hf
    · have HTw : Hid (twB d = false) := by show _ = _; unfold twB; rw [if_neg h18, if_neg h21]
      obtain ⟨a5, c5, a6, c6, rfl, hk, hb, hi, ht, hx, hn, hp⟩ := h.open
      have HB := Lib.hid (Below.new (w := w))
      have e18 : (d.kind == 18) = false := by simpa using h18
      have e21 : (d.kind == 21) = false := by simpa using h21
      clear hk hb hi ht hx hn hp h h18 h21 hf
      unfold aggD
      go_enter Tryz.func61, Tryz.ntmps61
      go_wp2_with fail
      go_ret
      exact ⟨by rw [HTw.out]; rfl, HB.out _⟩
end Go.Proofs.YtkpfeodffhfejaaGreatDoor
