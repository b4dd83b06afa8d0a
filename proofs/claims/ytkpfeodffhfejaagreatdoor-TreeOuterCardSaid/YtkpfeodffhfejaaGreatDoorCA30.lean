/- The reference's texts: letter, Typed, Named: they are the program's. No condition. -/
import Derived.Test.YtkpfeodffhfejaaGreatDoorCA04
import Derived.Test.YtkpfeodffhfejaaGreatDoorCA03
import Derived.Test.YtkpfeodffhfejaaGreatDoorCA21
namespace Go.Proofs.YtkpfeodffhfejaaGreatDoor
set_option linter.unusedVariables false
set_option maxRecDepth 1000000
set_option linter.unusedSimpArgs false
open Go.RowKit

theorem letter_any (x : Nat) (h : x ≤ 255) (w : World) : Calls Tryz.prog 116 #[.int .u8 (x : Int)] w fun e w' => e = .returned (.bool (letterN x)) ∧ w = w' := by
  have HQ : Hid (letterN x = decide (x = 95 ∨ (97 ≤ x ∧ x ≤ 122) ∨ (65 ≤ x ∧ x ≤ 90))) := rfl
  by_cases h95 : x = 95
  · subst h95
    go_enter Tryz.func116, Tryz.ntmps116
    go_wp2
    go_ret
    exact ⟨rfl, rfl⟩
  have e95 : ((x : Int) == 95) = false := by simp; omega
  have n95 := Lib.hid h95
  clear h95
  by_cases h1 : 97 ≤ x
  · have e1 : decide (97 ≤ (x : Int)) = true := by simp; omega
    by_cases h2 : x ≤ 122
    · have e2 : decide ((x : Int) ≤ 122) = true := by simp; omega
      go_enter Tryz.func116, Tryz.ntmps116
      go_wp2
      go_ret
      exact ⟨ret_bool (by rw [HQ.out]; simp; omega), rfl⟩
    · have e2 : decide ((x : Int) ≤ 122) = false := by simp; omega
      have e3 : decide (65 ≤ (x : Int)) = true := by simp; omega
      have e4 : decide ((x : Int) ≤ 90) = false := by simp; omega
      go_enter Tryz.func116, Tryz.ntmps116
      go_wp2
      go_ret
      exact ⟨ret_bool (by rw [HQ.out]; simp; omega), rfl⟩
  · have e1 : decide (97 ≤ (x : Int)) = false := by simp; omega
    by_cases h3 : 65 ≤ x
    · have e3 : decide (65 ≤ (x : Int)) = true := by simp; omega
      by_cases h4 : x ≤ 90
      · have e4 : decide ((x : Int) ≤ 90) = true := by simp; omega
        go_enter Tryz.func116, Tryz.ntmps116
        go_wp2
        go_ret
        exact ⟨ret_bool (by rw [HQ.out]; simp; omega), rfl⟩
      · have e4 : decide ((x : Int) ≤ 90) = false := by simp; omega
        go_enter Tryz.func116, Tryz.ntmps116
        go_wp2
        go_ret
        exact ⟨ret_bool (by rw [HQ.out]; have := n95.out; simp; omega), rfl⟩
    · have e3 : decide (65 ≤ (x : Int)) = false := by simp; omega
      go_enter Tryz.func116, Tryz.ntmps116
      go_wp2
      go_ret
      exact ⟨ret_bool (by rw [HQ.out]; have := n95.out; simp; omega), rfl⟩
theorem byte_at (s : ByteArray) (i : Nat) (h : i < s.size) (h' : i < s.data.toList.length) : s.data.toList[i] = s[i] := by
  rw [Array.getElem_toList]; rfl
theorem bytes_list (s : ByteArray) : ∃ l : List UInt8, s.data.toList = l ∧ l.length = s.size ∧ ∀ i (h : i < s.size) (h' : i < l.length), l[i] = s[i] := ⟨_, rfl, by simp, byte_at s⟩
set_option maxHeartbeats 1000000 in
theorem refTyped_any (s : ByteArray) (hs : s.size ≤ cap47) (w : World) : Calls Tryz.prog 89 #[.string s] w fun e w' => e = .returned (.bool (typedB s)) ∧ w = w' := by
  unfold cap47 at hs
  have HT : Hid (typedB s = (s.data.toList.all typeByte && decide (s.size ≤ 32))) := rfl
  obtain ⟨l, hl, hlen, hat⟩ := bytes_list s
  have HLen := Lib.hid hlen
  have HAt := Lib.hid hat
  rw [hl] at HT
  clear hlen hl hat
  go_enter Tryz.func89, Tryz.ntmps89
  go_wp2_with fail
  go_loop [3] (fun k => ∃ i : Nat, i ≤ s.size ∧ k = .int .i64 i ∧ Hid (l.all typeByte = (l.drop i).all typeByte)) (fun k => s.size - (intOf k).toNat)
  case atStart => exact ⟨0, by omega, rfl, rfl⟩
  case round =>
    obtain ⟨i, hi, rfl, HRec⟩ := hrel
    by_cases hin : i < s.size
    · have hil : i < l.length := by have := HLen.out; omega
      have hrc := HRec.out
      rw [all_drop _ hil, HAt.out i hin hil] at hrc
      have HG : Hid (typeByte s[i] = decide (33 ≤ s[i].toNat ∧ s[i].toNat ≤ 126)) := rfl
      have HRec2 := Lib.hid hrc
      clear hrc
      go_wp2_with fail
      all_goals
        first
          | (refine ⟨⟨i + 1, by omega, by go_num, ?_⟩, by simp [intOf]; omega⟩
             show _ = _
             rw [HRec2.out, HG.out]
             have : decide (33 ≤ s[i].toNat ∧ s[i].toNat ≤ 126) = true := by simp; omega
             rw [this, Bool.true_and])
          | (go_ret
             refine ⟨ret_bool ?_, rfl⟩
             rw [HT.out, HRec2.out, HG.out]
             have : decide (33 ≤ s[i].toNat ∧ s[i].toNat ≤ 126) = false := by simp; omega
             rw [this]; rfl)
    · go_wp2_with fail
      go_ret
      refine ⟨ret_bool ?_, rfl⟩
      rw [HT.out, HRec.out, List.drop_of_length_le (by have := HLen.out; omega)]
      simp
      omega
theorem letter_u8 (c : UInt8) (w : World) : Calls Tryz.prog 116 #[.int .u8 (c.toNat : Int)] w fun e w' => e = .returned (.bool (letterN c.toNat)) ∧ w = w' := letter_any c.toNat (by have := c.toNat_lt; omega) w
set_option maxHeartbeats 1000000 in
theorem refNamed_any (s : ByteArray) (hs : s.size ≤ cap47) (w : World) : Calls Tryz.prog 90 #[.string s] w fun e w' => e = .returned (.bool (namedB s)) ∧ w = w' := by
  unfold cap47 at hs
  have HT : Hid (namedB s = (okAll s.data.toList 0 && decide (1 ≤ s.size) && decide (s.size ≤ 32))) := rfl
  obtain ⟨l, hl, hlen, hat⟩ := bytes_list s
  have HLen := Lib.hid hlen
  have HAt := Lib.hid hat
  rw [hl] at HT
  clear hlen hl hat
  by_cases h1 : 1 ≤ s.size
  · by_cases h2 : s.size ≤ 32
    · have d1 : decide ((s.size : Int) < 1) = false := by simp; omega
      have d2 : decide ((32 : Int) < (s.size : Int)) = false := by simp; omega
      have h0 : 0 < s.size := by omega
      have hz := HAt.out 0 h0 (by have := HLen.out; omega)
      have HOK : Hid (okAll l 0 = (letterN s[0].toNat && okAll (l.drop 1) 1)) := by
        show _ = _
        have := okAll_drop (l := l) (i := 0) (by have := HLen.out; omega)
        rw [List.drop_zero] at this
        rw [this, hz]
        simp [okAt]
      clear hz
      go_enter Tryz.func90, Tryz.ntmps90
      go_wp2_with fail
      refine (letter_u8 s[0] _).mono ?_
      rintro e w' ⟨rfl, rfl⟩
      obtain ⟨b, hb⟩ : ∃ b, b = letterN s[0].toNat := ⟨_, rfl⟩
      rw [← hb] at HOK ⊢
      clear hb
      cases b with
      | false =>
        go_wp2_with fail
        go_ret
        exact ⟨ret_bool (by rw [HT.out, HOK.out]; rfl), rfl⟩
      | true =>
        go_wp2_with fail
        go_loop [3] (fun k => ∃ i : Nat, 1 ≤ i ∧ i ≤ s.size ∧ k = .int .i64 i ∧ Hid (okAll l 0 = okAll (l.drop i) i)) (fun k => s.size - (intOf k).toNat)
        case atStart => exact ⟨1, by omega, by omega, rfl, by show _ = _; rw [HOK.out]; rfl⟩
        case round =>
          obtain ⟨i, hi1, hi, rfl, HRec⟩ := hrel
          by_cases hin : i < s.size
          · have hil : i < l.length := by have := HLen.out; omega
            have hrc := HRec.out
            rw [okAll_drop hil, HAt.out i hin hil] at hrc
            have HRec2 := Lib.hid hrc
            have HG : Hid (okAt i s[i].toNat = (letterN s[i].toNat || decide (48 ≤ s[i].toNat ∧ s[i].toNat ≤ 57))) := by
              show _ = _
              have : decide (i ≠ 0) = true := by simp; omega
              rw [okAt, digitN, this, Bool.and_true]
            clear hrc
            go_wp2_with fail
            refine (letter_u8 s[i] _).mono ?_
            rintro e w' ⟨rfl, rfl⟩
            obtain ⟨b, hb⟩ : ∃ b, b = letterN s[i].toNat := ⟨_, rfl⟩
            rw [← hb] at HG ⊢
            clear hb
            cases b with
            | true =>
              go_wp2_with fail
              refine ⟨⟨i + 1, by omega, by omega, by go_num, ?_⟩, by simp [intOf]; omega⟩
              show _ = _
              rw [HRec2.out, HG.out]; rfl
            | false =>
              go_wp2_with fail
              all_goals
                first
                  | (refine ⟨⟨i + 1, by omega, by omega, by go_num, ?_⟩, by simp [intOf]; omega⟩
                     show _ = _
                     rw [HRec2.out, HG.out]
                     have : decide (48 ≤ s[i].toNat ∧ s[i].toNat ≤ 57) = true := by simp; omega
                     rw [this]; rfl)
                  | (go_ret
                     refine ⟨ret_bool ?_, rfl⟩
                     rw [HT.out, HRec2.out, HG.out]
                     have : decide (48 ≤ s[i].toNat ∧ s[i].toNat ≤ 57) = false := by simp; omega
                     rw [this]; rfl)
          · go_wp2_with fail
            go_ret
            refine ⟨ret_bool ?_, rfl⟩
            rw [HT.out, HRec.out, List.drop_of_length_le (by have := HLen.out; omega)]
            simp [okAll]
            omega
    · have d1 : decide ((s.size : Int) < 1) = false := by simp; omega
      have d2 : decide ((32 : Int) < (s.size : Int)) = true := by simp; omega
      go_enter Tryz.func90, Tryz.ntmps90
      go_wp2_with fail
      go_ret
      exact ⟨ret_bool (by rw [HT.out]; simp [h2]), rfl⟩
  · have d1 : decide ((s.size : Int) < 1) = true := by simp; omega
    go_enter Tryz.func90, Tryz.ntmps90
    go_wp2_with fail
    go_ret
    exact ⟨ret_bool (by rw [HT.out]; simp [h1]), rfl⟩
end Go.Proofs.YtkpfeodffhfejaaGreatDoor

/- The reference's form: it is the program's. Condition: the argument is a descriptor. -/
namespace Go.Proofs.YtkpfeodffhfejaaGreatDoor
set_option linter.unusedVariables false
set_option maxRecDepth 1000000
set_option linter.unusedSimpArgs false
open Go.RowKit

theorem NamesAt.elem {w wr : World} {a : Option Addr} {c : Nat} {l : List ByteArray} (h : NamesAt w a c l) (hb : Below w.heap.size w wr) {i : Nat} (hi : i < l.length) :
    ∃ b o, a = some ⟨b, o, none⟩ ∧ wr.cell? ⟨b, o + i, none⟩ = some (.string l[i]) ∧ l[i].size ≤ cap47 := by
  obtain ⟨h1, h2, b, o, h3, h4, h5⟩ := h
  exact ⟨b, o, h3 (by omega), cell_below hb (h4 i hi), h5 _ (List.getElem_mem _)⟩
/-- How a kind stands to keys. -/
theorem key_cases (k : Int) : (k = 1 ∧ keyK k = true) ∨ (2 ≤ k ∧ k ≤ 11 ∧ keyK k = true) ∨ (k = 16 ∧ keyK k = true) ∨ ((k < 1 ∨ (11 < k ∧ k < 16) ∨ 16 < k) ∧ keyK k = false) := by
  by_cases h1 : k = 1
  · exact .inl ⟨h1, by simp [keyK]; omega⟩
  · by_cases h2 : 2 ≤ k ∧ k ≤ 11
    · exact .inr (.inl ⟨h2.1, h2.2, by simp [keyK]; omega⟩)
    · by_cases h3 : k = 16
      · exact .inr (.inr (.inl ⟨h3, by simp [keyK]; omega⟩))
      · exact .inr (.inr (.inr ⟨by omega, by simp [keyK]; omega⟩))
set_option maxRecDepth 100000 in
set_option maxHeartbeats 2000000 in
theorem form_any {w : World} {v : Value} {d : D} (h : IsD w v d) : Calls Tryz.prog 60 #[v] w (FormPost w d) := by
  have HD := Lib.hid h
  obtain ⟨a5, c5, a6, c6, rfl, hk, hb, hi, ht, hx, hn, hp⟩ := h.open
  have HN := Lib.hid (hn.below (Below.new (w := w) (cellsD d a5 c5 a6 c6)))
  have HP := Lib.hid (hp.below (Below.new (w := w) (cellsD d a5 c5 a6 c6)))
  have HT := Lib.hid ht
  have hpl : d.parts.length ≤ 140737488355328 := by have := hp.1; have := hp.2.1; unfold cap47 at this; omega
  have hnl : d.names.length ≤ 140737488355328 := by have := hn.1; have := hn.2.1; unfold cap47 at this; omega
  have HF : Hid (formB d = ((decide (d.kind = 0) || typedB d.type) &&
    (if d.kind = 18 then decide (d.names.length = d.parts.length) && d.names.all namedB
     else if d.kind = 21 then keysL d.parts && decide (d.parts.length % 2 = 0)
     else if d.kind = 22 then decide (d.parts.length ≤ 1) else true))) := rfl
  have HB := Lib.hid (Below.new (w := w) (cellsD d a5 c5 a6 c6))
  have HBox := Lib.hid (BoxD.new w d a5 c5 a6 c6)
  clear hp hn hb hi hk ht hx h
  unfold aggD
  unfold cellsD at HB HBox HN HP
  have start : d.kind = 0 ∨ ((d.kind != 0) = true ∧ typedB d.type = false) ∨ ((d.kind != 0) = true ∧ typedB d.type = true) := by
    by_cases h0 : d.kind = 0
    · exact .inl h0
    · cases typedB d.type <;> simp [h0]
  rcases start with h0 | ⟨h0, h1⟩ | ⟨h0, h1⟩
  · have hf : Hid (formB d = true) := by show _ = _; rw [HF.out, h0]; simp
    clear HF
    rw [h0] at HB ⊢
    clear h0
    go_enter Tryz.func60, Tryz.ntmps60
    go_wp2_with fail
    go_ret
    exact ⟨ret_bool hf.out.symm, HB.out⟩
  · have hf : Hid (formB d = false) := by show _ = _; rw [HF.out, h1]; have : d.kind ≠ 0 := by simpa using h0
                                          simp [this]
    have H1 := Lib.hid h1
    clear HF h1
    go_enter Tryz.func60, Tryz.ntmps60
    go_wp2_with fail
    refine (refTyped_any d.type HT.out _).mono ?_
    rw [H1.out]
    rintro e w1 ⟨rfl, rfl⟩
    go_wp2_with fail
    go_ret
    exact ⟨ret_bool hf.out.symm, HB.out⟩
  · have H1 := Lib.hid h1
    have hk0 : d.kind ≠ 0 := by simpa using h0
    have HF2 : Hid (formB d = (if d.kind = 18 then decide (d.names.length = d.parts.length) && d.names.all namedB
     else if d.kind = 21 then keysL d.parts && decide (d.parts.length % 2 = 0)
     else if d.kind = 22 then decide (d.parts.length ≤ 1) else true)) := by show _ = _; rw [HF.out, h1]; simp
    clear h1 HF hk0
    go_enter Tryz.func60, Tryz.ntmps60
    go_wp2_with fail
    refine (refTyped_any d.type HT.out _).mono ?_
    rw [H1.out]
    rintro e w1 ⟨rfl, rfl⟩
    generalize w.alloc (.cells #[.int .i64 d.kind, .string d.type, .int .u64 d.bits, .int .u64 d.imag, .string d.text, .slice a5 d.names.length c5, .slice a6 d.parts.length c6, .int .i64 d.hook] 26) = w1 at HB HBox HN HP ⊢
    obtain ⟨q0, q1, q2, q3, q4, q5, q6, q7⟩ := HBox.out
    clear H1 HT q1 q2 q3 q4 q7
    by_cases h18 : d.kind = 18
    · have e18 : (d.kind == 18) = true := by simpa using h18
      have hf : Hid (formB d = (decide (d.names.length = d.parts.length) && d.names.all namedB)) := by show _ = _; rw [HF2.out, if_pos h18]
      have HN1 := Lib.hid HN.out
      clear HF2 h18 HN HP
      by_cases hl : d.names.length = d.parts.length
      · have el : ((d.names.length : Int) != (d.parts.length : Int)) = false := by simp; omega
        have hf2 : Hid (formB d = d.names.all namedB) := by show _ = _; rw [hf.out]; simp [hl]
        clear hf hl
        go_wp2_with fail
        go_loopw [4, 30] (fun _ k wr => ∃ i : Nat, i ≤ d.names.length ∧ k = .int .i64 i ∧ Hid (d.names.all namedB = (d.names.drop i).all namedB) ∧ wr = w1) (fun _ k _ => d.names.length - (intOf k).toNat)
        case atStart => exact ⟨0, by omega, rfl, rfl, rfl⟩
        case round =>
          obtain ⟨i, hi, rfl, HRec, rfl⟩ := hrel
          by_cases hin : i < d.names.length
          · obtain ⟨b, o, rfl, hcell, hsz⟩ := HN1.out.elem (Below.refl _ _) hin
            have hrc := HRec.out
            rw [all_drop _ hin] at hrc
            have HRec2 := Lib.hid hrc
            obtain ⟨x, hx⟩ : ∃ x, x = d.names[i] := ⟨_, rfl⟩
            rw [← hx] at hcell HRec2 hsz
            have HS := Lib.hid hsz
            clear hrc hx HRec hsz
            go_wp2_with fail
            refine (refNamed_any x HS.out _).mono ?_
            rintro e w3 ⟨rfl, rfl⟩
            obtain ⟨q, hq⟩ : ∃ q, q = namedB x := ⟨_, rfl⟩
            rw [← hq] at HRec2 ⊢
            clear hq
            cases q with
            | false =>
              go_wp2_with fail
              go_ret
              exact ⟨ret_bool (by rw [hf2.out, HRec2.out]; rfl), HB.out⟩
            | true =>
              go_wp2_with fail
              go_roundw
              case rel => exact ⟨i + 1, by omega, by go_num, by show _ = _; rw [HRec2.out]; rfl, by first | trivial | rfl⟩
              case measure => simp [intOf]; omega
          · go_wp2_with fail
            go_ret
            exact ⟨ret_bool (by rw [hf2.out, HRec.out, List.drop_of_length_le (by omega)]; rfl), HB.out⟩
      · have el : ((d.names.length : Int) != (d.parts.length : Int)) = true := by simp; omega
        have hf2 : Hid (formB d = false) := by show _ = _; rw [hf.out]; simp [hl]
        clear hf hl
        go_wp2_with fail
        go_ret
        exact ⟨ret_bool hf2.out.symm, HB.out⟩
    · have e18 : (d.kind == 18) = false := by simpa using h18
      by_cases h21 : d.kind = 21
      · have e21 : (d.kind == 21) = true := by simpa using h21
        have hf : Hid (formB d = (keysL d.parts && decide (d.parts.length % 2 = 0))) := by show _ = _; rw [HF2.out, if_neg h18, if_pos h21]
        clear HF2 h18 h21 q5 HN
        go_wp2_with fail
        go_loopw [5, 6, 43] (fun _ _ k wr => ∃ i : Nat, i ≤ d.parts.length ∧ k = .int .i64 i ∧ Hid (keysL d.parts = keysL (d.parts.drop (i + i % 2))) ∧ Below w1.heap.size w1 wr) (fun _ _ k _ => d.parts.length - (intOf k).toNat)
        case atStart => exact ⟨0, by omega, rfl, rfl, Below.refl _ _⟩
        case round =>
          obtain ⟨i, hi, rfl, HRec, hB⟩ := hrel
          have HBr := Lib.hid hB
          have q6r : wr.cell? ⟨w.heap.size, 6, none⟩ = some (.slice a6 d.parts.length c6) := cell_below hB q6
          clear hB q6
          by_cases hin : i < d.parts.length
          · obtain ⟨b, o, p5, r5, p6, r6, rfl, hrow, hD⟩ := HP.out.elem HBr.out hin
            obtain ⟨k0, k1, k2, k3, k4, k5, k6, k7⟩ := hrow
            clear hD
            by_cases hev : i % 2 = 0
            · have ev : ((i : Int) % 2 == 0) = true := by simp; omega
              have hrc := HRec.out
              rw [hev, Nat.add_zero, keysL_drop hin] at hrc
              have HRec2 := Lib.hid hrc
              have HEV := Lib.hid hev
              obtain ⟨x, hx⟩ : ∃ x, x = d.parts[i] := ⟨_, rfl⟩
              rw [← hx] at k0 k1 k2 k3 k4 k5 k6 k7 HRec2
              clear hx HRec hrc hev
              obtain ⟨k, hk⟩ : ∃ k, x.kind = k := ⟨_, rfl⟩
              rw [hk] at k0 HRec2
              clear hk
              rcases key_cases k with ⟨rfl, hq⟩ | ⟨g1, g2, hq⟩ | ⟨rfl, hq⟩ | ⟨g1, hq⟩
              · have HRec3 : Hid (keysL d.parts = keysL (d.parts.drop (i + 2))) := by show _ = _; rw [HRec2.out, hq]; rfl
                clear hq HRec2
                go_wp2_with fail
                go_roundw
                case rel => exact ⟨i + 1, by omega, by go_num, by show _ = _; rw [HRec3.out, show i + 1 + (i + 1) % 2 = i + 2 by have := HEV.out; omega], HBr.out.push _⟩
                case measure => simp [intOf]; omega
              · have n1 : (k != 1) = true := by simp; omega
                have HRec3 : Hid (keysL d.parts = keysL (d.parts.drop (i + 2))) := by show _ = _; rw [HRec2.out, hq]; rfl
                clear hq HRec2
                go_wp2_with fail
                refine (whole_any _ _).mono ?_
                rintro e w3 ⟨rfl, rfl⟩
                rw [inB_yes g1 g2]
                go_wp2_with fail
                go_roundw
                case rel => exact ⟨i + 1, by omega, by go_num, by show _ = _; rw [HRec3.out, show i + 1 + (i + 1) % 2 = i + 2 by have := HEV.out; omega], HBr.out.push _⟩
                case measure => simp [intOf]; omega
              · have HRec3 : Hid (keysL d.parts = keysL (d.parts.drop (i + 2))) := by show _ = _; rw [HRec2.out, hq]; rfl
                clear hq HRec2
                go_wp2_with fail
                refine (whole_any _ _).mono ?_
                rintro e w3 ⟨rfl, rfl⟩
                rw [inB_no (show (16 : Int) < 2 ∨ (11 : Int) < 16 by omega)]
                go_wp2_with fail
                go_roundw
                case rel => exact ⟨i + 1, by omega, by go_num, by show _ = _; rw [HRec3.out, show i + 1 + (i + 1) % 2 = i + 2 by have := HEV.out; omega], HBr.out.push _⟩
                case measure => simp [intOf]; omega
              · have n1 : (k != 1) = true := by simp; omega
                have n16 : (k != 16) = true := by simp; omega
                have G1 := Lib.hid g1
                have hf2 : Hid (formB d = false) := by show _ = _; rw [hf.out, HRec2.out, hq]; rfl
                clear hq HRec2 g1
                go_wp2_with fail
                refine (whole_any _ _).mono ?_
                rintro e w3 ⟨rfl, rfl⟩
                rw [inB_no (show k < 2 ∨ 11 < k by have := G1.out; omega)]
                go_wp2_with fail
                go_ret
                exact ⟨ret_bool hf2.out.symm, HB.out.next (HBr.out.push _)⟩
            · have ev : ((i : Int) % 2 == 0) = false := by simp; omega
              have HEV := Lib.hid hev
              clear hev
              go_wp2_with fail
              go_roundw
              case rel => exact ⟨i + 1, by omega, by go_num, by show _ = _; rw [HRec.out, show i + 1 + (i + 1) % 2 = i + i % 2 by have := HEV.out; omega], HBr.out.push _⟩
              case measure => simp [intOf]; omega
          · have hf2 : Hid (formB d = decide (d.parts.length % 2 = 0)) := by show _ = _; rw [hf.out, HRec.out, List.drop_of_length_le (by omega)]; simp [keysL]
            have hge : ¬ (i : Int) < (d.parts.length : Int) := by omega
            clear HRec hf
            have hpos : 0 ≤ (d.parts.length : Int) := by omega
            go_wp2_with fail
            go_ret
            exact ⟨ret_bool (by rw [hf2.out]; rw [Bool.eq_iff_iff]; simp; omega), HB.out.next HBr.out⟩
      · have e21 : (d.kind == 21) = false := by simpa using h21
        by_cases h22 : d.kind = 22
        · have e22 : (d.kind == 22) = true := by simpa using h22
          have hf : Hid (formB d = decide (d.parts.length ≤ 1)) := by show _ = _; rw [HF2.out, if_neg h18, if_neg h21, if_pos h22]
          clear HF2 h18 h21 h22
          go_wp2_with fail
          go_ret
          exact ⟨ret_bool (by rw [hf.out]; rw [Bool.eq_iff_iff]; simp; omega), HB.out⟩
        · have hf : Hid (formB d = true) := by show _ = _; rw [HF2.out]; simp [h18, h21, h22]
          have e22 : (d.kind == 22) = false := by simpa using h22
          clear HF2 h18 h21 h22
          go_wp2_with fail
          go_ret
          exact ⟨ret_bool hf.out.symm, HB.out⟩
end Go.Proofs.YtkpfeodffhfejaaGreatDoor

/- How a value is told: Type, Hook, Cmp. Condition: its kind is one of the 23. -/
namespace Go.Proofs.YtkpfeodffhfejaaGreatDoor
set_option linter.unusedVariables false
set_option maxRecDepth 1000000
set_option linter.unusedSimpArgs false
open Go.RowKit

def kindNames : List ByteArray := [⟨#[60, 110, 105, 108, 62]⟩, ⟨#[98, 111, 111, 108]⟩, ⟨#[105, 110, 116, 56]⟩, ⟨#[105, 110, 116, 49, 54]⟩, ⟨#[105, 110, 116, 51, 50]⟩, ⟨#[105, 110, 116, 54, 52]⟩, ⟨#[105, 110, 116]⟩, ⟨#[117, 105, 110, 116, 56]⟩, ⟨#[117, 105, 110, 116, 49, 54]⟩, ⟨#[117, 105, 110, 116, 51, 50]⟩, ⟨#[117, 105, 110, 116, 54, 52]⟩, ⟨#[117, 105, 110, 116]⟩, ⟨#[102, 108, 111, 97, 116, 51, 50]⟩, ⟨#[102, 108, 111, 97, 116, 54, 52]⟩, ⟨#[99, 111, 109, 112, 108, 101, 120, 54, 52]⟩, ⟨#[99, 111, 109, 112, 108, 101, 120, 49, 50, 56]⟩, ⟨#[115, 116, 114, 105, 110, 103]⟩, ⟨#[91, 93, 117, 105, 110, 116, 56]⟩, ⟨#[115, 116, 114, 117, 99, 116]⟩, ⟨#[97, 114, 114, 97, 121]⟩, ⟨#[115, 108, 105, 99, 101]⟩, ⟨#[109, 97, 112]⟩, ⟨#[112, 116, 114]⟩]
/-- The name of its type. -/
def typeV (x : V) : ByteArray := if x.base.name = ⟨#[]⟩ then kindNames.getD x.base.kind.toNat ⟨#[]⟩ else x.base.name
theorem index_kinds (k : Int) (h0 : 0 ≤ k) (h1 : k ≤ 22) (w : World) : (Instr.index 63 (.agg #[.string ⟨#[60, 110, 105, 108, 62]⟩, .string ⟨#[98, 111, 111, 108]⟩, .string ⟨#[105, 110, 116, 56]⟩, .string ⟨#[105, 110, 116, 49, 54]⟩, .string ⟨#[105, 110, 116, 51, 50]⟩, .string ⟨#[105, 110, 116, 54, 52]⟩, .string ⟨#[105, 110, 116]⟩, .string ⟨#[117, 105, 110, 116, 56]⟩, .string ⟨#[117, 105, 110, 116, 49, 54]⟩, .string ⟨#[117, 105, 110, 116, 51, 50]⟩, .string ⟨#[117, 105, 110, 116, 54, 52]⟩, .string ⟨#[117, 105, 110, 116]⟩, .string ⟨#[102, 108, 111, 97, 116, 51, 50]⟩, .string ⟨#[102, 108, 111, 97, 116, 54, 52]⟩, .string ⟨#[99, 111, 109, 112, 108, 101, 120, 54, 52]⟩, .string ⟨#[99, 111, 109, 112, 108, 101, 120, 49, 50, 56]⟩, .string ⟨#[115, 116, 114, 105, 110, 103]⟩, .string ⟨#[91, 93, 117, 105, 110, 116, 56]⟩, .string ⟨#[115, 116, 114, 117, 99, 116]⟩, .string ⟨#[97, 114, 114, 97, 121]⟩, .string ⟨#[115, 108, 105, 99, 101]⟩, .string ⟨#[109, 97, 112]⟩, .string ⟨#[112, 116, 114]⟩]) (.int .i64 k)).run Tryz.prog w = .ok (.string (kindNames.getD k.toNat ⟨#[]⟩)) w := by
  rcases (show k = 0 ∨ k = 1 ∨ k = 2 ∨ k = 3 ∨ k = 4 ∨ k = 5 ∨ k = 6 ∨ k = 7 ∨ k = 8 ∨ k = 9 ∨ k = 10 ∨ k = 11 ∨ k = 12 ∨ k = 13 ∨ k = 14 ∨ k = 15 ∨ k = 16 ∨ k = 17 ∨ k = 18 ∨ k = 19 ∨ k = 20 ∨ k = 21 ∨ k = 22 by omega) with h | h | h | h | h | h | h | h | h | h | h | h | h | h | h | h | h | h | h | h | h | h | h
  all_goals (subst k; kernel_rfl)
theorem empty_or (nm : ByteArray) : (nm = ⟨#[]⟩ ∧ (!nm.toList.isEmpty) = false) ∨ (nm ≠ ⟨#[]⟩ ∧ (!nm.toList.isEmpty) = true) := by
  rw [Go.ByteArray.toList_eq]
  obtain ⟨l⟩ := nm
  obtain ⟨l⟩ := l
  cases l with
  | nil => exact .inl ⟨rfl, rfl⟩
  | cons a l => exact .inr ⟨by simp, rfl⟩

set_option maxRecDepth 100000 in
set_option maxHeartbeats 1000000 in
theorem Type_any {w : World} {v : Value} {x : V} (h : IsV w v x) (hk : 0 ≤ x.base.kind ∧ x.base.kind ≤ 22) : Calls Tryz.prog 13 #[v] w fun e w' => e = .returned (.string (typeV x)) ∧ Below w.heap.size w w' := by
  have hbase := base_any h
  have hs := h.shape
  clear h
  unfold BasePost at hbase
  have hT : typeV x = if x.base.name = ⟨#[]⟩ then kindNames.getD x.base.kind.toNat ⟨#[]⟩ else x.base.name := rfl
  generalize typeV x = T at hT ⊢
  generalize x.base.name = nm at hT hbase
  generalize x.base.kind = k at hT hbase hk
  generalize x.base.hook = hook at hbase
  generalize (!x.isNil) = bn at hbase
  have HBA := Lib.hid hbase
  clear hbase
  rcases empty_or nm with ⟨e1, e2⟩ | ⟨e1, e2⟩
  · rw [if_pos e1] at hT
    have hix := index_kinds k hk.1 hk.2
    rw [← hT] at hix
    clear hT hk e1
    rcases hs with rfl | ⟨t, y, rfl⟩
    all_goals
      go_enter Tryz.func13, Tryz.ntmps13
      go_wp2_with fail
      refine HBA.out.mono ?_
      rintro e w1 ⟨rfl, hB⟩
      have HB := Lib.hid hB
      clear hB
      go_wp2_with fail
      go_ret
      exact ⟨rfl, HB.out.push _⟩
  · rw [if_neg e1] at hT
    subst hT
    clear hk e1
    rcases hs with rfl | ⟨t, y, rfl⟩
    all_goals
      go_enter Tryz.func13, Tryz.ntmps13
      go_wp2_with fail
      refine HBA.out.mono ?_
      rintro e w1 ⟨rfl, hB⟩
      have HB := Lib.hid hB
      clear hB
      go_wp2_with fail
      go_ret
      exact ⟨rfl, HB.out.push _⟩
end Go.Proofs.YtkpfeodffhfejaaGreatDoor
