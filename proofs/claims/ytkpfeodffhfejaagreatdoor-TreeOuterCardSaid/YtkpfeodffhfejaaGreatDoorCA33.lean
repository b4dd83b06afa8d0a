/- The reference's Check: the error is the program's. Condition: the argument is a descriptor. -/
import Derived.Test.YtkpfeodffhfejaaGreatDoorCA32
import Derived.Test.YtkpfeodffhfejaaGreatDoorCA02
namespace Go.Proofs.YtkpfeodffhfejaaGreatDoor
set_option linter.unusedVariables false
set_option maxRecDepth 1000000
set_option linter.unusedSimpArgs false
open Go.RowKit

theorem all_false {d : D} {q : List (D × Nat)} {g : D → Bool} (h : ∀ g, allD g d = q.all fun p => g p.1) {i : Nat} (hi : i < q.length) (hg : g q[i].1 = false) : allD g d = false := by
  rw [h g]
  cases hq : q.all fun p => g p.1 with
  | false => rfl
  | true =>
    have := List.all_eq_true.1 hq q[i] (List.getElem_mem hi)
    rw [hg] at this
    cases this
theorem all_true {d : D} {q : List (D × Nat)} {g : D → Bool} (h : ∀ g, allD g d = q.all fun p => g p.1) {i : Nat} (hi : ¬ i < q.length) (hg : ∀ j (h : j < q.length), j < i → g q[j].1 = true) : allD g d = true := by
  rw [h g, List.all_eq_true]
  intro x hx
  obtain ⟨j, hj, rfl⟩ := List.getElem_of_mem hx
  exact hg j hj (by omega)
theorem step_true {q : List (D × Nat)} {g : D → Bool} {i : Nat} (h : ∀ j (h : j < q.length), j < i → g q[j].1 = true) (hi : i < q.length) (hg : g q[i].1 = true) : ∀ j (h : j < q.length), j < i + 1 → g q[j].1 = true := by
  intro j hj hji
  by_cases e : j = i
  · subst e; exact hg
  · exact h j hj (by omega)
theorem textB_of {d : D} (h : (d.kind = 16 ∨ d.kind = 17) → d.text.size ≤ 1024) : textB d = true := decide_eq_true h
theorem textB_not {d : D} (h : d.kind = 16 ∨ d.kind = 17) (h2 : ¬ d.text.size ≤ 1024) : textB d = false := decide_eq_false fun q => h2 (q h)
def CheckPost (w : World) (d : D) (e : Ending) (w' : World) : Prop := e = .returned (.int .i64 (errD d)) ∧ Below w.heap.size w w'
set_option maxRecDepth 100000 in
set_option maxHeartbeats 8000000 in
theorem refCheck_any {w : World} {v : Value} {d : D} (h : IsD w v d) : Calls Tryz.prog 39 #[v] w (CheckPost w d) := by
  have HE := Lib.hid (errD_is d)
  have HD := Lib.hid h
  obtain ⟨a5, c5, a6, c6, rfl, hk, hb, hi, ht, hx, hn, hp⟩ := h.open
  clear hp hn hb hi hk ht hx h
  unfold aggD at HD ⊢
  go_enter Tryz.func39, Tryz.ntmps39
  go_wp2_with fail
  have HB0 := Lib.hid (Below.new (w := w) (.cells #[.int .i64 d.kind, .string d.type, .int .u64 d.bits, .int .u64 d.imag, .string d.text, .slice a5 d.names.length c5, .slice a6 d.parts.length c6, .int .i64 d.hook] 26))
  have HD0 := Lib.hid (HD.out.later HB0.out)
  generalize w.alloc (.cells #[.int .i64 d.kind, .string d.type, .int .u64 d.bits, .int .u64 d.imag, .string d.text, .slice a5 d.names.length c5, .slice a6 d.parts.length c6, .int .i64 d.hook] 26) = w0 at HB0 HD0 ⊢
  refine (all_any HD0.out).mono ?_
  rintro e w1 ⟨hB1, q, g4, c4, g5, c5', rfl, hQ, hA⟩
  have HB1 := Lib.hid hB1
  have HQ := Lib.hid hQ
  have HA := Lib.hid hA
  have HBW := Lib.hid (HB0.out.next hB1)
  clear hB1 hQ hA HD HD0
  by_cases hbig : q.length ≤ 64
  · have HSm : Hid (sizeD d ≤ 64 ∧ (∀ g, allD g d = q.all fun p => g p.1) ∧ (depthD d ≤ 8 ↔ ∀ p ∈ q, p.2 ≤ 7)) := by
      rcases HA.out with h | h
      · omega
      · exact ⟨h.2.1, h.2.2.1, h.2.2.2⟩
    have hnb : ¬ (64 : Int) < (q.length : Int) := by omega
    go_wp2_with fail
    have HCUR : Hid (Below w1.heap.size w1 w1) := Below.refl _ _
    go_loopw [6, 25] (fun _ kk wr => ∃ i : Nat, i ≤ q.length ∧ kk = .int .i64 (i : Int) ∧ Hid (∀ j (h : j < q.length), j < i → textB q[j].1 = true) ∧ Hid (Below w1.heap.size w1 wr)) (fun _ kk _ => q.length - (intOf kk).toNat)
    case atStart => exact ⟨0, Nat.zero_le _, rfl, Lib.hid (fun j h hj => by omega), HCUR.out⟩
    case round =>
      obtain ⟨i, hi, rfl, HG, HBr⟩ := hrel
      by_cases hin : i < q.length
      · obtain ⟨y5, z5, y6, z6, hrow, hX, _⟩ := (HQ.out.below HBr.out).read hin
        have HX := Lib.hid hX
        obtain ⟨k0, k1, k2, k3, k4, k5, k6, k7⟩ := hrow
        obtain ⟨x, hx⟩ : ∃ x, q[i].1 = x := ⟨_, rfl⟩
        have HXE := Lib.hid hx
        rw [hx] at HX k0 k1 k2 k3 k4 k5 k6 k7
        clear hX hx
        have hBn := Below.new (w := wr) (.cells #[.int .i64 x.kind, .string x.type, .int .u64 x.bits, .int .u64 x.imag, .string x.text, .slice y5 x.names.length z5, .slice y6 x.parts.length z6, .int .i64 x.hook] 26)
        have HBn := Lib.hid hBn
        clear hBn
        have hcase : ((x.kind == 16) = true ∨ (x.kind == 16) = false ∧ (x.kind == 17) = true) ∨ ((x.kind == 16) = false ∧ (x.kind == 17) = false) := by
          by_cases h1 : x.kind = 16
          · simp [h1]
          · by_cases h2 : x.kind = 17 <;> simp [h1, h2]
        by_cases hts : x.text.size ≤ 1024
        · have hd : decide ((1024 : Int) < (x.text.size : Int)) = false := by simp; omega
          have HG2 := Lib.hid (step_true HG.out hin (by rw [HXE.out]; exact textB_of fun _ => hts))
          rcases hcase with (h1 | ⟨h1, h2⟩) | ⟨h1, h2⟩
          all_goals
            go_wp2_with fail
            go_roundw
            case rel => exact ⟨i + 1, by omega, by go_num, HG2.out, HBr.out.next HBn.out⟩
            case measure => simp [intOf]; omega
        · have hd : decide ((1024 : Int) < (x.text.size : Int)) = true := by simp; omega
          have HNt := Lib.hid hts
          clear hts
          rcases hcase with hcase | ⟨h1, h2⟩
          · have HErr : Hid (errD d = 2) := by
              have hk : x.kind = 16 ∨ x.kind = 17 := by
                rcases hcase with h | ⟨_, h⟩
                · left; simpa using h
                · right; simpa using h
              have h1 := all_false HSm.out.2.1 hin (g := textB) (by rw [HXE.out]; exact textB_not hk HNt.out)
              have h2 : ¬ textD d ≤ 1024 := fun h => by rw [(text_all d).1 h] at h1; cases h1
              show _ = _
              rw [HE.out, if_pos (by omega)]
            rcases hcase with h1 | ⟨h1, h2⟩
            all_goals
              go_wp2_with fail
              go_ret
              exact ⟨by rw [HErr.out]; rfl, HBW.out.next (HBr.out.next HBn.out)⟩
          · have HG2 := Lib.hid (step_true HG.out hin (by rw [HXE.out]; exact textB_of fun h => by rcases h with h | h; (rw [h] at h1; cases h1); (rw [h] at h2; cases h2)))
            go_wp2_with fail
            go_roundw
            case rel => exact ⟨i + 1, by omega, by go_num, HG2.out, HBr.out.next HBn.out⟩
            case measure => simp [intOf]; omega
      · have HT : Hid (¬ (64 < sizeD d ∨ 1024 < textD d)) := by
          have h1 := (text_all d).2 (all_true HSm.out.2.1 hin HG.out)
          have h2 := HSm.out.1
          exact Lib.hid (by omega)
        have HE2 : Hid (errD d = if 8 < depthD d then 6 else if allD kindB d = false then 3 else if allD formB d = false then 4 else if mkV d = none then 5 else 0) := by
          show _ = _
          rw [HE.out, if_neg HT.out]
        have HCUR := Lib.hid HBr.out
        go_wp2_with fail
        go_loopw [8, 46] (fun _ kk wr => ∃ i : Nat, i ≤ q.length ∧ kk = .int .i64 (i : Int) ∧ Hid (∀ j (h : j < q.length), j < i → q[j].2 ≤ 7) ∧ Hid (Below w1.heap.size w1 wr)) (fun _ kk _ => q.length - (intOf kk).toNat)
        case atStart => exact ⟨0, Nat.zero_le _, rfl, Lib.hid (fun j h hj => by omega), HCUR.out⟩
        case round =>
          obtain ⟨i, hi, rfl, HG, HBr⟩ := hrel
          by_cases hin : i < q.length
          · obtain ⟨_, _, _, _, _, _, k5⟩ := (HQ.out.below HBr.out).read hin
            obtain ⟨n, hn⟩ : ∃ n, q[i].2 = n := ⟨_, rfl⟩
            have HN := Lib.hid hn
            rw [hn] at k5
            clear hn
            by_cases hn7 : n ≤ 7
            · have hd : ¬ (7 : Int) < (n : Int) := by omega
              go_wp2_with fail
              go_roundw
              case rel =>
                refine ⟨i + 1, by omega, by go_num, Lib.hid (fun j hj hji => ?_), HBr.out⟩
                by_cases e : j = i
                · subst e; rw [HN.out]; exact hn7
                · exact HG.out j hj (by omega)
              case measure => simp [intOf]; omega
            · have hd : (7 : Int) < (n : Int) := by omega
              have HErr : Hid (errD d = 6) := by
                have h1 : ¬ depthD d ≤ 8 := fun h => by
                  have := HSm.out.2.2.1 h q[i] (List.getElem_mem hin)
                  rw [HN.out] at this
                  omega
                show _ = _
                rw [HE2.out, if_pos (by omega)]
              go_wp2_with fail
              go_ret
              exact ⟨by rw [HErr.out]; rfl, HBW.out.next HBr.out⟩
          · have HE3 : Hid (errD d = if allD kindB d = false then 3 else if allD formB d = false then 4 else if mkV d = none then 5 else 0) := by
              have h1 : depthD d ≤ 8 := HSm.out.2.2.2 fun p hp => by
                obtain ⟨j, hj, rfl⟩ := List.getElem_of_mem hp
                exact HG.out j hj (by omega)
              show _ = _
              rw [HE2.out, if_neg (by omega)]
            have HCUR := Lib.hid HBr.out
            go_wp2_with fail
            go_loopw [10, 55] (fun _ kk wr => ∃ i : Nat, i ≤ q.length ∧ kk = .int .i64 (i : Int) ∧ Hid (∀ j (h : j < q.length), j < i → kindB q[j].1 = true) ∧ Hid (Below w1.heap.size w1 wr)) (fun _ kk _ => q.length - (intOf kk).toNat)
            case atStart => exact ⟨0, Nat.zero_le _, rfl, Lib.hid (fun j h hj => by omega), HCUR.out⟩
            case round =>
              obtain ⟨i, hi, rfl, HG, HBr⟩ := hrel
              by_cases hin : i < q.length
              · obtain ⟨y5, z5, y6, z6, hrow, hX, _⟩ := (HQ.out.below HBr.out).read hin
                have HX := Lib.hid hX
                obtain ⟨k0, k1, k2, k3, k4, k5, k6, k7⟩ := hrow
                obtain ⟨x, hx⟩ : ∃ x, q[i].1 = x := ⟨_, rfl⟩
                have HXE := Lib.hid hx
                rw [hx] at HX k0 k1 k2 k3 k4 k5 k6 k7
                clear hX hx
                have hBn := Below.new (w := wr) (.cells #[.int .i64 x.kind, .string x.type, .int .u64 x.bits, .int .u64 x.imag, .string x.text, .slice y5 x.names.length z5, .slice y6 x.parts.length z6, .int .i64 x.hook] 26)
                have HBn := Lib.hid hBn
                clear hBn
                by_cases hk0 : x.kind < 0
                · have hd : decide (x.kind < 0) = true := by simpa using hk0
                  have HErr : Hid (errD d = 3) := by
                    have h1 := all_false HSm.out.2.1 hin (g := kindB) (by rw [HXE.out]; simp [kindB]; omega)
                    show _ = _
                    rw [HE3.out, if_pos h1]
                  go_wp2_with fail
                  go_ret
                  exact ⟨by rw [HErr.out]; rfl, HBW.out.next (HBr.out.next HBn.out)⟩
                · have hd : decide (x.kind < 0) = false := by simpa using hk0
                  by_cases hk1 : 22 < x.kind
                  · have hd2 : decide (22 < x.kind) = true := by simpa using hk1
                    have HErr : Hid (errD d = 3) := by
                      have h1 := all_false HSm.out.2.1 hin (g := kindB) (by rw [HXE.out]; simp [kindB]; omega)
                      show _ = _
                      rw [HE3.out, if_pos h1]
                    go_wp2_with fail
                    go_ret
                    exact ⟨by rw [HErr.out]; rfl, HBW.out.next (HBr.out.next HBn.out)⟩
                  · have hd2 : decide (22 < x.kind) = false := by simpa using hk1
                    have HG2 := Lib.hid (step_true HG.out hin (by rw [HXE.out]; simp [kindB]; omega))
                    go_wp2_with fail
                    go_roundw
                    case rel => exact ⟨i + 1, by omega, by go_num, HG2.out, HBr.out.next HBn.out⟩
                    case measure => simp [intOf]; omega
              · have HK : Hid (allD kindB d = true) := all_true HSm.out.2.1 hin HG.out
                have HE4 : Hid (errD d = if allD formB d = false then 4 else if mkV d = none then 5 else 0) := by
                  show _ = _
                  rw [HE3.out, if_neg (by rw [HK.out]; simp)]
                have HCUR := Lib.hid HBr.out
                go_wp2_with fail
                go_loopw [12, 70] (fun _ kk wr => ∃ i : Nat, i ≤ q.length ∧ kk = .int .i64 (i : Int) ∧ Hid (∀ j (h : j < q.length), j < i → formB q[j].1 = true) ∧ Hid (Below w1.heap.size w1 wr)) (fun _ kk _ => q.length - (intOf kk).toNat)
                case atStart => exact ⟨0, Nat.zero_le _, rfl, Lib.hid (fun j h hj => by omega), HCUR.out⟩
                case round =>
                  obtain ⟨i, hi, rfl, HG, HBr⟩ := hrel
                  by_cases hin : i < q.length
                  · obtain ⟨y5, z5, y6, z6, hrow, hX, _⟩ := (HQ.out.below HBr.out).read hin
                    have HX := Lib.hid hX
                    obtain ⟨k0, k1, k2, k3, k4, k5, k6, k7⟩ := hrow
                    obtain ⟨x, hx⟩ : ∃ x, q[i].1 = x := ⟨_, rfl⟩
                    have HXE := Lib.hid hx
                    rw [hx] at HX k0 k1 k2 k3 k4 k5 k6 k7
                    clear hX hx
                    have hBn := Below.new (w := wr) (.cells #[.int .i64 x.kind, .string x.type, .int .u64 x.bits, .int .u64 x.imag, .string x.text, .slice y5 x.names.length z5, .slice y6 x.parts.length z6, .int .i64 x.hook] 26)
                    have HBn := Lib.hid hBn
                    clear hBn
                    unfold aggD at HX
                    go_wp2_with fail
                    refine (form_any (HX.out.later ((HB1.out.next HBr.out).next HBn.out))).mono ?_
                    rintro e w3 ⟨rfl, hB3⟩
                    have HB3 := Lib.hid (HBr.out.next (HBn.out.next hB3))
                    clear hB3 k0 k1 k2 k3 k4 k5 k6 k7 HX
                    obtain ⟨f, hf⟩ : ∃ f, formB x = f := ⟨_, rfl⟩
                    have HFx := Lib.hid hf
                    rw [hf]
                    clear hf
                    cases f with
                    | false =>
                      have HErr : Hid (errD d = 4) := by
                        have h1 := all_false HSm.out.2.1 hin (g := formB) (by rw [HXE.out]; exact HFx.out)
                        show _ = _
                        rw [HE4.out, if_pos h1]
                      go_wp2_with fail
                      go_ret
                      exact ⟨by rw [HErr.out]; rfl, HBW.out.next HB3.out⟩
                    | true =>
                      have HG2 := Lib.hid (step_true HG.out hin (by rw [HXE.out]; exact HFx.out))
                      go_wp2_with fail
                      go_roundw
                      case rel => exact ⟨i + 1, by omega, by go_num, HG2.out, HB3.out⟩
                      case measure => simp [intOf]; omega
                  · have HFm : Hid (allD formB d = true) := all_true HSm.out.2.1 hin HG.out
                    have HFe : Hid (∀ j (h : j < q.length), formB q[j].1 = true) := fun j h => HG.out j h (by omega)
                    have HE5 : Hid (errD d = if mkV d = none then 5 else 0) := by
                      show _ = _
                      rw [HE4.out, if_neg (by rw [HFm.out]; simp)]
                    have HCUR := Lib.hid HBr.out
                    go_wp2_with fail
                    go_loopw [14, 80] (fun _ kk wr => ∃ i : Nat, i ≤ q.length ∧ kk = .int .i64 (i : Int) ∧ Hid (∀ j (h : j < q.length), j < i → (fun x => !twB x) q[j].1 = true) ∧ Hid (Below w1.heap.size w1 wr)) (fun _ kk _ => q.length - (intOf kk).toNat)
                    case atStart => exact ⟨0, Nat.zero_le _, rfl, Lib.hid (fun j h hj => by omega), HCUR.out⟩
                    case round =>
                      obtain ⟨i, hi, rfl, HG, HBr⟩ := hrel
                      by_cases hin : i < q.length
                      · obtain ⟨y5, z5, y6, z6, hrow, hX, _⟩ := (HQ.out.below HBr.out).read hin
                        have HX := Lib.hid hX
                        obtain ⟨k0, k1, k2, k3, k4, k5, k6, k7⟩ := hrow
                        obtain ⟨x, hx⟩ : ∃ x, q[i].1 = x := ⟨_, rfl⟩
                        have HXE := Lib.hid hx
                        rw [hx] at HX k0 k1 k2 k3 k4 k5 k6 k7
                        clear hX hx
                        have hBn := Below.new (w := wr) (.cells #[.int .i64 x.kind, .string x.type, .int .u64 x.bits, .int .u64 x.imag, .string x.text, .slice y5 x.names.length z5, .slice y6 x.parts.length z6, .int .i64 x.hook] 26)
                        have HBn := Lib.hid hBn
                        clear hBn
                        unfold aggD at HX
                        go_wp2_with fail
                        refine (twice_any (HX.out.later ((HB1.out.next HBr.out).next HBn.out)) (by have := HFe.out i hin; rw [HXE.out] at this; exact this)).mono ?_
                        rintro e w3 ⟨rfl, hB3⟩
                        have HB3 := Lib.hid (HBr.out.next (HBn.out.next hB3))
                        clear hB3 k0 k1 k2 k3 k4 k5 k6 k7 HX
                        obtain ⟨f, hf⟩ : ∃ f, twB x = f := ⟨_, rfl⟩
                        have HFx := Lib.hid hf
                        rw [hf]
                        clear hf
                        cases f with
                        | true =>
                          have HErr : Hid (errD d = 5) := by
                            have h1 := all_false HSm.out.2.1 hin (g := fun x => !twB x) (by rw [HXE.out, HFx.out]; rfl)
                            show _ = _
                            rw [HE5.out, if_pos ((twice_is d HK.out HFm.out).2 h1)]
                          go_wp2_with fail
                          go_ret
                          exact ⟨by rw [HErr.out]; rfl, HBW.out.next HB3.out⟩
                        | false =>
                          have HG2 := Lib.hid (step_true (g := fun x => !twB x) HG.out hin (by rw [HXE.out, HFx.out]; rfl))
                          go_wp2_with fail
                          go_roundw
                          case rel => exact ⟨i + 1, by omega, by go_num, HG2.out, HB3.out⟩
                          case measure => simp [intOf]; omega
                      · have HErr : Hid (errD d = 0) := by
                          have h1 := all_true HSm.out.2.1 (g := fun x => !twB x) hin HG.out
                          show _ = _
                          rw [HE5.out, if_neg (fun h => by rw [(twice_is d HK.out HFm.out).1 h] at h1; cases h1)]
                        go_wp2_with fail
                        go_ret
                        exact ⟨by rw [HErr.out]; rfl, HBW.out.next HBr.out⟩
  · have HErr : Hid (errD d = 2) := by
      rcases HA.out with h | h
      · show _ = _
        rw [HE.out, if_pos (by omega)]
      · omega
    have hnb : (64 : Int) < (q.length : Int) := by omega
    go_wp2_with fail
    go_ret
    exact ⟨by rw [HErr.out]; rfl, HBW.out⟩
end Go.Proofs.YtkpfeodffhfejaaGreatDoor

/- How many descriptors there are in all, and how deep: left, Big, the reference's Size and Deep. Condition: the argument is a descriptor; not too great. -/
namespace Go.Proofs.YtkpfeodffhfejaaGreatDoor
set_option linter.unusedVariables false
set_option maxRecDepth 1000000
set_option linter.unusedSimpArgs false
open Go.RowKit

mutual
/-- All descriptors of a descriptor, looked at or not. -/
def wholeD : D → Nat
  | .mk _ _ _ _ _ _ p _ => wholeL p + 1
def wholeL : List D → Nat
  | [] => 0
  | x :: l => wholeD x + wholeL l
end
theorem wholeD_eq (d : D) : wholeD d = wholeL d.parts + 1 := by cases d; rfl
theorem wholeL_mem {x : D} : ∀ {l : List D}, x ∈ l → wholeD x ≤ wholeL l
  | y :: l, h => by
    rw [wholeL]
    rcases List.mem_cons.1 h with rfl | h
    · omega
    · have := wholeL_mem h; omega
theorem wholeD_pos (d : D) : 1 ≤ wholeD d := by rw [wholeD_eq]; omega
theorem wholeL_len : ∀ l : List D, l.length ≤ wholeL l
  | [] => Nat.le_refl _
  | x :: l => by have := wholeL_len l; have := wholeD_pos x; simp only [wholeL, List.length_cons]; omega

set_option maxHeartbeats 1000000 in
theorem left_any : ∀ (d : D) (w : World) (v : Value) (n : Nat), IsD w v d → 1 ≤ n → n ≤ 400 → Calls Tryz.prog 38 #[v, .int .i64 (n : Int)] w fun e w' => e = .returned (.int .i64 ((n - wholeD d : Nat) : Int)) ∧ Below w.heap.size w w' := by
  refine D.induct_d fun d ih w v n h hn1 hn => ?_
  have IH := Lib.hid ih
  have HE := Lib.hid (wholeD_eq d)
  obtain ⟨a5, c5, a6, c6, rfl, hk, hb, hi, ht, hx, hnm, hp⟩ := h.open
  clear hnm hb hi hk ht hx h ih
  unfold aggD
  have HPM := Lib.hid (fun x (hx : x ∈ d.parts) => IH.out x hx)
  have HP := Lib.hid (hp.below (Below.new (w := w) (.cells #[.int .i64 d.kind, .string d.type, .int .u64 d.bits, .int .u64 d.imag, .string d.text, .slice a5 d.names.length c5, .slice a6 d.parts.length c6, .int .i64 d.hook] 26)))
  have hl2 : d.parts.length ≤ 9223372036854775807 := by have := hp.2.1; unfold cap47 at this; omega
  obtain ⟨ps, hps⟩ : ∃ ps, d.parts = ps := ⟨_, rfl⟩
  rw [hps] at HP HPM HE hl2 ⊢
  clear hps hp IH
  go_enter Tryz.func38, Tryz.ntmps38
  go_wp2_with fail
  have HW1 := Lib.hid (Below.new (w := w) (.cells #[.int .i64 d.kind, .string d.type, .int .u64 d.bits, .int .u64 d.imag, .string d.text, .slice a5 d.names.length c5, .slice a6 ps.length c6, .int .i64 d.hook] 26))
  generalize w.alloc (.cells #[.int .i64 d.kind, .string d.type, .int .u64 d.bits, .int .u64 d.imag, .string d.text, .slice a5 d.names.length c5, .slice a6 ps.length c6, .int .i64 d.hook] 26) = w1 at HP HW1 ⊢
  go_loopw [1, 12] (fun m k wr => ∃ (i M : Nat), i ≤ ps.length ∧ m = .int .i64 M ∧ k = .int .i64 i ∧ M ≤ 400 ∧ Hid (n - 1 - wholeL ps = M - wholeL (ps.drop i)) ∧ Below w1.heap.size w1 wr) (fun _ k _ => ps.length - (intOf k).toNat)
  case atStart => exact ⟨0, n - 1, by omega, by go_num, rfl, by omega, by show _ = _; simp, Below.refl _ _⟩
  case round =>
    obtain ⟨i, M, hi, rfl, rfl, hM, HRec, hB⟩ := hrel
    have HB := Lib.hid hB
    clear hB
    by_cases hin : i < ps.length
    · obtain ⟨b, o, p5, q5, p6, q6, rfl, hrow, hD⟩ := HP.out.elem HB.out hin
      obtain ⟨k0, k1, k2, k3, k4, k5, k6, k7⟩ := hrow
      have hrc := HRec.out
      rw [drop_cons hin, wholeL] at hrc
      have HRec2 := Lib.hid hrc
      have HX := Lib.hid hD
      have hpos := wholeD_pos ps[i]
      have HIH := Lib.hid (HPM.out ps[i] (List.getElem_mem _))
      clear hrc hD
      obtain ⟨x, hx⟩ : ∃ x, x = ps[i] := ⟨_, rfl⟩
      rw [← hx] at k0 k1 k2 k3 k4 k5 k6 k7 HRec2 HX HIH hpos
      unfold aggD at HX
      clear hx
      by_cases hM0 : M = 0
      · subst hM0
        go_wp2_with fail
        go_ret
        refine ⟨?_, HW1.out.next (HB.out.push _)⟩
        have := HRec2.out; have := HE.out
        rw [show n - wholeD d = 0 by omega]; rfl
      · have hM1 : 1 ≤ M := by omega
        have hM2 : ¬ (M : Int) ≤ 0 := by omega
        clear hM0
        go_wp2_with fail
        refine (HIH.out _ _ M (HX.out.later (Below.new _)) hM1 hM).mono ?_
        rintro e w3 ⟨rfl, hB3⟩
        have HB3 := Lib.hid ((HB.out.push _).next hB3)
        obtain ⟨q, hq⟩ : ∃ q, q = M - wholeD x := ⟨_, rfl⟩
        have hqM : q ≤ M := by omega
        have HQ := Lib.hid hq
        rw [← hq]
        clear hq hB3 k0 k1 k2 k3 k4 k5 k6 k7 HX HIH
        go_wp2_with fail
        go_roundw
        case rel => exact ⟨i + 1, q, by omega, rfl, by go_num, by omega, by show _ = _; rw [HRec2.out, HQ.out]; omega, HB3.out⟩
        case measure => simp [intOf]; omega
    · go_wp2_with fail
      go_ret
      have h3 := HRec.out
      rw [List.drop_of_length_le (by omega), wholeL] at h3
      refine ⟨?_, HW1.out.next HB.out⟩
      have := HE.out
      rw [show n - wholeD d = M by omega]
      rfl
theorem ret_boolQ {a b : Bool} (h : a = b) : Ending.returned (.bool a) = .returned (.bool b) := by rw [h]
/-- Big. -/
theorem big_any {d : D} {w : World} {v : Value} (h : IsD w v d) : Calls Tryz.prog 22 #[v] w fun e w' => e = .returned (.bool (decide (400 ≤ wholeD d))) ∧ Below w.heap.size w w' := by
  have HD := Lib.hid h
  obtain ⟨a5, c5, a6, c6, rfl, hk, hb, hi, ht, hx, hnm, hp⟩ := h.open
  clear hnm hb hi hk ht hx h hp
  unfold aggD at HD ⊢
  go_enter Tryz.func22, Tryz.ntmps22
  go_wp2_with fail
  refine (left_any d _ _ 400 (HD.out.later (Below.new _)) (by omega) (by omega)).mono ?_
  rintro e w1 ⟨rfl, hB⟩
  have HB := Lib.hid ((Below.new _).next hB)
  clear hB
  obtain ⟨q, hq⟩ : ∃ q, 400 - wholeD d = q := ⟨_, rfl⟩
  rw [hq]
  have HQ := Lib.hid hq
  clear hq
  go_wp2_with fail
  go_ret
  exact ⟨ret_boolQ (by have := HQ.out; rw [decide_eq_decide]; omega), HB.out⟩
end Go.Proofs.YtkpfeodffhfejaaGreatDoor
