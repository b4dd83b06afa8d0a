/- Two descriptors are compared: Same answers whether they are equal. No condition. -/
import Derived.Test.YthpgnhmikffcpaaZL1
import Derived.Deep.DeepCutAuto
import Derived.Deep.QuietTactic
import Derived.Deep.RegionLaw
namespace Go.Proofs.Ythpgnhmikffcpaa
set_option linter.unusedVariables false
set_option linter.unusedSimpArgs false
open Go.RowKit

noncomputable def sameD (d e : D) : Bool := @decide (d = e) (Classical.propDecidable _)
theorem sameD_true {d e : D} (h : d = e) : sameD d e = true := by unfold sameD; exact @decide_eq_true _ (Classical.propDecidable _) h
theorem sameD_false {d e : D} (h : d ≠ e) : sameD d e = false := by unfold sameD; exact @decide_eq_false _ (Classical.propDecidable _) h
theorem sameD_iff {d e : D} : sameD d e = true ↔ d = e := by
  refine ⟨fun h => ?_, sameD_true⟩
  by_cases q : d = e
  · exact q
  · rw [sameD_false q] at h; cases h
/-- What Same hands back. -/
def SamePost (w : World) (d e : D) (en : Ending) (w' : World) : Prop := en = .returned (.bool (sameD d e)) ∧ Below w.heap.size w w'
theorem SamePost.no {w : World} {d e : D} {w' : World} (h : d ≠ e) (hb : Below w.heap.size w w') : SamePost w d e (.returned (.bool false)) w' := ⟨by rw [sameD_false h], hb⟩
theorem toList_inj' {a b : ByteArray} (h : a.toList = b.toList) : a = b := by
  rw [Go.ByteArray.toList_eq, Go.ByteArray.toList_eq] at h
  exact ByteArray.ext (Array.toList_inj.1 h)

set_option maxHeartbeats 4000000 in
set_option maxRecDepth 100000 in
theorem same_any : ∀ (d e : D) (w : World) (v u : Value), IsD w v d → IsD w u e → Calls Try.prog 16 #[v, u] w (SamePost w d e) := by
  refine D.induct_d fun d ih e w v u hd he => ?_
  have IH := Lib.hid ih
  obtain ⟨a5, c5, a6, c6, rfl, hk, hb, hi, ht, hx, hn, hp⟩ := hd.open
  obtain ⟨p5, q5, p6, q6, rfl, hk', hb', hi', ht', hx', hn', hp'⟩ := he.open
  obtain ⟨hn1, hn2, nb, no, hn3, hn4, hn5⟩ := hn
  obtain ⟨hm1, hm2, mb, mo, hm3, hm4, hm5⟩ := hn'
  obtain ⟨hp1, hp2, pb, po, hp3, hp4⟩ := hp
  obtain ⟨hq1, hq2, qb, qo, hq3, hq4⟩ := hp'
  have HN3 := Lib.hid hn3
  have HN4 := Lib.hid hn4
  have HM3 := Lib.hid hm3
  have HM4 := Lib.hid hm4
  have HP3 := Lib.hid hp3
  have HP4 := Lib.hid hp4
  have HQ3 := Lib.hid hq3
  have HQ4 := Lib.hid hq4
  clear hk hb hi ht hx hk' hb' hi' ht' hx' hn3 hn4 hn5 hm3 hm4 hm5 hp3 hp4 hq3 hq4 ih hd he
  unfold cap47 at hn2 hm2 hp2 hq2
  have hdd := d.eta
  have hee := e.eta
  generalize hdk : d.kind = k at *
  generalize hdt : d.type = t at *
  generalize hdb : d.bits = b at *
  generalize hdi : d.imag = im at *
  generalize hdx : d.text = x at *
  generalize hdh : d.hook = h at *
  generalize hdn : d.names = ns at *
  generalize hdp : d.parts = ps at *
  generalize hek : e.kind = k' at *
  generalize het : e.type = t' at *
  generalize heb : e.bits = b' at *
  generalize hei : e.imag = im' at *
  generalize hex : e.text = x' at *
  generalize heh : e.hook = h' at *
  generalize hen : e.names = ns' at *
  generalize hep : e.parts = ps' at *
  subst hdd hee
  clear hdk hdt hdb hdi hdx hdh hdn hdp hek het heb hei hex heh hen hep
  simp only [aggD, D.kind, D.type, D.bits, D.imag, D.text, D.names, D.parts, D.hook]
  go_enter Try.func16, Try.ntmps16
  go_upto_region 3 with fail
  all_goals try (
    refine bodyPost_ret (v := .bool false) (by simp [results, Try.f16, go_sem]) rfl (SamePost.no ?_ ((Below.new _).push _))
    clear IH HN3 HN4 HM3 HM4 HP3 HP4 HQ3 HQ4
    intro q
    injection q with q1 q2 q3 q4 q5 q6 q7 q8
    have r2 := congrArg ByteArray.toList q2
    have r5 := congrArg ByteArray.toList q5
    have r6 : (ns.length : Int) = ns'.length := by rw [q6]
    have r7 : ((ps.length : Int) != ps'.length) = false := by rw [q7]; simp
    first | contradiction | simp_all)
  obtain rfl : k = k' := by assumption
  obtain rfl : b = b' := by assumption
  obtain rfl : im = im' := by assumption
  obtain rfl : h = h' := by assumption
  obtain rfl : t = t' := toList_inj' (by assumption)
  obtain rfl : x = x' := toList_inj' (by assumption)
  rename ((ns.length : Int) = ns'.length) => hnl
  have hpl : (ps.length : Int) = ps'.length := by
    have : ((ps.length : Int) != ps'.length) = false := by assumption
    simpa using this
  have HB1 := Lib.hid ((Blk.of (heap_alloc_new w (.cells #[.int .i64 k, .string t, .int .u64 b, .int .u64 im, .string x, .slice a5 ns.length c5, .slice a6 ps.length c6, .int .i64 h] 26))).below (Below.new (.cells #[.int .i64 k, .string t, .int .u64 b, .int .u64 im, .string x, .slice p5 ns'.length q5, .slice p6 ps'.length q6, .int .i64 h] 26)))
  have HB2 := Lib.hid (Blk.of (heap_alloc_new (w.alloc (.cells #[.int .i64 k, .string t, .int .u64 b, .int .u64 im, .string x, .slice a5 ns.length c5, .slice a6 ps.length c6, .int .i64 h] 26)) (.cells #[.int .i64 k, .string t, .int .u64 b, .int .u64 im, .string x, .slice p5 ns'.length q5, .slice p6 ps'.length q6, .int .i64 h] 26)))
  have HW0 := Lib.hid ((Below.new (w := w) (.cells #[.int .i64 k, .string t, .int .u64 b, .int .u64 im, .string x, .slice a5 ns.length c5, .slice a6 ps.length c6, .int .i64 h] 26)).push (.cells #[.int .i64 k, .string t, .int .u64 b, .int .u64 im, .string x, .slice p5 ns'.length q5, .slice p6 ps'.length q6, .int .i64 h] 26))
  have hsz1 : (w.alloc (.cells #[.int .i64 k, .string t, .int .u64 b, .int .u64 im, .string x, .slice a5 ns.length c5, .slice a6 ps.length c6, .int .i64 h] 26)).heap.size = w.heap.size + 1 := by simp
  rw [hsz1] at HB2
  clear hsz1
  generalize (w.alloc (.cells #[.int .i64 k, .string t, .int .u64 b, .int .u64 im, .string x, .slice a5 ns.length c5, .slice a6 ps.length c6, .int .i64 h] 26)).alloc (.cells #[.int .i64 k, .string t, .int .u64 b, .int .u64 im, .string x, .slice p5 ns'.length q5, .slice p6 ps'.length q6, .int .i64 h] 26) = W0 at HB1 HB2 HW0 ⊢
  have c15 := HB1.out.c5
  have c25 := HB2.out.c5
  have c16 := HB1.out.c6
  have c26 := HB2.out.c6
  have hnl' : ns.length = ns'.length := by omega
  have HNL := Lib.hid hnl'
  have hpl' : ps.length = ps'.length := by omega
  have HPL := Lib.hid hpl'
  clear hnl hpl hnl' hpl'
  go_wp2_with fail
  go_loopw [5, 68] (fun _ kk wr => ∃ i : Nat, kk = .int .i64 (i : Int) ∧ i ≤ ns.length ∧ Hid (ns.take i = ns'.take i) ∧ Hid (Below W0.heap.size W0 wr)) (fun _ kk _ => ns.length - (intOf kk).toNat)
  case atStart => exact ⟨0, rfl, Nat.zero_le _, by show _ = _; simp, Below.refl _ _⟩
  case round =>
    obtain ⟨i, rfl, hi, HT, HW⟩ := hrel
    have d15 := cell_below HW.out c15
    have d25 := cell_below HW.out c25
    have d16 := cell_below HW.out c16
    have d26 := cell_below HW.out c26
    clear c15 c25 c16 c26
    by_cases hin : i < ns.length
    · have hin' : i < ns'.length := by have := HNL.out; omega
      obtain rfl := HN3.out (by omega)
      obtain rfl := HM3.out (by omega)
      have e1 := cell_below (HW0.out.next HW.out) (HN4.out i hin)
      have e2 := cell_below (HW0.out.next HW.out) (HM4.out i hin')
      obtain ⟨s1, hs1⟩ : ∃ s, s = ns[i] := ⟨_, rfl⟩
      obtain ⟨s2, hs2⟩ : ∃ s, s = ns'[i] := ⟨_, rfl⟩
      rw [← hs1] at e1
      rw [← hs2] at e2
      have HS1 := Lib.hid hs1
      have HS2 := Lib.hid hs2
      clear hs1 hs2
      have hdrew := (Below.refl wr.heap.size wr).drew
      go_upto_region 6 with fail
      go_quiet (fail)
      go_wp2_with fail
      · refine bodyPost_ret (v := .bool false) (by simp [results, Try.f16, go_sem]) rfl (SamePost.no ?_ ((HW0.out.next HW.out).drewN _))
        have hq : (!s1.toList == s2.toList) = true := by assumption
        clear HN3 HM3 HN4 HM4 HP3 HP4 HQ3 HQ4 IH HT
        intro q
        injection q with q1 q2 q3 q4 q5 q6 q7 q8
        have hs : s1 = s2 := by rw [HS1.out, HS2.out]; simp only [q6]
        rw [hs] at hq
        simp at hq
      · have hq : (!s1.toList == s2.toList) = false := by assumption
        have hs : s1 = s2 := toList_inj' (by simpa using hq)
        refine ⟨⟨i + 1, by go_num, by omega, ?_, HW.out.drewN _⟩, by simp [intOf]; omega⟩
        show _ = _
        rw [List.take_succ_eq_append_getElem hin, List.take_succ_eq_append_getElem hin', HT.out, ← HS1.out, ← HS2.out, hs]
    · obtain rfl : i = ns.length := by omega
      have hnn : Hid (ns = ns') := by
        have := HT.out
        rw [List.take_length, HNL.out, List.take_length] at this
        exact this
      clear hi hin HT
      have HWL := Lib.hid (HW0.out.next HW.out)
      have HB1w := Lib.hid (HB1.out.below HW.out)
      have HB2w := Lib.hid (HB2.out.below HW.out)
      clear HN3 HN4 HM3 HM4 d15 d25 hn1 hn2 hm1 hm2 HB1 HB2 HW0 HW
      obtain ⟨W1, hW1⟩ : ∃ W1, W1 = wr := ⟨_, rfl⟩
      subst hW1
      go_wp2_with fail
      go_loopw [6, 86] (fun _ kk wr => ∃ i : Nat, kk = .int .i64 (i : Int) ∧ i ≤ ps.length ∧ Hid (ps.take i = ps'.take i) ∧ Hid (Below W1.heap.size W1 wr)) (fun _ kk _ => ps.length - (intOf kk).toNat)
      case atStart => exact ⟨0, rfl, Nat.zero_le _, by show _ = _; simp, Below.refl _ _⟩
      case round =>
        obtain ⟨i, rfl, hi, HT, HW⟩ := hrel
        have f1 := cell_below HW.out d16
        have f2 := cell_below HW.out d26
        clear d16 d26
        by_cases hin : i < ps.length
        · have hin' : i < ps'.length := by have := HPL.out; omega
          obtain rfl := HP3.out (by omega)
          obtain rfl := HQ3.out (by omega)
          have hB := Lib.hid (HWL.out.next HW.out)
          obtain ⟨z5, y5, z6, y6, hrow, hD⟩ := (HP4.out i hin).row
          obtain ⟨z5', y5', z6', y6', hrow', hD'⟩ := (HQ4.out i hin').row
          obtain ⟨k0, k1, k2, k3, k4, k5, k6, k7⟩ := hrow.below hB.out
          obtain ⟨l0, l1, l2, l3, l4, l5, l6, l7⟩ := hrow'.below hB.out
          have HX := Lib.hid (hD.later hB.out)
          have HY := Lib.hid (hD'.later hB.out)
          have HI := Lib.hid (IH.out ps[i] (List.getElem_mem _) ps'[i])
          clear hrow hD hrow' hD'
          obtain ⟨X, hX⟩ : ∃ X, X = ps[i] := ⟨_, rfl⟩
          obtain ⟨Y, hY⟩ : ∃ Y, Y = ps'[i] := ⟨_, rfl⟩
          rw [← hX] at k0 k1 k2 k3 k4 k5 k6 k7 HX HI
          rw [← hY] at l0 l1 l2 l3 l4 l5 l6 l7 HY HI
          have HXE := Lib.hid hX
          have HYE := Lib.hid hY
          clear hX hY IH
          unfold aggD at HX HY
          obtain ⟨S, hS⟩ : ∃ S, S = sameD X Y := ⟨_, rfl⟩
          have HC : Hid (∀ W : World, Below wr.heap.size wr W → Calls Try.prog 16 #[.agg #[.int .i64 X.kind, .string X.type, .int .u64 X.bits, .int .u64 X.imag, .string X.text, .slice z5 X.names.length y5, .slice z6 X.parts.length y6, .int .i64 X.hook], .agg #[.int .i64 Y.kind, .string Y.type, .int .u64 Y.bits, .int .u64 Y.imag, .string Y.text, .slice z5' Y.names.length y5', .slice z6' Y.parts.length y6', .int .i64 Y.hook]] W fun e w' => e = .returned (.bool S) ∧ Below W.heap.size W w') := by
            intro W hW
            exact (HI.out W _ _ (HX.out.later hW) (HY.out.later hW)).mono fun e w' h => ⟨by rw [h.1, hS], h.2⟩
          have HS := Lib.hid hS
          clear hS HI HX HY
          go_upto_region 12 with fail
          go_region_held3 (fun w' => w'.cell? ⟨w.heap.size, 6, none⟩ = some (.slice (some ⟨pb, po, none⟩) ps.length c6) ∧ w'.cell? ⟨w.heap.size + 1, 6, none⟩ = some (.slice (some ⟨qb, qo, none⟩) ps'.length q6) ∧ w'.cell? ⟨pb, po + i * 8, none⟩ = some (.int .i64 X.kind) ∧ w'.cell? ⟨pb, po + i * 8 + 1, none⟩ = some (.string X.type) ∧ w'.cell? ⟨pb, po + i * 8 + 2, none⟩ = some (.int .u64 X.bits) ∧ w'.cell? ⟨pb, po + i * 8 + 3, none⟩ = some (.int .u64 X.imag) ∧ w'.cell? ⟨pb, po + i * 8 + 4, none⟩ = some (.string X.text) ∧ w'.cell? ⟨pb, po + i * 8 + 5, none⟩ = some (.slice z5 X.names.length y5) ∧ w'.cell? ⟨pb, po + i * 8 + 6, none⟩ = some (.slice z6 X.parts.length y6) ∧ w'.cell? ⟨pb, po + i * 8 + 7, none⟩ = some (.int .i64 X.hook) ∧ w'.cell? ⟨qb, qo + i * 8, none⟩ = some (.int .i64 Y.kind) ∧ w'.cell? ⟨qb, qo + i * 8 + 1, none⟩ = some (.string Y.type) ∧ w'.cell? ⟨qb, qo + i * 8 + 2, none⟩ = some (.int .u64 Y.bits) ∧ w'.cell? ⟨qb, qo + i * 8 + 3, none⟩ = some (.int .u64 Y.imag) ∧ w'.cell? ⟨qb, qo + i * 8 + 4, none⟩ = some (.string Y.text) ∧ w'.cell? ⟨qb, qo + i * 8 + 5, none⟩ = some (.slice z5' Y.names.length y5') ∧ w'.cell? ⟨qb, qo + i * 8 + 6, none⟩ = some (.slice z6' Y.parts.length y6') ∧ w'.cell? ⟨qb, qo + i * 8 + 7, none⟩ = some (.int .i64 Y.hook)) (first | exact ⟨f1, f2, k0, k1, k2, k3, k4, k5, k6, k7, l0, l1, l2, l3, l4, l5, l6, l7⟩ | (refine ⟨?_, ?_, ?_, ?_, ?_, ?_, ?_, ?_, ?_, ?_, ?_, ?_, ?_, ?_, ?_, ?_, ?_, ?_⟩ <;> (with_reducible (refine cell_below HBc.out ?_)) <;> assumption)) (first
            | (go_at_call 16; (with_reducible refine (HC.out _ ((Below.refl _ _).drew)).mono ?_); rintro e w5 ⟨rfl, hBc⟩; have HBc := Lib.hid hBc; clear hBc))
          have HW5 := Lib.hid (((Below.refl wr.heap.size wr).drew).next HBc.out)
          clear HC k0 k1 k2 k3 k4 k5 k6 k7 l0 l1 l2 l3 l4 l5 l6 l7 f1 f2 HBc
          cases S with
          | false =>
            go_wp2_with fail
            refine bodyPost_ret (v := .bool false) (by simp [results, Try.f16, go_sem]) rfl (SamePost.no ?_ ((HWL.out.next HW.out).next HW5.out))
            intro q
            injection q with q1 q2 q3 q4 q5 q6 q7 q8
            have hs : X = Y := by rw [HXE.out, HYE.out]; simp only [q7]
            have := HS.out
            rw [sameD_true hs] at this
            cases this
          | true =>
            go_wp2_with fail
            have hs : X = Y := sameD_iff.1 HS.out.symm
            have HTN : Hid (ps.take (i + 1) = ps'.take (i + 1)) := by
              show _ = _
              rw [List.take_succ_eq_append_getElem hin, List.take_succ_eq_append_getElem hin', HT.out, ← HXE.out, ← HYE.out, hs]
            clear hs
            go_roundw
            case rel => exact ⟨i + 1, by go_num, by omega, HTN, HW.out.next HW5.out⟩
            case measure => simp [intOf]; omega
        · obtain rfl : i = ps.length := by omega
          have hpp : Hid (ps = ps') := by
            have := HT.out
            rw [List.take_length, HPL.out, List.take_length] at this
            exact this
          go_wp2_with fail
          exact bodyPost_ret (v := .bool true) (by simp [results, Try.f16, go_sem]) rfl ⟨by rw [sameD_true (by rw [hnn.out, hpp.out])], HWL.out.next HW.out⟩
end Go.Proofs.Ythpgnhmikffcpaa
