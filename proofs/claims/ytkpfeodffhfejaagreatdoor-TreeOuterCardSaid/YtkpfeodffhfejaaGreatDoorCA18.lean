/- The value of a map. Conditions: as many keys as values, keys are keys. -/
import Derived.Test.YtkpfeodffhfejaaGreatDoorCA17
import Derived.Deep.RegionHeld3
namespace Go.Proofs.YtkpfeodffhfejaaGreatDoor
set_option linter.unusedVariables false
set_option maxRecDepth 1000000
open Go.RowKit

set_option maxHeartbeats 8000000 in
set_option maxRecDepth 100000 in
theorem great_map (d : D) (hk : d.kind = 21) (hlen : d.parts.length < 1000) (hlen64 : d.parts.length < 70) (hev : d.parts.length % 2 = 0) (hkeys : keysL d.parts = true) (ih : ∀ x ∈ d.parts, ∀ (w : World) (v : Value), IsD w v x → Calls Tryz.prog 36 #[v] w (MadePost w x))
    (w : World) (v : Value) (h : IsD w v d) : Calls Tryz.prog 58 #[v, .agg #[.int .i64 d.kind, .string d.type, .int .i64 d.hook]] w (MadePost w d) := by
  obtain ⟨a5, c5, a6, c6, rfl, _, hb, hi, ht, hx, hn, hp⟩ := h.open
  have IH := Lib.hid ih
  have HPP := Lib.hid hp
  have HNN := Lib.hid hn
  have HM : Hid (mkV d = (mkL d.parts).bind (greatV d)) := mkV_great (by omega)
  have hk21 : (d.kind == 21) = true := by simp [hk]
  have hk18 : (d.kind == 18) = false := by simp; omega
  have HEV := Lib.hid hev
  have HKEYS := Lib.hid hkeys
  clear hev hkeys
  have HK := Lib.hid hk
  clear hn hb hi ht hx h ih hk hp
  unfold aggD
  obtain ⟨i0, hi0, hz0, hz1, hz2⟩ := info_parts vinfo30
  obtain ⟨j0, hj0, hjz0, hjz1, hjz2⟩ := info_parts vinfo119
  go_enter Tryz.func58, Tryz.ntmps58
  go_wp2_with fail
  obtain ⟨W1, hW1⟩ : ∃ W1, W1 = (w.alloc (.cells #[.int .i64 d.kind, .string d.type, .int .u64 d.bits, .int .u64 d.imag, .string d.text, .slice a5 d.names.length c5, .slice a6 d.parts.length c6, .int .i64 d.hook] 26)).alloc (.cells #[.int .i64 d.kind, .string d.type, .int .i64 d.hook] 60) := ⟨_, rfl⟩
  rw [← hW1]
  have HBW : Hid (Below w.heap.size w W1) := by rw [hW1]; exact (Below.new _).push _
  have hx0 : W1.cell? ⟨w.heap.size, 0, none⟩ = some (.int .i64 d.kind) := by rw [hW1]; simp
  have hx2 : W1.cell? ⟨w.heap.size, 2, none⟩ = some (.int .u64 d.bits) := by rw [hW1]; simp
  have hx5 : W1.cell? ⟨w.heap.size, 5, none⟩ = some (.slice a5 d.names.length c5) := by rw [hW1]; simp
  have hy0 : W1.cell? ⟨w.heap.size + 1, 0, none⟩ = some (.int .i64 d.kind) := by rw [hW1]; simp
  have hy1 : W1.cell? ⟨w.heap.size + 1, 1, none⟩ = some (.string d.type) := by rw [hW1]; simp
  have hy2 : W1.cell? ⟨w.heap.size + 1, 2, none⟩ = some (.int .i64 d.hook) := by rw [hW1]; simp
  have HX0 := Lib.hid hx0
  have HX2 := Lib.hid hx2
  have HX5 := Lib.hid hx5
  have HY0 := Lib.hid hy0
  have HY1 := Lib.hid hy1
  have HY2 := Lib.hid hy2
  have hzW : w.heap.size + 1 < W1.heap.size := by rw [hW1]; simp
  have hp1 := HPP.out.below HBW.out
  obtain ⟨ps, hps⟩ : ∃ ps, ps = d.parts := ⟨_, rfl⟩
  rw [← hps] at hp1 IH hlen HM ⊢
  have HPS := Lib.hid hps
  have HP := Lib.hid hp1
  clear hW1 hx0 hx2 hx5 hy0 hy1 hy2 hp1 hps HPP
  go_loopw [5, 19] (fun v k wr => ∃ (us : List Value) (xs : List V), k = .int .i64 (us.length : Int) ∧ us.length ≤ ps.length ∧ Hid (mkL (ps.take us.length) = some xs) ∧ Hid (Vals W1 v us xs wr)) (fun _ k _ => ps.length - (intOf k).toNat)
  case atStart => exact ⟨[], [], rfl, Nat.zero_le _, by simp only [List.length_nil, List.take_zero]; rfl, Vals.start W1⟩
  case round =>
    obtain ⟨us, xs, rfl, hle, HL, HV⟩ := hrel
    have hzr := HV.out.lo.size
    have HBr := Lib.hid HV.out.lo
    by_cases hin : us.length < ps.length
    · obtain ⟨b, o, p5, q5, p6, q6, rfl, hrow, hD⟩ := HP.out.elem HBr.out hin
      obtain ⟨k0, k1, k2, k3, k4, k5, k6, k7⟩ := hrow
      have HX := Lib.hid hD
      have HIH := Lib.hid (IH.out ps[us.length] (List.getElem_mem _))
      have hmk : ps.take (us.length + 1) = ps.take us.length ++ [ps[us.length]] := List.take_succ_eq_append_getElem hin
      have hsp : ps = ps.take us.length ++ ps[us.length] :: ps.drop (us.length + 1) := by rw [← List.drop_eq_getElem_cons hin]; exact (List.take_append_drop _ _).symm
      have HMK := Lib.hid hmk
      have HSP := Lib.hid hsp
      clear hD hmk hsp
      obtain ⟨x, hx⟩ : ∃ x, x = ps[us.length] := ⟨_, rfl⟩
      rw [← hx] at k0 k1 k2 k3 k4 k5 k6 k7 HX HIH HMK HSP
      unfold aggD at HX
      clear hx
      obtain ⟨n, hn⟩ : ∃ n, n = us.length := ⟨_, rfl⟩
      have HN := Lib.hid hn
      rw [← hn] at hin hle k0 k1 k2 k3 k4 k5 k6 k7 HL HMK HSP
      rw [← hn]
      clear hn
      cases hmx : mkV x with
      | none =>
        have HMX := Lib.hid hmx
        clear hmx
        go_wp2_with fail
        refine (made_none HMX.out (HIH.out _ _ (HX.out.later (Below.new _)))).mono ?_
        rintro e w3 ⟨rfl, hB3⟩
        have HB3 := Lib.hid (HBW.out.next ((HBr.out.push _).next hB3))
        clear hB3 k0 k1 k2 k3 k4 k5 k6 k7 HX HIH
        go_wp2_with fail
        refine ⟨rfl, ?_⟩
        show MadePost _ _ (thrown 5) _
        unfold MadePost
        rw [HM.out, HSP.out, mkL_none _ _ _ HMX.out]
        exact ⟨rfl, HB3.out⟩
      | some y =>
        have HMX := Lib.hid hmx
        clear hmx
        go_wp2_with fail
        refine (made_some HMX.out (HIH.out _ _ (HX.out.later (Below.new _)))).mono ?_
        rintro e w3 ⟨hB3, t, u, rfl, hu⟩
        have HV3 := Lib.hid ((HV.out.later (Below.new _)).later hB3)
        have HU := Lib.hid hu
        have hz3 : wr.heap.size < w3.heap.size := by have := hB3.size; simp at this; omega
        have HVo := Lib.hid (fun g (hg : u5.ownBlock = some g) => (HV.out.own.lt g hg).2)
        clear hB3 hu k0 k1 k2 k3 k4 k5 k6 k7 HX HIH
        have hown := HV3.out.own
        rw [← HN.out] at hown
        have HO := Lib.hid (hown.alloc (.cells #[.iface t u] 28))
        have hbase : W1.heap.size ≤ (w3.alloc (.cells #[.iface t u] 28)).heap.size := by simp; omega
        clear hown
        go_wp2_with (at_builtin; refine wpList_append_one _ rfl (.tmp 23) (.tmp 26) 73 rfl W1.heap.size 28 i0 .nilIface 1 16 Tryz.underlying73 hi0 hz0 hz1 hz2 rfl (by decide) _ _ _ rfl HO.out ⟨w3.heap.size, 0, none⟩ 1 [.iface t u] rfl rfl ?c1 ?c2 ?c3 ?c4 hbase ?_)
        case c1 =>
          intro j u' hj
          match j, hj with
          | 0, hj => simp at hj; subst hj; simp [Addr.add]
        case c2 => intro u' hu'; simp at hu'; subst hu'; rfl
        case c3 => unfold maxLen; omega
        case c4 => omega
        intro v' w4 hown' hgrow hlast
        have HV4 : Hid (Vals W1 v' (us ++ [.iface t u]) (xs ++ [y]) w4) := by
          refine (HV3.out.later (Below.new (w := w3) (.cells #[.iface t u] 28))).push ?_ (by rw [← HN.out]; exact hown') hgrow (by simpa using hlast)
          refine HU.out.keep fun k hk hk' => ⟨⟨by simp at hk'; omega, by simp; omega, fun e => ?_⟩, (Below.new _).block k hk⟩
          have := HVo.out k e
          simp at hk'; omega
        have HL4 : Hid (mkL (ps.take (us ++ [Value.iface t u]).length) = some (xs ++ [y])) := by
          show _ = _
          rw [List.length_append, List.length_singleton, ← HN.out, HMK.out]
          exact mkL_snoc _ _ HL.out HMX.out
        have hln : (us ++ [Value.iface t u]).length = n + 1 := by rw [List.length_append, List.length_singleton, ← HN.out]
        have HLN := Lib.hid hln
        clear hown' hgrow hlast hln HO HVo HU HV3 HV HL
        go_wp2_with fail
        go_roundw
        case rel => exact ⟨us ++ [.iface t u], xs ++ [y], by rw [HLN.out]; go_num, by rw [HLN.out]; omega, HL4, HV4⟩
        case measure => simp [intOf]; omega
    · have hle2 : us.length = ps.length := by omega
      have HLen := Lib.hid hle2
      have hL2 := HL.out
      rw [hle2, List.take_length] at hL2
      have HL2 := Lib.hid hL2
      have HML : Hid (mkV d = greatV d xs) := by show _ = _; rw [HM.out, hL2]; rfl
      clear hle2 hL2 HL HM IH HP
      obtain ⟨a, c, rfl⟩ := HV.out.slice
      obtain ⟨bb, hb1, hb2, hb3⟩ := HV.out.cells
      have hzb : w.heap.size + 1 < wr.heap.size := by omega
      have HB1 := Lib.hid hb1
      have HB3 := Lib.hid hb3
      have hlen' : us.length < 70 := by rw [HLen.out, HPS.out]; exact hlen64
      obtain ⟨m, hm⟩ : ∃ m, us.length = m * 2 := ⟨us.length / 2, by have h1 := HEV.out; have h2 := HLen.out; rw [HPS.out] at h2; omega⟩
      have hx0 := cell_below HBr.out HX0.out
      have hy0 := cell_below HBr.out HY0.out
      have hy1 := cell_below HBr.out HY1.out
      have hy2 := cell_below HBr.out HY2.out
      rw [← HLen.out]
      have HBA := Lib.hid (HBW.out.next HBr.out)
      obtain ⟨wo, rfl⟩ : ∃ wo : World, wo = wr := ⟨_, rfl⟩
      obtain ⟨f, hf1, hf2⟩ := keys_of HV.out hm (by rw [← HL2.out, HPS.out]) HKEYS.out
      have HF1 := Lib.hid hf1
      have HF2 := Lib.hid hf2
      clear hb1 hb3 HX0 HX2 HX5 HY0 HY1 HY2 hin hle hf1 hf2
      obtain ⟨n, hn⟩ : ∃ n, n = us.length := ⟨_, rfl⟩
      rw [← hn] at hlen' hb2 hm
      rw [← hn]
      have HN := Lib.hid hn
      clear hn
      have HMM := Lib.hid hm
      have hml : m ≤ 35 := by omega
      clear hm
      go_wp2_with fail
      go_loopw [13] (fun vk wq => ∃ (j k : Nat) (v : Value), vk = .int .i64 (k : Int) ∧ k ≤ n ∧ Hid (k = j * 2) ∧ Hid (MInv wo d us j v wq)) (fun vk _ => n - (intOf vk).toNat)
      case atStart => exact ⟨0, 0, _, rfl, Nat.zero_le _, rfl, MInv.start wo d us⟩
      case round =>
        obtain ⟨j, k, v, rfl, hk, HKJ, HI⟩ := hrel
        have hMM := HMM.out
        have hKJ := HKJ.out
        by_cases hin : k < n
        · have hin2 : k + 1 < n := by omega
          have hjm : j < m := by omega
          obtain ⟨rfl, hbb⟩ := HB1.out (by rw [← HN.out]; omega)
          obtain ⟨fe1, fe2⟩ := HF1.out j hjm
          have hu1 := HB3.out k (by rw [← HN.out]; exact hin)
          have hu2 := HB3.out (k + 1) (by rw [← HN.out]; exact hin2)
          have g1 : us[k]? = some (.iface (f j).k.ty (f j).k.body) := by rw [hKJ]; exact fe1
          have g2 : us[k + 1]? = some (.iface (f j).t (f j).y) := by rw [hKJ]; exact fe2
          rw [List.getElem?_eq_getElem (by rw [← HN.out]; exact hin)] at g1
          rw [List.getElem?_eq_getElem (by rw [← HN.out]; exact hin2)] at g2
          injection g1 with g1
          injection g2 with g2
          rw [g1] at hu1
          rw [g2] at hu2
          have HE1 := Lib.hid fe1
          have HE2 := Lib.hid fe2
          clear fe1 fe2 g1 g2 hMM hKJ
          obtain ⟨ty1, hty1⟩ : ∃ x, x = (f j).k.ty := ⟨_, rfl⟩
          obtain ⟨bo1, hbo1⟩ : ∃ x, x = (f j).k.body := ⟨_, rfl⟩
          obtain ⟨ty2, hty2⟩ : ∃ x, x = (f j).t := ⟨_, rfl⟩
          obtain ⟨bo2, hbo2⟩ : ∃ x, x = (f j).y := ⟨_, rfl⟩
          rw [← hty1, ← hbo1] at hu1 HE1
          rw [← hty2, ← hbo2] at hu2 HE2
          clear hty1 hbo1 hty2 hbo2
          have c1 := cell_below HI.out.lo hu1
          have c2 := cell_below HI.out.lo hu2
          have s3 := HI.out.s3
          have f3 := HI.out.f3
          have HROW := Lib.hid HI.out.row
          have l1 := World.block_lt_of_cell? wr _ s3
          have l2 := World.block_lt_of_cell? wr _ c1
          have hnv : v.ownBlock ≠ some wo.heap.size := fun e => by have := HI.out.row.lt _ e; omega
          have HNV := Lib.hid hnv
          have hs1 : IntKind.i64.wrap ((k : Int) + 1) = (k : Int) + 1 := by rw [IntKind.wrap_i64]; omega
          have hs2 : (0 : Int) ≤ (k : Int) + 1 := by omega
          have hs3 : ((k : Int) + 1).toNat = k + 1 := by omega
          have hs4 : (k : Int) + 1 < (n : Int) := by omega
          have hs5 : (0 : Int) ≤ (k : Int) := by omega
          have hs6 : (k : Int) < (n : Int) := by omega
          have hmx : j + 1 ≤ maxLen := by unfold maxLen; omega
          have hbx : (j + 1) * 32 ≤ 140737488355328 := by omega
          have hbs : wo.heap.size + 1 ≤ wr.heap.size := l1
          clear hu1 hu2 hnv
          go_wp2_with fail
          go_region_law ((refine step_append_lies _ (by rfl) _ _ _ (by rfl) (wo.heap.size + 1) 119 j0 _ 2 32 Tryz.underlying102 hj0 hjz0 hjz1 hjz2 rfl (by omega) v j _ (by rfl) ((HROW.out.alloc _).drew) ⟨wr.heap.size, 0, none⟩ 1 1 [.iface ty1 bo1, .iface ty2 bo2] (by rfl) (by rfl) (World.news_of_block (cs := #[.iface ty1 bo1, .iface ty2 bo2]) (t := 119) (fr := (0, 0)) (heap_alloc_new wr _)) (by simp [Value.oneCell']) (by omega) hmx hbx (by simp; omega) (wr.heap.size + 1) (by simp) ?_; intro gg cap w6 hown6 hgrow6 hat6 hlt6; have bS6 : w6.heap[wo.heap.size]? = wr.heap[wo.heap.size]? := (hgrow6.block _ (by simp; omega) (fun e => HNV.out e.symm)).trans (Below.heap_alloc wr _ _ l1); have q3 := cell_block bS6 s3; have qf := (frozen_block (o := 3) bS6).trans f3; clear bS6))
          all_goals
            have HSN : Hid (MInv wo d us (j + 1) (.slice (some ⟨gg, 0, none⟩) (j + 1) cap) (w6.setCell ⟨wo.heap.size, 3, none⟩ (.slice (some ⟨gg, 0, none⟩) (j + 1) cap))) := by
              have hKJ := HKJ.out
              have hMM := HMM.out
              exact HI.out.next (by rw [← HN.out]; omega) HE1.out HE2.out ((Below.new _).drew) hown6 hgrow6
            have HKJ2 : Hid (k + 2 = (j + 1) * 2) := by show _ = _; have := HKJ.out; omega
            clear hown6 hgrow6 hat6 hlt6 q3 qf s3 f3 c1 c2
            go_wp2_with fail
            go_roundw
            case rel => exact ⟨j + 1, k + 2, _, by go_num, by omega, HKJ2, HSN⟩
            case measure => simp [intOf]; omega
        · obtain rfl : k = n := by omega
          obtain rfl : j = m := by omega
          have HBQ := Lib.hid (HBA.out.next HI.out.lo)
          have s0 := HI.out.s0
          have s1 := HI.out.s1
          have s2 := HI.out.s2
          have s3 := HI.out.s3
          have l0 : wo.heap.size < wr.heap.size := World.block_lt_of_cell? wr _ s0
          clear hMM hKJ
          by_cases hm0 : j = 0
          · have hav : ∃ av cv, v = .slice av 0 cv := by
              rcases HI.out.row.2 with ⟨h, _⟩ | ⟨g, cap, cur, h, _⟩
              · exact ⟨none, 0, h⟩
              · exact ⟨_, cap, by rw [h, hm0]⟩
            obtain ⟨av, cv, rfl⟩ := hav
            have HM0 := Lib.hid hm0
            clear hm0
            go_wp2_with fail
            refine (sort_none _).mono ?_
            rintro e w2 ⟨rfl, rfl⟩
            go_wp2_with fail
            go_loopw [14] (fun vi wq => vi = .int .i64 1 ∧ wq = w2) (fun _ _ => 0)
            case atStart => exact ⟨rfl, rfl⟩
            case round =>
              obtain ⟨rfl, rfl⟩ := hrel
              go_wp2_with fail
              refine bodyPost_ret (v := .iface 104 (.agg #[.int .i64 d.kind, .string d.type, .int .i64 d.hook, .slice av 0 cv])) (by simp [results, Tryz.f58, go_sem]) rfl ?_
              have hx0 : xs = [] := List.eq_nil_of_length_eq_zero (by have h1 := HV.out.len; have h2 := HN.out; have h3 := HMM.out; have h4 := HM0.out; omega)
              have hsm : greatV d xs = some (.great .map d.base 0 [] []) := by
                have := HK.out
                unfold greatV
                rw [hx0, if_neg (by omega), if_pos this]
                rfl
              unfold MadePost
              rw [HML.out, hsm]
              exact ⟨HBQ.out, _, _, rfl, .map d.base av cv 0 0 0 (fun _ => undef) [] rfl (Nat.zero_le _) (by simp) (fun h => by omega) (fun i h => by omega) (fun i h => by omega) (fun i h => by simp at h) (fun i h => by simp at h)⟩
          · have hfrm : ∃ g cap, v = .slice (some ⟨g, 0, none⟩) j cap ∧ j ≤ cap := by
              obtain ⟨g, cap, e1, _, _, e4, _⟩ := owns_cell HI.out.row (by omega)
              exact ⟨g, cap, e1, e4⟩
            obtain ⟨g, cap, rfl, hcap⟩ := hfrm
            have hst := HI.out.st (by rw [← HN.out, HMM.out]) (by omega) HF1.out
            have hok : OkE j f := fun i hi => (HF2.out.2 i hi (by rw [HF2.out.1]; exact hi)).2.1
            have HST := Lib.hid hst
            have HOK := Lib.hid hok
            have hgB := hst.hB
            clear hst hok
            go_wp2_with fail
            obtain ⟨ws, rfl⟩ : ∃ ws : World, ws = wr := ⟨_, rfl⟩
            refine (sort_any f _ HST.out HOK.out (by omega)).mono ?_
            rintro e w2 ⟨rfl, q, q1, q2, q3, q4⟩
            have Q1 := Lib.hid q1
            have Q2 := Lib.hid q2
            have Q3 := Lib.hid q3
            have Q4 := Lib.hid q4
            have HOKQ := Lib.hid (HOK.out.mix q2 (Nat.le_refl _))
            have b2 : ∀ {o u}, ws.cell? ⟨wo.heap.size, o, none⟩ = some u → w2.cell? ⟨wo.heap.size, o, none⟩ = some u := fun h => cell_block (q1.lo.block _ (by omega)) h
            replace s0 := b2 s0
            replace s1 := b2 s1
            replace s2 := b2 s2
            replace s3 := b2 s3
            have HBS : Hid (Below w.heap.size w w2) := HBQ.out.trans (q1.lo.mono (by have := HBQ.out.size; omega))
            clear q1 q2 q3 q4 b2
            go_wp2_with fail
            go_loopw [14] (fun vi wq => ∃ i : Nat, vi = .int .i64 (i : Int) ∧ 1 ≤ i ∧ i ≤ j ∧ Hid (∀ p, p + 1 < i → cmpK (q p).k (q (p + 1)).k ≠ 0) ∧ Hid (St ws (wo.heap.size + 1) g j q wq) ∧ Below w2.heap.size w2 wq) (fun vi _ => j - (intOf vi).toNat)
            case atStart => exact ⟨1, rfl, Nat.le_refl _, by omega, (fun p hp => by omega), Q1, Below.refl _ _⟩
            case round =>
              obtain ⟨i, rfl, hi1, hij, HNE, HSQ, hbq⟩ := hrel
              have HBW2 := Lib.hid hbq
              have t0 := cell_below hbq s0
              have t1 := cell_below hbq s1
              have t2 := cell_below hbq s2
              have t3 := cell_below hbq s3
              clear hbq
              by_cases hin : i < j
              · have x0 := HSQ.out.c0 (i - 1) (by omega)
                have y0 := HSQ.out.c0 i hin
                obtain ⟨C, hC⟩ : ∃ C, C = cmpK (q (i - 1)).k (q i).k := ⟨_, rfl⟩
                have hcall : ∀ W : World, Calls Tryz.prog 88 #[.iface (q (i - 1)).k.ty (q (i - 1)).k.body, .iface (q i).k.ty (q i).k.body] W fun e w' => e = .returned (.int .i64 C) ∧ Below W.heap.size W w' := by
                  intro W
                  have o1 := HOKQ.out (i - 1) (by omega)
                  have o2 := HOKQ.out i hin
                  have := order_any (w := W) (.leaf (q (i - 1)).k) (.leaf (q i).k) o1 o2
                  rw [Leaf.val_eq, Leaf.val_eq] at this
                  refine this.mono fun e w' ⟨h1, h2⟩ => ⟨?_, h2⟩
                  rw [h1, hC]
                  have e := ordL_eq o1 o2
                  unfold ordL at e
                  rw [e]
                have HCC := Lib.hid hC
                have HC := Lib.hid hcall
                clear hC hcall
                obtain ⟨tx, htx⟩ : ∃ x, x = (q (i - 1)).k.ty := ⟨_, rfl⟩
                obtain ⟨vx, hvx⟩ : ∃ x, x = (q (i - 1)).k.body := ⟨_, rfl⟩
                obtain ⟨ty, hty⟩ : ∃ x, x = (q i).k.ty := ⟨_, rfl⟩
                obtain ⟨vy, hvy⟩ : ∃ x, x = (q i).k.body := ⟨_, rfl⟩
                rw [← htx, ← hvx] at x0 HC
                rw [← hty, ← hvy] at y0 HC
                clear htx hvx hty hvy
                have p1 : (i : Int) < (j : Int) := by omega
                have p2 : (i : Int) - 1 < (j : Int) := by omega
                have p3 : (0 : Int) ≤ (i : Int) - 1 := by omega
                have p4 : ((i : Int) - 1).toNat = i - 1 := by omega
                have p6 : (1 : Int) ≤ (i : Int) := by omega
                have p5 : IntKind.i64.wrap ((i : Int) - 1) = (i : Int) - 1 := by rw [IntKind.wrap_i64]; omega
                have p7 : (0 : Int) ≤ (i : Int) := by omega
                by_cases hz : C = 0
                · have hpan : ∀ w', Below wr.drew.heap.size wr.drew w' → MadePost w d (thrown 5) w' := by
                    intro w' hb
                    have hnone : greatV d xs = none := by
                      have := HK.out
                      unfold greatV
                      rw [if_neg (by omega), if_pos this, if_neg (map_twice Q3.out HF2.out.1 HF2.out.2 (i := i - 1) (by omega) (by rw [show i - 1 + 1 = i by omega, ← HCC.out, hz]))]
                    unfold MadePost
                    rw [HML.out, hnone]
                    exact ⟨rfl, HBS.out.next (HBW2.out.drew.next hb)⟩
                  have HPAN := Lib.hid hpan
                  clear hpan
                  subst hz
                  go_wp2_with fail
                  go_region_law (first
                    | (rw [if_pos (by simp [Region.wanted])]; go_simp; go_at_call 88; (with_reducible refine (HC.out _).mono ?_); rintro e w5 ⟨rfl, hBc⟩; have HBc := Lib.hid hBc; clear hBc; (try go_simp))
                    | (refine step_false ?_ (by simp [Region.wanted]) (fun hF => ?_); go_simp; go_at_call 30; (with_reducible refine (must_bad 5 _).mono ?_); rintro e w6 ⟨rfl, rfl⟩; (try go_simp); exact ⟨rfl, HPAN.out _ HBc.out⟩))
                  all_goals exact hF.elim
                · have hz1 : (C == 0) = false := by simpa using hz
                  have hz2 : (C != 0) = true := by simpa using hz
                  have HZ := Lib.hid hz
                  clear hz
                  go_wp2_with fail
                  go_region_held3 (fun w' => w'.cell? ⟨wo.heap.size, 3, none⟩ = some (.slice (some ⟨g, 0, none⟩) j cap) ∧ w'.cell? ⟨g, (i - 1) * 2, none⟩ = some (.iface tx vx) ∧ w'.cell? ⟨g, i * 2, none⟩ = some (.iface ty vy)) (first | exact ⟨t3, x0, y0⟩ | (refine ⟨?_, ?_, ?_⟩ <;> (with_reducible (refine cell_below HBc.out ?_)) <;> assumption)) (first
                    | (go_at_call 88; (with_reducible refine (HC.out _).mono ?_); rintro e w5 ⟨rfl, hBc⟩; have HBc := Lib.hid hBc; clear hBc)
                    | (go_at_call 30; (with_reducible refine (must_ok 5 _).mono ?_); rintro e w6 ⟨rfl, rfl⟩))
                  have hne2 : Hid (∀ p, p + 1 < i + 1 → cmpK (q p).k (q (p + 1)).k ≠ 0) := by
                    intro p hp
                    by_cases e : p + 1 < i
                    · exact HNE.out p e
                    · obtain rfl : p = i - 1 := by omega
                      rw [show i - 1 + 1 = i by omega, ← HCC.out]
                      exact HZ.out
                  have HSQ5 : Hid (St ws (wo.heap.size + 1) g j q w5) := HSQ.out.drew.call HBc.out
                  have HBW5 : Hid (Below w2.heap.size w2 w5) := HBW2.out.drew.next HBc.out
                  go_wp2_with fail
                  go_roundw
                  case rel => exact ⟨i + 1, by go_num, by omega, by omega, hne2, HSQ5, HBW5.out⟩
                  case measure => simp [intOf]; omega
              · obtain rfl : i = j := by omega
                go_wp2_with fail
                refine bodyPost_ret (v := .iface 104 (.agg #[.int .i64 d.kind, .string d.type, .int .i64 d.hook, .slice (some ⟨g, 0, none⟩) i cap])) (by simp [results, Tryz.f58, go_sem]) rfl ?_
                have hfin := map_done (T := (W1.heap.size ≤ ·)) (d := d) (cap := cap) HSQ.out (by show W1.heap.size ≤ g; omega) Q3.out Q4.out (fun p hp => HNE.out p hp) HF2.out.1 HF2.out.2 (by omega) hcap (fun k hk hk' => ⟨hk'.1, (HSQ.out.lo.block k (by omega)).trans (HI.out.lo.block k hk)⟩)
                have hsm : greatV d xs = some (.great .map d.base 0 [] (flat (sortP (pairs xs)))) := by
                  have := HK.out
                  unfold greatV
                  rw [if_neg (by omega), if_pos this, if_pos hfin.2]
                unfold MadePost
                rw [HML.out, hsm]
                exact ⟨HBS.out.next HBW2.out, _, _, rfl, hfin.1.mono fun k _ hk => by omega⟩
end Go.Proofs.YtkpfeodffhfejaaGreatDoor
