/- The value of a struct. Condition: as many names as parts. -/
import Derived.Test.YtkpfeodffhfejaaGreatDoorCA12
import Derived.Test.YtkpfeodffhfejaaGreatDoorCA09
namespace Go.Proofs.YtkpfeodffhfejaaGreatDoor
set_option linter.unusedVariables false
set_option maxRecDepth 1000000
open Go.RowKit Go.Maps

theorem zero3 (w : World) : (zeroValue 3).run Tryz.prog w = .ok (.int .i64 0) w := by kernel_rfl
theorem law9 : Keyed Tryz.prog 9 := string_keyed Tryz.underlying9

set_option maxHeartbeats 8000000 in
set_option maxRecDepth 100000 in
theorem great_struct (d : D) (hk : d.kind = 18) (hlen : d.parts.length < 1000) (hln : d.names.length = d.parts.length) (ih : ∀ x ∈ d.parts, ∀ (w : World) (v : Value), IsD w v x → Calls Tryz.prog 36 #[v] w (MadePost w x))
    (w : World) (v : Value) (h : IsD w v d) : Calls Tryz.prog 58 #[v, .agg #[.int .i64 d.kind, .string d.type, .int .i64 d.hook]] w (MadePost w d) := by
  obtain ⟨a5, c5, a6, c6, rfl, _, hb, hi, ht, hx, hn, hp⟩ := h.open
  have IH := Lib.hid ih
  have HPP := Lib.hid hp
  have HNN := Lib.hid hn
  have HM : Hid (mkV d = (mkL d.parts).bind (greatV d)) := mkV_great (by omega)
  have hk18 : (d.kind == 18) = true := by simp [hk]
  have HLNN := Lib.hid hln
  clear hln
  have HK := Lib.hid hk
  clear hn hb hi ht hx h ih hk hp
  unfold aggD
  obtain ⟨i0, hi0, hz0, hz1, hz2⟩ := info_parts vinfo30
  have hmm := @run_makeMap Tryz.prog
  obtain ⟨j0, hj0, hjz0, hjz1, hjz2⟩ := info_parts vinfo106
  go_enter Tryz.func58, Tryz.ntmps58
  go_wp2_with fail
  obtain ⟨W1, hW1⟩ : ∃ W1, W1 = (w.alloc (.cells #[.int .i64 d.kind, .string d.type, .int .u64 d.bits, .int .u64 d.imag, .string d.text, .slice a5 d.names.length c5, .slice a6 d.parts.length c6, .int .i64 d.hook] 26)).alloc (.cells #[.int .i64 d.kind, .string d.type, .int .i64 d.hook] 60) := ⟨_, rfl⟩
  rw [← hW1]
  have HBW : Hid (Below w.heap.size w W1) := by rw [hW1]; exact (Below.new _).push _
  have hx0 : W1.cell? ⟨w.heap.size, 0, none⟩ = some (.int .i64 d.kind) := by rw [hW1]; simp
  have hx2 : W1.cell? ⟨w.heap.size, 2, none⟩ = some (.int .u64 d.bits) := by rw [hW1]; simp
  have hx5 : W1.cell? ⟨w.heap.size, 5, none⟩ = some (.slice a5 d.names.length c5) := by rw [hW1]; simp
  have hy0 : W1.cell? ⟨w.heap.size + 1, 0, none⟩ = some (.int .i64 d.kind) := by rw [hW1]; simp
  have hy1 : W1.cell? ⟨w.heap.size + 1, 1, none⟩ = some (.string d.type) := by rw [hW1]; simp
  have hy2 : W1.cell? ⟨w.heap.size + 1, 2, none⟩ = some (.int .i64 d.hook) := by rw [hW1]; simp
  have HX0 := Lib.hid hx0
  have HX2 := Lib.hid hx2
  have HX5 := Lib.hid hx5
  have HY0 := Lib.hid hy0
  have HY1 := Lib.hid hy1
  have HY2 := Lib.hid hy2
  have hzW : w.heap.size + 1 < W1.heap.size := by rw [hW1]; simp
  have hp1 := HPP.out.below HBW.out
  obtain ⟨ps, hps⟩ : ∃ ps, ps = d.parts := ⟨_, rfl⟩
  rw [← hps] at hp1 IH hlen HM ⊢
  have HPS := Lib.hid hps
  have HP := Lib.hid hp1
  clear hW1 hx0 hx2 hx5 hy0 hy1 hy2 hp1 hps HPP
  go_loopw [5, 19] (fun v k wr => ∃ (us : List Value) (xs : List V), k = .int .i64 (us.length : Int) ∧ us.length ≤ ps.length ∧ Hid (mkL (ps.take us.length) = some xs) ∧ Hid (Vals W1 v us xs wr)) (fun _ k _ => ps.length - (intOf k).toNat)
  case atStart => exact ⟨[], [], rfl, Nat.zero_le _, by simp only [List.length_nil, List.take_zero]; rfl, Vals.start W1⟩
  case round =>
    obtain ⟨us, xs, rfl, hle, HL, HV⟩ := hrel
    have hzr := HV.out.lo.size
    have HBr := Lib.hid HV.out.lo
    by_cases hin : us.length < ps.length
    · obtain ⟨b, o, p5, q5, p6, q6, rfl, hrow, hD⟩ := HP.out.elem HBr.out hin
      obtain ⟨k0, k1, k2, k3, k4, k5, k6, k7⟩ := hrow
      have HX := Lib.hid hD
      have HIH := Lib.hid (IH.out ps[us.length] (List.getElem_mem _))
      have hmk : ps.take (us.length + 1) = ps.take us.length ++ [ps[us.length]] := List.take_succ_eq_append_getElem hin
      have hsp : ps = ps.take us.length ++ ps[us.length] :: ps.drop (us.length + 1) := by rw [← List.drop_eq_getElem_cons hin]; exact (List.take_append_drop _ _).symm
      have HMK := Lib.hid hmk
      have HSP := Lib.hid hsp
      clear hD hmk hsp
      obtain ⟨x, hx⟩ : ∃ x, x = ps[us.length] := ⟨_, rfl⟩
      rw [← hx] at k0 k1 k2 k3 k4 k5 k6 k7 HX HIH HMK HSP
      unfold aggD at HX
      clear hx
      obtain ⟨n, hn⟩ : ∃ n, n = us.length := ⟨_, rfl⟩
      have HN := Lib.hid hn
      rw [← hn] at hin hle k0 k1 k2 k3 k4 k5 k6 k7 HL HMK HSP
      rw [← hn]
      clear hn
      cases hmx : mkV x with
      | none =>
        have HMX := Lib.hid hmx
        clear hmx
        go_wp2_with fail
        refine (made_none HMX.out (HIH.out _ _ (HX.out.later (Below.new _)))).mono ?_
        rintro e w3 ⟨rfl, hB3⟩
        have HB3 := Lib.hid (HBW.out.next ((HBr.out.push _).next hB3))
        clear hB3 k0 k1 k2 k3 k4 k5 k6 k7 HX HIH
        go_wp2_with fail
        refine ⟨rfl, ?_⟩
        show MadePost _ _ (thrown 5) _
        unfold MadePost
        rw [HM.out, HSP.out, mkL_none _ _ _ HMX.out]
        exact ⟨rfl, HB3.out⟩
      | some y =>
        have HMX := Lib.hid hmx
        clear hmx
        go_wp2_with fail
        refine (made_some HMX.out (HIH.out _ _ (HX.out.later (Below.new _)))).mono ?_
        rintro e w3 ⟨hB3, t, u, rfl, hu⟩
        have HV3 := Lib.hid ((HV.out.later (Below.new _)).later hB3)
        have HU := Lib.hid hu
        have hz3 : wr.heap.size < w3.heap.size := by have := hB3.size; simp at this; omega
        have HVo := Lib.hid (fun g (hg : u5.ownBlock = some g) => (HV.out.own.lt g hg).2)
        clear hB3 hu k0 k1 k2 k3 k4 k5 k6 k7 HX HIH
        have hown := HV3.out.own
        rw [← HN.out] at hown
        have HO := Lib.hid (hown.alloc (.cells #[.iface t u] 28))
        have hbase : W1.heap.size ≤ (w3.alloc (.cells #[.iface t u] 28)).heap.size := by simp; omega
        clear hown
        go_wp2_with (at_builtin; refine wpList_append_one _ rfl (.tmp 23) (.tmp 26) 73 rfl W1.heap.size 28 i0 .nilIface 1 16 Tryz.underlying73 hi0 hz0 hz1 hz2 rfl (by decide) _ _ _ rfl HO.out ⟨w3.heap.size, 0, none⟩ 1 [.iface t u] rfl rfl ?c1 ?c2 ?c3 ?c4 hbase ?_)
        case c1 =>
          intro j u' hj
          match j, hj with
          | 0, hj => simp at hj; subst hj; simp [Addr.add]
        case c2 => intro u' hu'; simp at hu'; subst hu'; rfl
        case c3 => unfold maxLen; omega
        case c4 => omega
        intro v' w4 hown' hgrow hlast
        have HV4 : Hid (Vals W1 v' (us ++ [.iface t u]) (xs ++ [y]) w4) := by
          refine (HV3.out.later (Below.new (w := w3) (.cells #[.iface t u] 28))).push ?_ (by rw [← HN.out]; exact hown') hgrow (by simpa using hlast)
          refine HU.out.keep fun k hk hk' => ⟨⟨by simp at hk'; omega, by simp; omega, fun e => ?_⟩, (Below.new _).block k hk⟩
          have := HVo.out k e
          simp at hk'; omega
        have HL4 : Hid (mkL (ps.take (us ++ [Value.iface t u]).length) = some (xs ++ [y])) := by
          show _ = _
          rw [List.length_append, List.length_singleton, ← HN.out, HMK.out]
          exact mkL_snoc _ _ HL.out HMX.out
        have hln : (us ++ [Value.iface t u]).length = n + 1 := by rw [List.length_append, List.length_singleton, ← HN.out]
        have HLN := Lib.hid hln
        clear hown' hgrow hlast hln HO HVo HU HV3 HV HL
        go_wp2_with fail
        go_roundw
        case rel => exact ⟨us ++ [.iface t u], xs ++ [y], by rw [HLN.out]; go_num, by rw [HLN.out]; omega, HL4, HV4⟩
        case measure => simp [intOf]; omega
    · have hle2 : us.length = ps.length := by omega
      have HLen := Lib.hid hle2
      have hL2 := HL.out
      rw [hle2, List.take_length] at hL2
      have HL2 := Lib.hid hL2
      have HML : Hid (mkV d = greatV d xs) := by show _ = _; rw [HM.out, hL2]; rfl
      clear hle2 hL2 HL HM IH HP
      obtain ⟨a, c, rfl⟩ := HV.out.slice
      obtain ⟨bb, hb1, hb2, hb3⟩ := HV.out.cells
      have hzb : w.heap.size + 1 < wr.heap.size := by omega
      have HB1 := Lib.hid hb1
      have HB3 := Lib.hid hb3
      have hlen' : us.length < 1000 := by omega
      obtain ⟨_, hcn, bn, on, hn1, hn2, hn3⟩ := HNN.out
      have HN1 := Lib.hid hn1
      have HN2 := Lib.hid hn2
      have HN3 := Lib.hid hn3
      have hnl : d.names.length = us.length := by rw [HLNN.out, ← HPS.out]; exact HLen.out.symm
      have HNL := Lib.hid hnl
      have hx5 := cell_below HBr.out HX5.out
      have hx0 := cell_below HBr.out HX0.out
      have hy0 := cell_below HBr.out HY0.out
      have hy1 := cell_below HBr.out HY1.out
      have hy2 := cell_below HBr.out HY2.out
      rw [hnl] at hx5
      rw [← HLen.out, hnl]
      have HBA := Lib.hid (HBW.out.next HBr.out)
      clear hb1 hb3 hn1 hn2 hn3 HX0 HX2 HX5 HY0 HY1 HY2 hnl hin hle
      obtain ⟨n, hn⟩ : ∃ n, n = us.length := ⟨_, rfl⟩
      rw [← hn] at hx5 hlen' hb2
      rw [← hn]
      have HN := Lib.hid hn
      clear hn
      obtain ⟨wo, rfl⟩ : ∃ wo : World, wo = wr := ⟨_, rfl⟩
      go_wp2_with fail
      have hsz2 : n ≤ 9223372036854775807 := by omega
      go_loopw [10, 11, 38] (fun _ _ k wq => ∃ (i : Nat) (v : Value), k = .int .i64 (i : Int) ∧ i ≤ n ∧ Hid (SInv wo d d.names us i v wq)) (fun _ _ k _ => n - (intOf k).toNat)
      case atStart => exact ⟨0, _, rfl, Nat.zero_le _, SInv.start wo d d.names us⟩
      case round =>
        obtain ⟨i, v, rfl, hi, HS⟩ := hrel
        have HBq := Lib.hid (HS.out.lo)
        have HXX5 := Lib.hid hx5
        have hx5q := cell_below HBq.out hx5
        by_cases hin : i < n
        · have hiu : i < us.length := by rw [← HN.out]; exact hin
          have hid : i < d.names.length := by rw [HNL.out]; exact hiu
          obtain rfl : a5 = some ⟨bn, on, none⟩ := HN1.out (by omega)
          obtain ⟨rfl, hbb⟩ := HB1.out (by omega)
          have hnm := cell_below HBq.out (cell_below HBA.out (HN2.out i hid))
          have hus := cell_below HBq.out (HB3.out i hiu)
          obtain ⟨t, y, hty⟩ := HV.out.iface us[i] (List.getElem_mem _)
          rw [hty] at hus
          have hnsz := HN3.out d.names[i] (List.getElem_mem _)
          have HTY := Lib.hid hty
          obtain ⟨nm, hnmd⟩ : ∃ nm, nm = d.names[i] := ⟨_, rfl⟩
          rw [← hnmd] at hnm hnsz
          have HNM := Lib.hid hnmd
          have hkey := WideMaps.keyOf_string_mk (P := Tryz.prog) Tryz.underlying9 (s := nm) (by unfold cap47 at hnsz; unfold maxLen; omega)
          have HKEY := Lib.hid hkey
          clear hnmd hkey hnsz hx5
          by_cases hmem : nm ∈ d.names.take i
          · have HMEM := Lib.hid hmem
            clear hmem
            go_wp2_with (at_lookup; refine wpList_lookup_own_int _ rfl _ _ 149 rfl 9 3 .i64 law9 Tryz.underlying149 Tryz.underlying3 (zero3 _) (wo.heap.size + 1) i _ rfl HS.out.map _ _ rfl HKEY.out ?_; intro c hat hwc; obtain rfl := Seen_1 hat HMEM.out; clear hat hwc)
            refine (must_bad 5 _).mono ?_
            rintro e w2 ⟨rfl, rfl⟩
            go_wp2_with fail
            refine ⟨rfl, ?_⟩
            show MadePost _ _ (thrown 5) _
            unfold MadePost
            have hnone : greatV d xs = none := by
              unfold greatV
              rw [if_pos HK.out, if_neg (not_nodup hid (by rw [← HNM.out]; exact HMEM.out))]
            rw [HML.out, hnone]
            exact ⟨rfl, HBA.out.next HBq.out⟩
          · have HMEM := Lib.hid hmem
            clear hmem
            go_wp2_with (first
              | (at_lookup; refine wpList_lookup_own_int _ rfl _ _ 149 rfl 9 3 .i64 law9 Tryz.underlying149 Tryz.underlying3 (zero3 _) (wo.heap.size + 1) i _ rfl HS.out.map _ _ rfl HKEY.out ?_; intro c hat hwc; obtain rfl := Seen_0 hat HMEM.out; clear hat hwc)
              | (go_at_call 30; (with_reducible refine (must_ok 5 _).mono ?_); rintro e w2 ⟨rfl, rfl⟩)
              | (at_mapUpdate; refine wpList_mapUpdate_own _ rfl _ _ _ 149 rfl 9 3 law9 Tryz.underlying149 _ (wo.heap.size + 1) i _ rfl HS.out.map (by unfold maxLen; omega) _ _ _ rfl rfl HKEY.out _ [] (plainElem_int Tryz.underlying3 (by decide)) ?_; intro w5 hown5 hgrow5))
            obtain ⟨k3, kf3, hrow5, hlo5, _, _, _⟩ := HS.out.named hgrow5
            have hx5' := cell_below hlo5 HXX5.out
            have hnm' := cell_below hlo5 (cell_below HBA.out (HN2.out i hid))
            rw [← HNM.out] at hnm'
            have hnv : ∀ k, k < wo.heap.size + 2 → v.ownBlock ≠ some k := fun k hk e => by have := hrow5.lt _ e; omega
            have hM5 := hown5.lt
            have HO5 := Lib.hid hown5
            have HG5 := Lib.hid hgrow5
            have HR5 := Lib.hid hrow5
            have HL5 := Lib.hid hlo5
            have HNV := Lib.hid hnv
            have HUS := Lib.hid hus
            have hi0 : (0 : Int) ≤ (i : Int) := Int.natCast_nonneg _
            have hi1 : (i : Int) < (n : Int) := by omega
            have hmx : i + 1 ≤ maxLen := by unfold maxLen; omega
            have hbx : (i + 1) * 32 ≤ 140737488355328 := by omega
            have l1 := World.block_lt_of_cell? w5 _ k3
            have l2 := World.block_lt_of_cell? w5 _ hx5'
            have l3 := World.block_lt_of_cell? w5 _ hnm'
            clear hown5 hgrow5 hrow5 hlo5 hnv hus hnm hx5q
            go_region_law ((refine step_append_lies _ (by rfl) _ _ _ (by rfl) (wo.heap.size + 2) 117 j0 _ 2 32 Tryz.underlying97 hj0 hjz0 hjz1 hjz2 rfl (by omega) v i _ (by rfl) ((HR5.out.alloc _).drew) ⟨w5.heap.size, 0, none⟩ 1 1 [.string nm, .iface t y] (by rfl) (by rfl) (World.news_of_block (cs := #[.string nm, .iface t y]) (t := 117) (fr := (0, 0)) (heap_alloc_new w5 _)) (by simp [Value.oneCell']) (by omega) hmx hbx (by simp; omega) (w5.heap.size + 1) (by simp) ?_; intro gg cap w6 hown6 hgrow6 hat6 hlt6; have bS6 : w6.heap[wo.heap.size]? = w5.heap[wo.heap.size]? := (hgrow6.block _ (by simp; omega) (fun e => HNV.out _ (by omega) e.symm)).trans (Below.heap_alloc w5 _ _ l1); have q3 := cell_block bS6 k3; have qf := (frozen_block (o := 3) bS6).trans kf3; clear bS6))
            all_goals
              have HSN : Hid (SInv wo d d.names us (i + 1) (.slice (some ⟨gg, 0, none⟩) (i + 1) cap) (w6.setCell ⟨wo.heap.size, 3, none⟩ (.slice (some ⟨gg, 0, none⟩) (i + 1) cap))) :=
                HS.out.next hid hiu HNM.out HTY.out HMEM.out HO5.out HG5.out ((Below.new _).drew) hown6 hgrow6
              clear hown6 hgrow6 hat6 hlt6 q3 qf k3 kf3 hnm' hx5'
              go_wp2_with fail
              go_roundw
              case rel => exact ⟨i + 1, _, by go_num, by omega, HSN⟩
              case measure => simp [intOf]; omega
        · obtain rfl : i = n := by omega
          obtain ⟨av, cv, rfl, hfin, hnd⟩ := HS.out.done HV.out (by rw [HN.out, HNL.out]) HN.out hlen'
          have HFIN := Lib.hid hfin
          have HND := Lib.hid hnd
          obtain ⟨s0, s1, s2, s3, f3, _, _, _, _⟩ := HS.out
          clear hfin hnd
          go_wp2_with fail
          refine bodyPost_ret (v := .iface 99 (.agg #[.int .i64 d.kind, .string d.type, .int .i64 d.hook, .slice av i cv])) (by simp [results, Tryz.f58, go_sem]) rfl ?_
          unfold MadePost
          have hsm : greatV d xs = some (.great .struct d.base 0 d.names xs) := by
            unfold greatV
            rw [if_pos HK.out, if_pos HND.out]
          rw [HML.out, hsm]
          exact ⟨HBA.out.next HBq.out, _, _, rfl, HFIN.out.mono fun k _ hk => by omega⟩
end Go.Proofs.YtkpfeodffhfejaaGreatDoor

/- Two neighbouring ranges exchanged; an insertion; the comparison of two entries. -/
namespace Go.Proofs.YtkpfeodffhfejaaGreatDoor
set_option linter.unusedVariables false
set_option maxRecDepth 1000000
open Go.RowKit

set_option maxHeartbeats 2000000 in
theorem rotate_any {W0 : World} {B g n : Nat} (f : Nat → Ent) (a m b cap : Nat) (w : World) (h : St W0 B g n f w) (h1 : a < m) (h2 : m < b) (h3 : b ≤ n) (hn : n < 1000) :
    Calls Tryz.prog 166 #[.slice (some ⟨g, 0, none⟩) n cap, .int .i64 a, .int .i64 m, .int .i64 b, .func (.func 87) #[] #[]] w fun e w' => e = .returned (.tuple #[]) ∧ St W0 B g n (rot f a m b) w' := by
  have HS := Lib.hid h
  clear h
  go_enter Tryz.func166, Tryz.ntmps166
  go_wp2_with fail
  go_loopw [10, 11] (fun vi vj wr => ∃ (i j : Nat) (q : Nat → Ent), vi = .int .i64 i ∧ vj = .int .i64 j ∧ 1 ≤ i ∧ i ≤ m ∧ 1 ≤ j ∧ m + j ≤ n ∧ Hid (rot q (m - i) m (m + j) = rot f a m b) ∧ Hid (St W0 B g n q wr)) (fun vi vj _ => (intOf vi).toNat + (intOf vj).toNat)
  case atStart =>
    refine ⟨m - a, b - m, f, by go_num, by go_num, by omega, by omega, by omega, by omega, ?_, HS.out⟩
    rw [show m - (m - a) = a by omega, show m + (b - m) = b by omega]; rfl
  case round =>
    obtain ⟨i, j, q, rfl, rfl, hi1, him, hj1, hjn, HR, HI⟩ := hrel
    by_cases hne : i = j
    · subst hne
      go_wp2_with fail
      have e1 : (m : Int) - (i : Int) = ((m - i : Nat) : Int) := by omega
      rw [e1]
      refine (swapRange_any q (m - i) m i cap _ HI.out (by omega) hjn hn).mono ?_
      rintro e w1 ⟨rfl, h1⟩
      have H1 := Lib.hid h1
      clear h1
      go_wp2_with fail
      go_end0
      exact ⟨rfl, by rw [← HR.out, rot_even q m i him]; exact H1.out⟩
    · by_cases hlt : j < i
      · go_wp2_with fail
        have e1 : (m : Int) - (i : Int) = ((m - i : Nat) : Int) := by omega
        rw [e1]
        refine (swapRange_any q (m - i) m j cap _ HI.out (by omega) hjn hn).mono ?_
        rintro e w1 ⟨rfl, h1⟩
        have H1 := Lib.hid h1
        clear h1
        go_wp2_with fail
        go_roundw
        case rel =>
          refine ⟨i - j, j, _, by go_num, rfl, by omega, by omega, hj1, hjn, ?_, H1.out⟩
          show _ = _
          rw [← HR.out]; exact rot_left q m i j him hlt
        case measure => simp [intOf]; omega
      · go_wp2_with fail
        have e1 : (m : Int) - (i : Int) = ((m - i : Nat) : Int) := by omega
        have e2 : (m : Int) + (j : Int) - (i : Int) = ((m + j - i : Nat) : Int) := by omega
        rw [e1, e2]
        refine (swapRange_any q (m - i) (m + j - i) i cap _ HI.out (by omega) (by omega) hn).mono ?_
        rintro e w1 ⟨rfl, h1⟩
        have H1 := Lib.hid h1
        clear h1
        go_wp2_with fail
        go_roundw
        case rel =>
          refine ⟨i, j - i, _, rfl, by go_num, hi1, him, by omega, by omega, ?_, H1.out⟩
          show _ = _
          rw [← HR.out]; exact rot_right q m i j him (by omega)
        case measure => simp [intOf]; omega

/-- The order of two keys. -/
def ordL (a b : Leaf) : Int := ordV (.leaf a) (.leaf b)
theorem cmp71 (x y : Ent) (hx : (V.leaf x.k).ok) (hy : (V.leaf y.k).ok) (w : World) :
    Calls Tryz.prog 87 #[.agg #[.iface x.k.ty x.k.body, .iface x.t x.y], .agg #[.iface y.k.ty y.k.body, .iface y.t y.y]] w fun e w' => e = .returned (.int .i64 (ordL x.k y.k)) ∧ Below w.heap.size w w' := by
  obtain ⟨kx, tx, yx⟩ := x
  obtain ⟨ky, ty, yy⟩ := y
  show Calls Tryz.prog 87 #[.agg #[.iface kx.ty kx.body, .iface tx yx], .agg #[.iface ky.ty ky.body, .iface ty yy]] w fun e w' => e = .returned (.int .i64 (ordL kx ky)) ∧ Below w.heap.size w w'
  have HX := Lib.hid hx
  have HY := Lib.hid hy
  obtain ⟨c, hc⟩ : ∃ c, c = ordL kx ky := ⟨_, rfl⟩
  rw [← hc]
  have HC := Lib.hid hc
  obtain ⟨t1, ht1⟩ : ∃ v, v = kx.ty := ⟨_, rfl⟩
  obtain ⟨t2, ht2⟩ : ∃ v, v = ky.ty := ⟨_, rfl⟩
  obtain ⟨b1, hb1⟩ : ∃ v, v = kx.body := ⟨_, rfl⟩
  obtain ⟨b2, hb2⟩ : ∃ v, v = ky.body := ⟨_, rfl⟩
  rw [← ht1, ← ht2, ← hb1, ← hb2]
  have H1 := Lib.hid ht1
  have H2 := Lib.hid ht2
  have H3 := Lib.hid hb1
  have H4 := Lib.hid hb2
  clear hx hy hc ht1 ht2 hb1 hb2
  go_enter Tryz.func87, Tryz.ntmps87
  go_wp2_with fail
  have hv1 : ∀ W : World, IsV W (.iface t1 b1) (.leaf kx) := fun W => by rw [H1.out, H3.out, ← Leaf.val_eq]; exact .leaf kx
  have hv2 : ∀ W : World, IsV W (.iface t2 b2) (.leaf ky) := fun W => by rw [H2.out, H4.out, ← Leaf.val_eq]; exact .leaf ky
  refine (order_any (hv1 _) (hv2 _) HX.out HY.out).mono ?_
  unfold OrdPost
  rintro e w1 ⟨rfl, hB⟩
  have HB := Lib.hid hB
  clear hB hv1 hv2
  go_wp2_with fail
  go_ret
  exact ⟨by rw [HC.out]; rfl, ((Below.new _).push _).next HB.out⟩
end Go.Proofs.YtkpfeodffhfejaaGreatDoor

/- The order of keys, without Go: a lexicographic comparison. No condition. -/
namespace Go.Proofs.YtkpfeodffhfejaaGreatDoor
set_option linter.unusedVariables false
set_option maxRecDepth 1000000
open Go.RowKit

/-- A comparison: of whatever two things one comes first, or both are alike. -/
structure TotCmp {α : Type} (c : α → α → Int) : Prop where
  anti : ∀ x y, c y x = - c x y
  trans : ∀ x y z, c x y ≤ 0 → c y z ≤ 0 → c x z ≤ 0
theorem TotCmp.self {α : Type} {c : α → α → Int} (h : TotCmp c) (x : α) : c x x = 0 := by have := h.anti x x; omega
theorem TotCmp.zero {α : Type} {c : α → α → Int} (h : TotCmp c) {x y z : α} (h1 : c x y ≤ 0) (h2 : c y z ≤ 0) (h3 : c x z = 0) : c x y = 0 ∧ c y z = 0 := by
  have a1 := h.anti x z
  have a2 := h.trans y z x h2 (by omega)
  have a3 := h.anti x y
  have b2 := h.trans z x y (by omega) h1
  have b3 := h.anti y z
  omega
def lexC {α : Type} (c d : α → α → Int) (x y : α) : Int := if c x y = 0 then d x y else c x y
theorem TotCmp.lex {α : Type} {c d : α → α → Int} (h : TotCmp c) (k : TotCmp d) : TotCmp (lexC c d) where
  anti x y := by
    have a := h.anti x y
    have b := k.anti x y
    unfold lexC
    split <;> split <;> omega
  trans x y z := by
    have a := h.trans x y z
    have b := k.trans x y z
    have e := h.zero (x := x) (y := y) (z := z)
    unfold lexC
    intro h1 h2
    have c1 : c x y ≤ 0 := by split at h1 <;> omega
    have c2 : c y z ≤ 0 := by split at h2 <;> omega
    split
    · rename_i c3
      have := e c1 c2 c3
      rw [if_pos this.1] at h1
      rw [if_pos this.2] at h2
      exact b h1 h2
    · exact a c1 c2
theorem TotCmp.pull {α β : Type} {c : α → α → Int} (h : TotCmp c) (f : β → α) : TotCmp fun x y => c (f x) (f y) := ⟨fun x y => h.anti _ _, fun x y z => h.trans _ _ _⟩
theorem totI : TotCmp cmpI := by
  constructor
  · intro x y; unfold cmpI; split <;> split <;> omega
  · intro x y z; unfold cmpI; split <;> split <;> split <;> omega
theorem compareBytes_anti : ∀ a b, Lib.compareBytes b a = - Lib.compareBytes a b
  | [], [] => rfl
  | [], _ :: _ => rfl
  | _ :: _, [] => rfl
  | x :: l, y :: m => by
    unfold Lib.compareBytes
    have := compareBytes_anti l m
    simp only [UInt8.lt_iff_toNat_lt]
    split <;> split <;> first | omega | (split <;> omega)
theorem compareBytes_trans : ∀ a b c, Lib.compareBytes a b ≤ 0 → Lib.compareBytes b c ≤ 0 → Lib.compareBytes a c ≤ 0
  | [], [], _ => fun _ h => h
  | [], _ :: _, [] => fun _ _ => by simp [Lib.compareBytes]
  | [], _ :: _, _ :: _ => fun _ _ => by simp [Lib.compareBytes]
  | _ :: _, [], _ => fun h _ => by simp [Lib.compareBytes] at h
  | x :: l, y :: m, [] => fun _ h => by simp [Lib.compareBytes] at h
  | x :: l, y :: m, z :: n => by
    unfold Lib.compareBytes
    have := compareBytes_trans l m n
    simp only [UInt8.lt_iff_toNat_lt]
    intro h1 h2
    split
    · omega
    · split
      · rename_i h3 h4
        split at h1
        · split at h2
          · omega
          · split at h2 <;> omega
        · split at h1
          · omega
          · split at h2
            · omega
            · split at h2 <;> omega
      · rename_i h3 h4
        split at h1
        · split at h2
          · omega
          · split at h2 <;> omega
        · split at h1
          · omega
          · split at h2
            · omega
            · split at h2
              · omega
              · exact this h1 h2
theorem totB : TotCmp Lib.compareBytes := ⟨compareBytes_anti, compareBytes_trans⟩
theorem totS : TotCmp cmpS := totB.pull fun x : ByteArray => x.data.toList
theorem compareBytes_zero : ∀ a b, Lib.compareBytes a b = 0 → a = b
  | [], [] => fun _ => rfl
  | [], _ :: _ => fun h => by simp [Lib.compareBytes] at h
  | _ :: _, [] => fun h => by simp [Lib.compareBytes] at h
  | x :: l, y :: m => by
    unfold Lib.compareBytes
    intro h
    split at h
    · omega
    · split at h
      · omega
      · rename_i h1 h2
        have : x = y := by
          apply UInt8.toNat_inj.1
          simp only [UInt8.lt_iff_toNat_lt] at h1 h2
          omega
        rw [this, compareBytes_zero l m h]
theorem compareBytes_range : ∀ a b, Lib.compareBytes a b = -1 ∨ Lib.compareBytes a b = 0 ∨ Lib.compareBytes a b = 1
  | [], [] => by simp [Lib.compareBytes]
  | [], _ :: _ => by simp [Lib.compareBytes]
  | _ :: _, [] => by simp [Lib.compareBytes]
  | x :: l, y :: m => by
    unfold Lib.compareBytes
    split
    · omega
    · split
      · omega
      · exact compareBytes_range l m
theorem cmpS_zero {a b : ByteArray} : cmpS a b = 0 ↔ a = b := by
  constructor
  · intro h
    have := compareBytes_zero _ _ h
    apply ByteArray.ext
    apply Array.toList_inj.1
    exact this
  · rintro rfl; exact totS.self _
theorem cmpI_zero {a b : Int} : cmpI a b = 0 ↔ a = b := by unfold cmpI; split <;> (try split) <;> omega
theorem cmpI_range (a b : Int) : cmpI a b = -1 ∨ cmpI a b = 0 ∨ cmpI a b = 1 := by unfold cmpI; split <;> (try split) <;> omega
theorem cmpS_range (a b : ByteArray) : cmpS a b = -1 ∨ cmpS a b = 0 ∨ cmpS a b = 1 := compareBytes_range _ _
theorem lexC_zero {α : Type} {c d : α → α → Int} {x y : α} : lexC c d x y = 0 ↔ c x y = 0 ∧ d x y = 0 := by unfold lexC; split <;> simp_all

def Leaf.num : Leaf → Int
  | .bool _ v => if v then 1 else 0
  | .int _ x | .uint _ x => x
  | _ => 0
def Leaf.txt : Leaf → ByteArray
  | .text _ s => s
  | _ => ⟨#[]⟩
/-- May it be a key? -/
def Leaf.keyed : Leaf → Bool
  | .bool _ _ | .int _ _ | .uint _ _ | .text _ _ => true
  | _ => false
def Leaf.nam (l : Leaf) : ByteArray := if l.keyed then l.base.name else ⟨#[]⟩
def cmpK : Leaf → Leaf → Int := lexC (fun x y => cmpI x.base.kind y.base.kind) (lexC (fun x y => cmpI x.num y.num) (lexC (fun x y => cmpS x.txt y.txt) fun x y => cmpS x.nam y.nam))
theorem totK : TotCmp cmpK := (totI.pull fun x : Leaf => x.base.kind).lex ((totI.pull Leaf.num).lex ((totS.pull Leaf.txt).lex (totS.pull Leaf.nam)))
theorem cmpS_self (a : ByteArray) : cmpS a a = 0 := totS.self a
theorem cmpI_self (a : Int) : cmpI a a = 0 := totI.self a
theorem ordL_eq {x y : Leaf} (hx : (V.leaf x).ok) (hy : (V.leaf y).ok) : ordL x y = cmpK x y := by
  unfold ordL ordV cmpK lexC
  by_cases hk : x.base.kind = y.base.kind
  · have hk' : ¬ (V.leaf x).base.kind ≠ (V.leaf y).base.kind := fun h => h hk
    rw [if_neg hk', if_pos (cmpI_zero.2 hk)]
    cases x <;> cases y <;> simp only [V.ok, Leaf.base] at hx hy hk <;> (first | (exfalso; omega) | skip) <;>
      simp [Leaf.num, Leaf.txt, Leaf.nam, Leaf.keyed, andThenName, V.base, Leaf.base, cmpS_self, cmpI_self]
    rename_i p a q b
    cases a <;> cases b <;> simp [cmpI]
  · have hk' : (V.leaf x).base.kind ≠ (V.leaf y).base.kind := hk
    rw [if_pos hk', if_neg (fun h => hk (cmpI_zero.1 h))]; rfl

/-- The entries' order. -/
def ltE (x y : Ent) : Prop := cmpK x.k y.k < 0
theorem ordE : Ordr ltE where
  asym a b h := by have := totK.anti a.k b.k; unfold ltE at *; omega
  trans a b c h1 h2 := by
    have := totK.trans a.k b.k c.k
    have a1 := totK.anti a.k b.k
    have a2 := totK.anti b.k c.k
    have a3 := totK.anti a.k c.k
    unfold ltE at *; omega
end Go.Proofs.YtkpfeodffhfejaaGreatDoor
