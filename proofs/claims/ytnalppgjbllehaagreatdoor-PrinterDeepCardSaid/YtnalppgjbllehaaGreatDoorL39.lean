/- A format is printed: printer's Format. Condition: the state of a print lies in its block; of what Show says nothing more is asked than ShowH; pieces that are open are not printed here. -/
import Derived.Test.YtnalppgjbllehaaGreatDoorL38
namespace Go.Proofs.YtnalppgjbllehaaGreatDoor
set_option linter.unusedVariables false
set_option linter.unusedSimpArgs false
open Go.RowKit

set_option maxHeartbeats 4000000 in
set_option maxRecDepth 1000000 in
theorem format_any {WB : World} {sb : Nat} {bv : Value} {depth : Int} {tab av : Value} {us : List Value} {xs : List V} {w : World} (t : ByteArray) (sh : V → SpecD → Option ByteArray) (s0 s' : PrS)
    (hs : StW WB sb s0.out bv depth tab av s0.next s0.re w) (ha : ArgsW WB sb av us xs) (hsh : ShowH WB sb depth tab av sh) (hT : Lib.Utf8Tabs 1 2 w) (ht : t.size ≤ 1000000)
    (hty : ∀ x ∈ xs, (0 ≤ x.base.kind ∧ x.base.kind ≤ 22) ∧ (typeV x).size ≤ 1000000) (h0 : 0 ≤ s0.next) (h1 : s0.next ≤ 1000000000) (ho : s0.out.size ≤ 1000000000) (hf : formatP sh xs t s0 = some s') :
    Calls Tryz.prog 14 #[.pointer (some ⟨sb, 0, none⟩), .string t] w (DirPost WB sb depth tab av s' w) := by
  have HA := Lib.hid ha
  have HS := Lib.hid hs
  have HSH := Lib.hid hsh
  have HTY := Lib.hid hty
  have HT := Lib.hid hT
  have hlt := hs.lt
  have HLT := Lib.hid hlt
  clear ha hs hsh hT hty
  obtain ⟨l, hl⟩ : ∃ l, parseD t = l := ⟨_, rfl⟩
  have HOK : Hid (∀ p ∈ l, PieceOk 1000001 p) := by
    rw [← hl]
    exact Lib.hid fun p hp => (parseF_ok t.size t t.size (Nat.le_refl _) p hp).mono (by omega)
  have hlen : l.length ≤ 1000000 := by
    rw [← hl]
    exact Nat.le_trans (parseF_len t.size t) ht
  obtain ⟨s1, hr1, hx1⟩ : ∃ s1, runP sh xs l s0 = some s1 ∧ extraP sh xs s1 = some s' := by
    unfold formatP at hf
    rw [hl] at hf
    cases hq : runP sh xs l s0 with
    | none => rw [hq] at hf; cases hf
    | some s1 => rw [hq] at hf; exact ⟨s1, rfl, hf⟩
  have HX1 := Lib.hid hx1
  have HPA : Hid (Calls Tryz.prog 20 #[.string t] w (ParsePost w t)) := Lib.hid (parse_any t w HT.out ht)
  unfold ParsePost at HPA
  rw [hl] at HPA
  have HSZ : Hid (ShSize sh) := ⟨fun h => HSH.out.size h⟩
  have HR1 := Lib.hid hr1
  have HO := Lib.hid ho
  have H01 := Lib.hid (And.intro h0 h1)
  clear hl hf hx1 ht hr1 ho h0 h1
  go_enter Tryz.func14, Tryz.ntmps14
  go_wp2_with fail
  refine HPA.out.mono ?_
  rintro e W1 ⟨pv, rfl, hown, hb1⟩
  have HF0 : Hid (FW WB sb depth tab av w sh xs l pv s0.out.size s1 0 s0 W1) :=
    ⟨⟨bv, HS.out.later hb1⟩, own_base hown HS.out.size, (Ke.refl sb w).below hb1, by rw [List.drop_zero]; exact HR1.out, H01.out.1, H01.out.2, by omega⟩
  obtain ⟨pa, pc, rfl⟩ := own_slice hown
  have HLEN := HA.out.len
  clear hown hb1 HPA
  obtain ⟨n, hn⟩ : ∃ n, l.length = n := ⟨_, rfl⟩
  have HN := Lib.hid hn
  rw [hn] at HF0 hlen ⊢
  clear hn
  go_wp2_with fail
  go_loopw [13] (fun k wr => ∃ (i : Nat) (s : PrS), k = .int .i64 (i : Int) ∧ i ≤ n ∧ Hid (FW WB sb depth tab av w sh xs l (.slice pa n pc) s0.out.size s1 i s wr)) (fun k _ => n - (intOf k).toNat)
  case atStart => exact ⟨0, s0, rfl, Nat.zero_le _, HF0⟩
  case round =>
    obtain ⟨i, s, rfl, hi, HF⟩ := hrel
    by_cases hin : i < n
    · have hil : i < l.length := by rw [HN.out]; exact hin
      obtain ⟨s2, hs2⟩ := HF.out.some_step hil
      obtain ⟨g, rfl, HRG⟩ : ∃ g, pa = some ⟨g, 0, none⟩ ∧ Hid (wr.rangeAt g (i * 20) (pieceCells l[i]).toList) := by
        rcases HF.out.row.2 with ⟨h, h2⟩ | ⟨g, cap, cur, h, _⟩
        · omega
        · injection h with h1 h2 h3
          subst h1
          refine ⟨g, rfl, ?_⟩
          have hrow := HF.out.row
          rw [← HN.out] at hrow
          exact Lib.hid (row_piece hrow i hil)
      have hok := HOK.out l[i] (List.getElem_mem _)
      have HST : Hid (∀ W', (∃ bv, StW WB sb s2.out bv depth tab av s2.next s2.re W') → Ke sb wr W' → FW WB sb depth tab av w sh xs l (.slice (some ⟨g, 0, none⟩) n pc) s0.out.size s1 (i + 1) s2 W') :=
        Lib.hid fun W' h1 h2 => HF.out.step hil hs2 HSZ.out (by rw [HA.out.len]; exact HA.out.room) hok h1 h2 HLT.out
      obtain ⟨p, hp⟩ : ∃ p, l[i] = p := ⟨_, rfl⟩
      rw [hp] at HRG hok hs2
      have HPOK := Lib.hid hok
      have HS2 := Lib.hid hs2
      clear hp hok hs2
      have HRG : Hid (wr.rangeAt g (i * 20) [.int .i64 p.kind, .string p.text, .bool p.spec.plus, .bool p.spec.minus, .bool p.spec.sharp, .bool p.spec.space, .bool p.spec.zero, .int .i64 p.spec.wid, .int .i64 p.spec.prec, .int .i32 p.spec.verb, .int .i64 p.wid.kind, .int .i64 p.wid.n, .int .i64 p.wid.arg.kind, .int .i64 p.wid.arg.n, .int .i64 p.prec.kind, .int .i64 p.prec.n, .int .i64 p.prec.arg.kind, .int .i64 p.prec.arg.n, .int .i64 p.arg.kind, .int .i64 p.arg.n]) := HRG
      have HNW := Lib.hid (heap_alloc_new wr (.cells #[.int .i64 0, .string ⟨#[]⟩, .bool false, .bool false, .bool false, .bool false, .bool false, .int .i64 0, .int .i64 0, .int .i32 0, .int .i64 0, .int .i64 0, .int .i64 0, .int .i64 0, .int .i64 0, .int .i64 0, .int .i64 0, .int .i64 0, .int .i64 0, .int .i64 0] 67))
      go_upto_region 3 with (first
        | (refine wpList_store_row (by rfl) 67 _ _ (by rfl) wr.heap.size #[.int .i64 p.kind, .string p.text, .bool p.spec.plus, .bool p.spec.minus, .bool p.spec.sharp, .bool p.spec.space, .bool p.spec.zero, .int .i64 p.spec.wid, .int .i64 p.spec.prec, .int .i32 p.spec.verb, .int .i64 p.wid.kind, .int .i64 p.wid.n, .int .i64 p.wid.arg.kind, .int .i64 p.wid.arg.n, .int .i64 p.prec.kind, .int .i64 p.prec.n, .int .i64 p.prec.arg.kind, .int .i64 p.prec.arg.n, .int .i64 p.arg.kind, .int .i64 p.arg.n] (by rfl) (by rfl) 67 #[.int .i64 0, .string ⟨#[]⟩, .bool false, .bool false, .bool false, .bool false, .bool false, .int .i64 0, .int .i64 0, .int .i32 0, .int .i64 0, .int .i64 0, .int .i64 0, .int .i64 0, .int .i64 0, .int .i64 0, .int .i64 0, .int .i64 0, .int .i64 0, .int .i64 0] ?_ (by kernel_rfl) (by rfl) (by simp [Value.oneCell']) ?_; (with_reducible exact HNW.out))
        | (refine wpList_load_mid (by rfl) 67 _ (by rfl) g (i * 20) (by rfl) [.int .i64 p.kind, .string p.text, .bool p.spec.plus, .bool p.spec.minus, .bool p.spec.sharp, .bool p.spec.space, .bool p.spec.zero, .int .i64 p.spec.wid, .int .i64 p.spec.prec, .int .i32 p.spec.verb, .int .i64 p.wid.kind, .int .i64 p.wid.n, .int .i64 p.wid.arg.kind, .int .i64 p.wid.arg.n, .int .i64 p.prec.kind, .int .i64 p.prec.n, .int .i64 p.prec.arg.kind, .int .i64 p.prec.arg.n, .int .i64 p.arg.kind, .int .i64 p.arg.n] _ ?_ Tryz.underlying67 (by rfl) (by kernel_rfl) ?_; (with_reducible exact HRG.out)))
      rw [World.setRow_alloc_new]
      have HK2 := Lib.hid ((Ke.refl sb wr).below (Below.new (w := wr) (.cells #[.int .i64 p.kind, .string p.text, .bool p.spec.plus, .bool p.spec.minus, .bool p.spec.sharp, .bool p.spec.space, .bool p.spec.zero, .int .i64 p.spec.wid, .int .i64 p.spec.prec, .int .i32 p.spec.verb, .int .i64 p.wid.kind, .int .i64 p.wid.n, .int .i64 p.wid.arg.kind, .int .i64 p.wid.arg.n, .int .i64 p.prec.kind, .int .i64 p.prec.n, .int .i64 p.prec.arg.kind, .int .i64 p.prec.arg.n, .int .i64 p.arg.kind, .int .i64 p.arg.n] 67)))
      have HPC : Hid ((wr.alloc (.cells #[.int .i64 p.kind, .string p.text, .bool p.spec.plus, .bool p.spec.minus, .bool p.spec.sharp, .bool p.spec.space, .bool p.spec.zero, .int .i64 p.spec.wid, .int .i64 p.spec.prec, .int .i32 p.spec.verb, .int .i64 p.wid.kind, .int .i64 p.wid.n, .int .i64 p.wid.arg.kind, .int .i64 p.wid.arg.n, .int .i64 p.prec.kind, .int .i64 p.prec.n, .int .i64 p.prec.arg.kind, .int .i64 p.prec.arg.n, .int .i64 p.arg.kind, .int .i64 p.arg.n] 67)).heap[wr.heap.size]? = some (.cells #[.int .i64 p.kind, .string p.text, .bool p.spec.plus, .bool p.spec.minus, .bool p.spec.sharp, .bool p.spec.space, .bool p.spec.zero, .int .i64 p.spec.wid, .int .i64 p.spec.prec, .int .i32 p.spec.verb, .int .i64 p.wid.kind, .int .i64 p.wid.n, .int .i64 p.wid.arg.kind, .int .i64 p.wid.arg.n, .int .i64 p.prec.kind, .int .i64 p.prec.n, .int .i64 p.prec.arg.kind, .int .i64 p.prec.arg.n, .int .i64 p.arg.kind, .int .i64 p.arg.n] 67 (0, 0))) := heap_alloc_new wr _
      obtain ⟨bvi, hsti⟩ := HF.out.st
      have HSI := Lib.hid (hsti.later (Below.new (w := wr) (.cells #[.int .i64 p.kind, .string p.text, .bool p.spec.plus, .bool p.spec.minus, .bool p.spec.sharp, .bool p.spec.space, .bool p.spec.zero, .int .i64 p.spec.wid, .int .i64 p.spec.prec, .int .i32 p.spec.verb, .int .i64 p.wid.kind, .int .i64 p.wid.n, .int .i64 p.wid.arg.kind, .int .i64 p.wid.arg.n, .int .i64 p.prec.kind, .int .i64 p.prec.n, .int .i64 p.prec.arg.kind, .int .i64 p.prec.arg.n, .int .i64 p.arg.kind, .int .i64 p.arg.n] 67)))
      have HNX := Lib.hid (And.intro HF.out.n0 HF.out.n1)
      have HOS : Hid (s.out.size ≤ 1100001000000000) := by
        have h1 := HF.out.out
        have h2 := HO.out
        show _ ≤ _
        have h3 : i * 1100000000 ≤ 1000000 * 1100000000 := Nat.mul_le_mul_right _ (by omega)
        omega
      obtain ⟨tb, htb⟩ : ∃ b, wr.heap.size = b := ⟨_, rfl⟩
      rw [htb] at HPC ⊢
      clear htb hsti HNW HRG
      generalize wr.alloc (.cells #[.int .i64 p.kind, .string p.text, .bool p.spec.plus, .bool p.spec.minus, .bool p.spec.sharp, .bool p.spec.space, .bool p.spec.zero, .int .i64 p.spec.wid, .int .i64 p.spec.prec, .int .i32 p.spec.verb, .int .i64 p.wid.kind, .int .i64 p.wid.n, .int .i64 p.wid.arg.kind, .int .i64 p.wid.arg.n, .int .i64 p.prec.kind, .int .i64 p.prec.n, .int .i64 p.prec.arg.kind, .int .i64 p.prec.arg.n, .int .i64 p.arg.kind, .int .i64 p.arg.n] 67) = W2 at HK2 HPC HSI ⊢
      have d0 : W2.cell? ⟨tb, 0, none⟩ = some (.int .i64 p.kind) := cell_of_heap' HPC.out 0
      have d1 : W2.cell? ⟨tb, 1, none⟩ = some (.string p.text) := cell_of_heap' HPC.out 1
      have hse := HS2.out
      unfold stepP at hse
      by_cases hk0 : p.kind = 0
      · rw [if_pos hk0] at hse
        obtain rfl := Option.some.inj hse
        have hk0' : (p.kind == 0) = true := by rw [hk0]; rfl
        have HPT : Hid (∀ W, StW WB sb s.out bvi depth tab av s.next s.re W → Calls Tryz.prog 21 #[.pointer (some ⟨sb, 0, none⟩), .string p.text] W (fun e w' => e = .returned (.tuple #[]) ∧ ∃ bv', StW WB sb (s.out ++ p.text) bv' depth tab av s.next s.re w' ∧ Fr sb bvi W w')) :=
          Lib.hid (fun W h => put_any p.text h (by have := HOS.out; have := HPOK.out.text; omega))
        have HSTd := Lib.hid (HSI.out.later (Below.refl _ W2).drew)
        have HKd := Lib.hid (HK2.out.below (Below.refl _ W2).drew)
        clear hse hk0
        go_upto_region 6 with fail
        go_region_with ((with_reducible refine (HPT.out _ HSTd.out).mono ?_); rintro e wb ⟨rfl, bvn, hstn, hfrn⟩; have HKd := Lib.hid (HKd.out.trans (hfrn.ke HSTd.out)); have HSTn := Lib.hid hstn; clear hstn hfrn)
        have HNF := Lib.hid (HST.out _ ⟨_, HSTn.out⟩ HKd.out)
        clear HPT d0 d1
        go_wp2_with fail
        go_roundw
        case rel => exact ⟨i + 1, _, by go_num, by omega, HNF⟩
        case measure => simp [intOf]; omega
      · have hk0' : (p.kind == 0) = false := by simpa using hk0
        rw [if_neg hk0] at hse
        by_cases hk1 : p.kind = 1
        · rw [if_pos hk1] at hse
          have hk2' : (p.kind == 2) = false := by rw [hk1]; rfl
          have HDI := Lib.hid (dirP_any (w := W2) p sh s2 HSI.out HA.out HSH.out HPOK.out.good ⟨by have := HPOK.out.wid; omega, by have := HPOK.out.wid; omega, by have := HPOK.out.prec; omega, by have := HPOK.out.prec; omega⟩ HNX.out.1 HNX.out.2 (by have := HOS.out; omega) hse)
          clear hse hk0 hk1
          go_wp2_with (refine wpList_load_row (by rfl) 67 _ (by rfl) tb (by rfl) 67 #[.int .i64 p.kind, .string p.text, .bool p.spec.plus, .bool p.spec.minus, .bool p.spec.sharp, .bool p.spec.space, .bool p.spec.zero, .int .i64 p.spec.wid, .int .i64 p.spec.prec, .int .i32 p.spec.verb, .int .i64 p.wid.kind, .int .i64 p.wid.n, .int .i64 p.wid.arg.kind, .int .i64 p.wid.arg.n, .int .i64 p.prec.kind, .int .i64 p.prec.n, .int .i64 p.prec.arg.kind, .int .i64 p.prec.arg.n, .int .i64 p.arg.kind, .int .i64 p.arg.n] (0, 0) _ ?_ Tryz.underlying67 (by rfl) (by kernel_rfl) ?_; (with_reducible exact HPC.out))
          refine HDI.out.mono ?_
          rintro e W3 ⟨rfl, hst3, hke3⟩
          have HNF := Lib.hid (HST.out _ hst3 (HK2.out.trans hke3))
          clear HDI d0 d1 hst3 hke3
          go_wp2_with fail
          go_roundw
          case rel => exact ⟨i + 1, _, by go_num, by omega, HNF⟩
          case measure => simp [intOf]; omega
        · rw [if_neg hk1] at hse
          cases hse
    · obtain rfl : i = n := by omega
      have hfw := HF.out
      rw [← HN.out] at hfw
      obtain rfl := hfw.done
      clear hfw hi hin
      obtain ⟨bv2, hst2⟩ := HF.out.st
      have HST2 := Lib.hid hst2
      have HKE := Lib.hid HF.out.ke
      have HNX := Lib.hid (And.intro HF.out.n0 HF.out.n1)
      have HOS : Hid (s.out.size ≤ 1100001000000000) := by
        have h1 := HF.out.out
        have h2 := HO.out
        show _ ≤ _
        have h3 : i * 1100000000 ≤ 1000000 * 1100000000 := Nat.mul_le_mul_right _ (by omega)
        omega
      obtain ⟨aa, ac, hav⟩ := own_slice HA.out.own
      have HAV := Lib.hid hav
      obtain ⟨m, hm⟩ : ∃ m, us.length = m := ⟨_, rfl⟩
      have HM := Lib.hid hm
      have k4 : wr.cell? ⟨sb, 4, none⟩ = some (.slice aa m ac) := by rw [← hm, ← hav]; exact cell_of_heap' hst2.blk 4
      have k5 : wr.cell? ⟨sb, 5, none⟩ = some (.int .i64 s.next) := cell_of_heap' hst2.blk 5
      have k6 : wr.cell? ⟨sb, 6, none⟩ = some (.bool s.re) := cell_of_heap' hst2.blk 6
      obtain ⟨o1, n1, r1⟩ := s
      have k5 : wr.cell? ⟨sb, 5, none⟩ = some (.int .i64 n1) := k5
      have k6 : wr.cell? ⟨sb, 6, none⟩ = some (.bool r1) := k6
      have hx := HX1.out
      unfold extraP at hx
      have HE0 : Hid (DirPost WB sb depth tab av ⟨o1, n1, r1⟩ w (.returned (.tuple #[])) wr.drew) := Lib.hid (DirPost.of ⟨⟨bv2, HST2.out.later (Below.refl _ wr).drew⟩, HKE.out.below (Below.refl _ wr).drew⟩)
      clear hst2 hav hm HF
      cases r1 with
      | true =>
        rw [if_pos (.inl rfl)] at hx
        obtain rfl := Option.some.inj hx
        clear hx
        go_upto_region 10 with fail
        go_region
        all_goals
          clear k4 k5 k6
          go_wp2_with fail
          exact ⟨rfl, .tuple #[], by simp [results, Tryz.f14, go_sem], HE0.out⟩
      | false =>
        by_cases hle : (m : Int) ≤ n1
        · rw [if_pos (.inr (by rw [HA.out.len, HM.out]; exact hle))] at hx
          obtain rfl := Option.some.inj hx
          clear hx
          go_upto_region 10 with fail
          go_region
          all_goals
            clear k4 k5 k6
            go_wp2_with fail
            exact ⟨rfl, .tuple #[], by simp [results, Tryz.f14, go_sem], HE0.out⟩
        · rw [if_neg (by rw [HA.out.len, HM.out]; rintro (h | h); exact absurd h (show ¬ (false = true) by decide); exact hle h)] at hx
          obtain ⟨nb, rfl⟩ : ∃ nb : Nat, n1 = (nb : Int) := ⟨n1.toNat, by have := HNX.out.1; show n1 = _; have h : 0 ≤ n1 := HNX.out.1; omega⟩
          have hnb : nb < m := by omega
          obtain ⟨vs, hvs, hs'⟩ : ∃ vs, valsP sh (xs.drop nb) = some vs ∧ s' = ⟨o1 ++ extraB ((xs.drop nb).map typeV) vs, nb, false⟩ := by
            have e : ((nb : Int)).toNat = nb := Int.toNat_natCast nb
            have hx' : (valsP sh (xs.drop ((nb : Int)).toNat)).map (fun vs => (⟨o1 ++ extraB ((xs.drop ((nb : Int)).toNat).map typeV) vs, nb, false⟩ : PrS)) = some s' := hx
            rw [e] at hx'
            cases hq : valsP sh (xs.drop nb) with
            | none => rw [hq] at hx'; cases hx'
            | some vs => rw [hq] at hx'; exact ⟨vs, rfl, (Option.some.inj hx').symm⟩
          have HVS := Lib.hid hvs
          have HS' := Lib.hid hs'
          clear hvs hs' hx
          obtain ⟨g, c', eg, hcc, hgs, hgl, hcell⟩ := HA.out.cells (by rw [HM.out]; omega)
          rw [HAV.out, HM.out] at eg
          injection eg with eg1 eg2 eg3
          subst eg1
          subst eg3
          rw [HM.out] at hcc
          have HCELL : Hid (∀ W : World, (∀ k, k < WB.heap.size → k ≠ sb → W.heap[k]? = WB.heap[k]?) → ∀ i (hi : i < us.length), W.cell? ⟨g, i, none⟩ = some us[i]) := Lib.hid fun W hk i hi => (World.cell?_of_block (a := ⟨g, i, none⟩) (hk g hgl hgs)).trans (hcell i hi)
          clear hcell eg2
          go_upto_region 10 with fail
          go_region
          go_wp2_with fail
          go_region
          go_wp2_with fail
          have HBd : Hid (Below wr.heap.size wr wr.drew.drew) := Lib.hid ((Below.refl _ wr).drew.drew)
          have HE0 : Hid (EW WB sb o1 bv2 depth tab av nb w wr.drew.drew.heap.size ((xs.drop nb).map typeV) vs 0 0 (.slice none 0 0) (.slice none 0 0) wr.drew.drew) :=
            ⟨HST2.out.later HBd.out, HKE.out.below HBd.out, World.ownsRow_nil _ _ _ _, World.ownsRow_nil _ _ _ _, fun g hg => by (cases hg), Nat.le_refl _, Nat.le_trans HKE.out.size HBd.out.size, Nat.le_trans HST2.out.size HBd.out.size⟩
          clear k4 k5 k6
          generalize wr.drew.drew = Wb at HE0 HBd ⊢
          obtain ⟨B, hB⟩ : ∃ B, Wb.heap.size = B := ⟨_, rfl⟩
          rw [hB] at HE0
          obtain ⟨ts, hts⟩ : ∃ ts, (xs.drop nb).map typeV = ts := ⟨_, rfl⟩
          rw [hts] at HE0 HS'
          have htl : ts.length = m - nb := by rw [← hts, List.length_map, List.length_drop, HA.out.len, HM.out]
          have hvl : vs.length = m - nb := by rw [valsP_len HVS.out, List.length_drop, HA.out.len, HM.out]
          have HTS := Lib.hid hts
          have hm16 : m ≤ 16 := by rw [← HM.out]; exact HA.out.room
          obtain ⟨q, hq⟩ : ∃ q, m - nb = q := ⟨_, rfl⟩
          rw [hq] at htl hvl ⊢
          have HQ := Lib.hid hq
          have hq0 : 0 < q := by omega
          have hq16 : q ≤ 16 := by omega
          have HTL := Lib.hid htl
          have HVL := Lib.hid hvl
          clear hq hB hts htl hvl
          obtain ⟨i9, hi9, hz9, hs9, hb9⟩ := info_parts vinfo9
          have hmf : ∀ (fn : Fn) (first cap : Array Value) (w : World), (Instr.makeFunc fn first cap).run Tryz.prog w = .ok (.func fn first cap) w := fun _ _ _ _ => rfl
          go_loopw [6, 7, 62] (fun tv vv k wr => ∃ j : Nat, k = .int .i64 (j : Int) ∧ j ≤ q ∧ Hid (EW WB sb o1 bv2 depth tab av nb w B ts vs j j tv vv wr)) (fun _ _ k _ => q - (intOf k).toNat)
          case atStart => exact ⟨0, rfl, Nat.zero_le _, HE0⟩
          case round =>
            obtain ⟨j, rfl, hj, HE⟩ := hrel
            by_cases hjq : j < q
            · have hju : nb + j < us.length := by rw [HM.out]; have := HQ.out; omega
              have hjx : nb + j < xs.length := by rw [HA.out.len]; exact hju
              have hjd : j < (xs.drop nb).length := by rw [List.length_drop]; omega
              have hjt : j < ts.length := by rw [HTL.out]; exact hjq
              have hjv : j < vs.length := by rw [HVL.out]; exact hjq
              have hxd : (xs.drop nb)[j] = xs[nb + j] := List.getElem_drop
              have htj : ts[j] = typeV xs[nb + j] := by
                have h : ((xs.drop nb).map typeV)[j]'(by rw [List.length_map]; exact hjd) = typeV xs[nb + j] := by rw [List.getElem_map, hxd]
                simp only [← HTS.out]
                exact h
              have hvj : sh xs[nb + j] bareD = some vs[j] := by
                rw [← hxd]
                exact valsP_get HVS.out j hjd hjv
              have HCU := Lib.hid (HCELL.out wr HE.out.st.keep (nb + j) hju)
              have hcu := HCU.out
              have HTYC : Hid (Calls Tryz.prog 24 #[us[nb + j]] wr fun e w' => e = .returned (.string ts[j]) ∧ Below wr.heap.size wr w') := by
                rw [htj]
                exact Lib.hid (Type_any (HA.out.isV HE.out.st.keep hju hjx) (HTY.out xs[nb + j] (List.getElem_mem _)).1)
              have HSHW : Hid (∀ W, StW WB sb o1 bv2 depth tab av nb false W → Calls Tryz.prog 25 #[us[nb + j], .agg (specCells bareD), .func (.func 27) #[.pointer (some ⟨sb, 0, none⟩)] #[]] W (Ret W (.string vs[j]))) := by
                show ∀ _, _
                intro W hW
                exact HSH.out.call hW (HA.out.isV hW.keep hju hjx) ⟨by decide, by decide, by decide, by decide⟩ hvj
              have HG1 : Hid (∀ {v' : Value} {W W' : World} {vv : Value} {jv : Nat} {tv : Value}, EW WB sb o1 bv2 depth tab av nb w B ts vs j jv tv vv W → W'.ownsRow B 9 1 v' (j + 1) ((ts.take j).map Value.string ++ [.string ts[j]]) → W.grownBy W' tv.ownBlock → Last v' tv W.heap.size → EW WB sb o1 bv2 depth tab av nb w B ts vs (j + 1) jv v' vv W') := Lib.hid fun h1 h2 h3 h4 => h1.growT hjt h2 h3 h4
              have HG2 : Hid (∀ {v' : Value} {W W' : World} {vv : Value} {jt : Nat} {tv : Value}, EW WB sb o1 bv2 depth tab av nb w B ts vs jt j tv vv W → W'.ownsRow B 9 1 v' (j + 1) ((vs.take j).map Value.string ++ [.string vs[j]]) → W.grownBy W' vv.ownBlock → Last v' vv W.heap.size → EW WB sb o1 bv2 depth tab av nb w B ts vs jt (j + 1) tv v' W') := Lib.hid fun h1 h2 h3 h4 => h1.growV hjv h2 h3 h4
              obtain ⟨u, hu⟩ : ∃ u, us[nb + j] = u := ⟨_, rfl⟩
              obtain ⟨ty, hty⟩ : ∃ y, ts[j] = y := ⟨_, rfl⟩
              obtain ⟨vl, hvlj⟩ : ∃ y, vs[j] = y := ⟨_, rfl⟩
              rw [hu] at hcu HTYC HSHW
              rw [hty] at HTYC HG1
              rw [hvlj] at HSHW HG2
              clear HCU hu hty hvlj htj hvj hxd hju hjx hjd hjt hjv
              go_wp2_with fail
              refine HTYC.out.mono ?_
              rintro e W1 ⟨rfl, hb1⟩
              have HE2 := Lib.hid ((HE.out.later hb1).later (Below.new (w := W1) (.cells #[.string ty] 9)))
              have hbase := HE2.out.lo
              clear hb1 HTYC HE hcu
              go_wp2_with (at_builtin; refine wpList_append_one _ rfl (.tmp 66) (.tmp 69) 26 rfl B 9 i9 _ 1 16 Tryz.underlying26 hi9 hz9 hs9 hb9 rfl (by decide) _ _ _ rfl HE2.out.t ⟨W1.heap.size, 0, none⟩ 1 [.string ty] rfl rfl ?c1 ?c2 ?c3 ?c4 hbase ?_)
              case c1 => exact World.news_of_block (cs := #[.string ty]) (t := 9) (fr := (0, 0)) (heap_alloc_new W1 _)
              case c2 => simp [Value.oneCell']
              case c3 => unfold maxLen; omega
              case c4 => omega
              intro tv' W3 ho hg hl
              have HE3 := Lib.hid (HG1.out HE2.out (by first | exact ho | (rw [List.map_take]; exact ho)) hg (by simpa using hl))
              clear ho hg hl HE2 hbase
              go_wp2_with fail
              refine (bare_any W3).mono ?_
              rintro e W4 ⟨rfl, hb4⟩
              have HE4 := Lib.hid (HE3.out.later hb4)
              clear hb4 HE3
              go_wp2_with fail
              refine (HSHW.out W4 HE4.out.st).mono ?_
              rintro e W5 ⟨rfl, hb5⟩
              have HE6 := Lib.hid ((HE4.out.later hb5).later (Below.new (w := W5) (.cells #[.string vl] 9)))
              have hbase := HE6.out.lo
              clear hb5 HE4
              go_wp2_with (at_builtin; refine wpList_append_one _ rfl (.tmp 71) (.tmp 77) 26 rfl B 9 i9 _ 1 16 Tryz.underlying26 hi9 hz9 hs9 hb9 rfl (by decide) _ _ _ rfl HE6.out.v ⟨W5.heap.size, 0, none⟩ 1 [.string vl] rfl rfl ?c1 ?c2 ?c3 ?c4 hbase ?_)
              case c1 => exact World.news_of_block (cs := #[.string vl]) (t := 9) (fr := (0, 0)) (heap_alloc_new W5 _)
              case c2 => simp [Value.oneCell']
              case c3 => unfold maxLen; omega
              case c4 => omega
              intro vv' W7 ho hg hl
              have HE7 := Lib.hid (HG2.out HE6.out (by first | exact ho | (rw [List.map_take]; exact ho)) hg (by simpa using hl))
              clear ho hg hl HE6 hbase HG1 HG2 HSHW
              go_wp2_with fail
              go_roundw
              case rel => exact ⟨j + 1, by go_num, by omega, HE7⟩
              case measure => simp [intOf]; omega
            · obtain rfl : j = q := by omega
              have ht1 := HE.out.t
              have hv1 := HE.out.v
              rw [List.take_of_length_le (by rw [HTL.out]; exact Nat.le_refl _)] at ht1
              rw [List.take_of_length_le (by rw [HVL.out]; exact Nat.le_refl _)] at hv1
              have ht2 := ht1
              have hv2 := hv1
              rw [← HTL.out] at ht2
              rw [← HVL.out] at hv2
              obtain ⟨b1, c1, e1, _, _, hc1, hT1⟩ := owns_texts ht2 (by rw [HTL.out]; exact hq0)
              obtain ⟨b2, c2, e2, _, _, hc2, hT2⟩ := owns_texts hv2 (by rw [HVL.out]; exact hq0)
              rw [HTL.out] at e1 hc1
              rw [HVL.out] at e2 hc2
              clear ht1 hv1 ht2 hv2
              have HSE := Lib.hid HE.out.st
              have HKE2 := Lib.hid HE.out.ke
              clear HE
              subst e1
              subst e2
              have htb : ∀ x ∈ ts, x.size ≤ 1000000000 := by
                rw [← HTS.out]
                intro x hx
                obtain ⟨y, hy, rfl⟩ := List.mem_map.1 hx
                have := (HTY.out y (List.mem_of_mem_drop hy)).2
                omega
              have hvb : ∀ x ∈ vs, x.size ≤ 1000000000 := by
                intro x hx
                obtain ⟨i, hi, rfl⟩ := List.getElem_of_mem hx
                exact HSH.out.size (valsP_get HVS.out i (by rw [← valsP_len HVS.out]; exact hi) hi)
              have hvt : vs.length = ts.length := by rw [HTL.out, HVL.out]
              have hps := pair_sum hvt 1000000000 htb hvb (by rw [HTL.out]; exact hq16)
              have hxs := extraB_size hvt 1000000000 htb hvb (by rw [HTL.out]; exact hq16)
              have HEX : Hid (∀ W, TextsAt W b1 ts → TextsAt W b2 vs → Calls Tryz.prog 28 #[.slice (some ⟨b1, 0, none⟩) j c1, .slice (some ⟨b2, 0, none⟩) j c2] W (Ret W (.string (extraB ts vs)))) := by
                show ∀ _, _
                intro W h1 h2
                have h := extra_any ts vs b1 c1 b2 c2 W h1 h2 hvt (by rw [HTL.out]; exact hq0) (by rw [HTL.out]; omega) (by rw [HTL.out]; exact hc1) (by rw [HTL.out]; exact hc2) (by omega) (fun x hx => by have := htb x hx; omega) (fun x hx => by have := hvb x hx; omega)
                rw [HTL.out] at h
                exact h
              have HPT : Hid (∀ W, StW WB sb o1 bv2 depth tab av nb false W → Calls Tryz.prog 21 #[.pointer (some ⟨sb, 0, none⟩), .string (extraB ts vs)] W (fun e w' => e = .returned (.tuple #[]) ∧ ∃ bv', StW WB sb (o1 ++ extraB ts vs) bv' depth tab av nb false w' ∧ Fr sb bv2 W w')) :=
                Lib.hid (fun W h => put_any (extraB ts vs) h (by have h1 : o1.size ≤ 1100001000000000 := HOS.out; omega))
              obtain ⟨bt, hbt⟩ : ∃ y, extraB ts vs = y := ⟨_, rfl⟩
              rw [hbt] at HEX HPT HS'
              have hbz := (Below.refl wr.heap.size wr).drew
              have HTX : Hid (TextsAt wr.drew b1 ts ∧ TextsAt wr.drew b2 vs) := Lib.hid ⟨hT1.below hbz, hT2.below hbz⟩
              have HSTd := Lib.hid (HSE.out.later hbz)
              have HKd := Lib.hid (HKE2.out.below hbz)
              clear hbt hbz htb hvb hvt hps hxs hT1 hT2 hc1 hc2 HE0 hmf
              go_upto_region 17 with fail
              go_region_with (first
                | ((with_reducible refine (HEX.out _ HTX.out.1 HTX.out.2).mono ?_); rintro e wa ⟨rfl, hwa⟩; have HSTd := Lib.hid (HSTd.out.later hwa); have HKd := Lib.hid (HKd.out.below hwa); clear hwa)
                | ((with_reducible refine (HPT.out _ HSTd.out).mono ?_); rintro e wb ⟨rfl, bvn, hstn, hfrn⟩; have HKd := Lib.hid (HKd.out.trans (hfrn.ke HSTd.out)); have HSTn := Lib.hid hstn; clear hstn hfrn))
              all_goals
                have hend := DirPost.of (s' := ⟨o1 ++ bt, nb, false⟩) ⟨⟨_, HSTn.out⟩, HKd.out⟩
                rw [← HS'.out] at hend
                have HEND := Lib.hid hend
                clear hend
                go_wp2_with fail
                exact ⟨rfl, .tuple #[], by simp [results, Tryz.f14, go_sem], HEND.out⟩
end Go.Proofs.YtnalppgjbllehaaGreatDoor
