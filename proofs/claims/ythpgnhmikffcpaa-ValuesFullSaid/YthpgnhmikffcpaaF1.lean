/- Descriptors are taken just up to the limits: the law's walk. No condition. -/
import Derived.Test.YthpgnhmikffcpaaF0
import Derived.Laws.IdiomStrings
import Derived.Deep.DeepCutAuto
namespace Go.Proofs.Ythpgnhmikffcpaa
set_option linter.unusedVariables false
set_option linter.unusedSimpArgs false
open Go.RowKit

/-- A number within bounds. -/
def Cl (lo hi : Nat) (v : Value) : Prop := ∃ N : Nat, lo ≤ N ∧ N ≤ hi ∧ v = .int .i64 (N : Int)
theorem Cl.of {lo hi : Nat} {n : Int} (h1 : (lo : Int) ≤ n) (h2 : n ≤ (hi : Int)) : Cl lo hi (.int .i64 n) := ⟨n.toNat, by omega, by omega, by rw [Int.toNat_of_nonneg (by omega)]⟩
theorem vinfo5 : (Try.prog.info? 5).map (fun i => (i.zero, i.size, i.bytes)) = some (some (.int .u8 0), 1, 1) := by kernel_rfl

set_option maxHeartbeats 8000000 in
set_option maxRecDepth 100000 in
theorem full_any (n k x : Int) (w : World) : Calls Try.prog 5 #[.int .i64 n, .int .i64 k, .int .i64 x] w fun e w' => e = .returned (.bool true) ∧ Below w.heap.size w w' := by
  obtain ⟨i5, hi5, hz5, hs5, hb5⟩ := info_parts vinfo5
  go_enter Try.func5, Try.ntmps5
  go_upto_region 1 with fail
  go_cut [0, 1, 2] (fun a b c wx => wx = w ∧ Hid (Cl 0 80 a) ∧ Hid (Cl 1 12 b) ∧ Hid (Cl 0 1100 c))
  case first =>
    go_wp2_with fail
    all_goals
      go_meet
      refine ⟨rfl, ?_, ?_, ?_⟩
      all_goals (refine Cl.of ?_ ?_ <;> omega)
  case rest =>
  obtain ⟨rfl, ⟨N, hN0, hN, rfl⟩, ⟨K, hK0, hK, rfl⟩, ⟨X, hX0, hX, rfl⟩⟩ := hcut
  apply_assumption
  obtain ⟨i26, hi26, hz26, hs26, hb26⟩ := info_parts vinfo26
  have hbx : i5.bytes * X ≤ 281474976710656 := by rw [hb5]; omega
  have hmx : X ≤ maxLen := by unfold maxLen; omega
  go_wp2_with (first
    | (refine wpList_make_full _ rfl (.tmp 22) (.tmp 22) 43 rfl wc.heap.size 5 i5 (.int .u8 0) 1 Try.underlying43 hi5 hz5 hs5 .i64 .i64 X X X rfl rfl rfl rfl hbx hmx (Nat.le_refl _) ?_; intro w1 hown1 hgrow1; have hcv := conv_zero hown1))
  have HG1 := Lib.hid ((Below.refl wc.heap.size wc).grown hgrow1 (Nat.le_refl _) (fun k hk => by simp at hk))
  clear hown1 hgrow1 hcv
  go_loopw [8] (fun kk wr => ∃ (j : Nat) (v0 v1 v2 v3 v4 v5 v6 v7 : Value), kk = .int .i64 ((j + 1 : Nat) : Int) ∧ j + 1 ≤ K ∧ Hid (Blk wr w1.heap.size v0 v1 v2 v3 v4 v5 v6 v7) ∧ Hid (IsDF wr (w1.heap.size < ·) (.agg #[v0, v1, v2, v3, v4, v5, v6, v7]) (nest X j)) ∧ Hid (Below w1.heap.size w1 wr)) (fun kk _ => K - (intOf kk).toNat)
  case atStart =>
    exact ⟨0, _, _, _, _, _, _, _, _, rfl, by omega, Blk.of (heap_alloc_new w1 _), .bare ⟨by decide, by decide⟩ U64_0 U64_0 I64_0 cap_0 (by rw [zeros_size]; unfold cap47; omega), Below.new _⟩
  case round =>
    obtain ⟨j, v0, v1, v2, v3, v4, v5, v6, v7, rfl, hj, HBL, HD, HW⟩ := hrel
    have hp : w1.heap.size < wr.heap.size := World.block_lt_of_cell? wr _ HBL.out.c0
    have sc0 := HBL.out.c0
    have sc1 := HBL.out.c1
    have sc2 := HBL.out.c2
    have sc3 := HBL.out.c3
    have sc4 := HBL.out.c4
    have sc5 := HBL.out.c5
    have sc6 := HBL.out.c6
    have sc7 := HBL.out.c7
    have sf0 := HBL.out.f 0
    have sf1 := HBL.out.f 1
    have sf2 := HBL.out.f 2
    have sf3 := HBL.out.f 3
    have sf4 := HBL.out.f 4
    have sf5 := HBL.out.f 5
    have sf6 := HBL.out.f 6
    have sf7 := HBL.out.f 7
    by_cases hjk : j + 1 < K
    · go_wp2_with fail
      refine ⟨⟨j + 1, .int .i64 22, .string ⟨#[]⟩, .int .u64 0, .int .u64 0, .string ⟨#[]⟩, .slice none 0 0, .slice (some ⟨wr.heap.size, 0, none⟩) 1 1, .int .i64 0, congrArg (Value.int .i64) (by omega), by omega, (Blk.put wr w1.heap.size HBL.out (.int .i64 22) (.string ⟨#[]⟩) (.int .u64 0) (.int .u64 0) (.string ⟨#[]⟩) (.slice none 0 0) (.slice (some ⟨wr.heap.size, 0, none⟩) 1 1) (.int .i64 0)).below (Below.new _), ?_, (st8_below HW.out (Nat.le_refl _) (.int .i64 22) (.string ⟨#[]⟩) (.int .u64 0) (.int .u64 0) (.string ⟨#[]⟩) (.slice none 0 0) (.slice (some ⟨wr.heap.size, 0, none⟩) 1 1) (.int .i64 0)).push _⟩, by simp [intOf]; omega⟩
      exact HD.out.wrap hp ⟨by decide, by decide⟩ (st8 wr w1.heap.size (.int .i64 22) (.string ⟨#[]⟩) (.int .u64 0) (.int .u64 0) (.string ⟨#[]⟩) (.slice none 0 0) (.slice (some ⟨wr.heap.size, 0, none⟩) 1 1) (.int .i64 0)) (fun k hk => st8_other hk) st8_size
    · have HJ : Hid (j + 1 = K) := by show _ = _; omega
      rw [HJ.out]
      go_wp2_with fail
      have HROW := Lib.hid (DRow.one rfl HD.out hp (st8 wr w1.heap.size (.int .i64 20) (.string ⟨#[]⟩) (.int .u64 0) (.int .u64 0) (.string ⟨#[]⟩) (.slice none 0 0) (.slice (some ⟨wr.heap.size, 0, none⟩) 1 1) (.int .i64 0)) (fun k hk => st8_other hk) st8_size)
      have HBL2 := Lib.hid ((Blk.put wr w1.heap.size HBL.out (.int .i64 20) (.string ⟨#[]⟩) (.int .u64 0) (.int .u64 0) (.string ⟨#[]⟩) (.slice none 0 0) (.slice (some ⟨wr.heap.size, 0, none⟩) 1 1) (.int .i64 0)).below (Below.new (.cells #[v0, v1, v2, v3, v4, v5, v6, v7] 26)))
      have HW2 := Lib.hid ((st8_below HW.out (Nat.le_refl _) (.int .i64 20) (.string ⟨#[]⟩) (.int .u64 0) (.int .u64 0) (.string ⟨#[]⟩) (.slice none 0 0) (.slice (some ⟨wr.heap.size, 0, none⟩) 1 1) (.int .i64 0)).push (.cells #[v0, v1, v2, v3, v4, v5, v6, v7] 26))
      have hbz : (st8 wr w1.heap.size (.int .i64 20) (.string ⟨#[]⟩) (.int .u64 0) (.int .u64 0) (.string ⟨#[]⟩) (.slice none 0 0) (.slice (some ⟨wr.heap.size, 0, none⟩) 1 1) (.int .i64 0)).heap.size = wr.heap.size := st8_size
      clear sc0 sc1 sc2 sc3 sc4 sc5 sc6 sc7 sf0 sf1 sf2 sf3 sf4 sf5 sf6 sf7 hbz
      change Code.wp _ _ _ _ ((st8 wr w1.heap.size (.int .i64 20) (.string ⟨#[]⟩) (.int .u64 0) (.int .u64 0) (.string ⟨#[]⟩) (.slice none 0 0) (.slice (some ⟨wr.heap.size, 0, none⟩) 1 1) (.int .i64 0)).alloc (.cells #[v0, v1, v2, v3, v4, v5, v6, v7] 26))
      generalize (st8 wr w1.heap.size (.int .i64 20) (.string ⟨#[]⟩) (.int .u64 0) (.int .u64 0) (.string ⟨#[]⟩) (.slice none 0 0) (.slice (some ⟨wr.heap.size, 0, none⟩) 1 1) (.int .i64 0)).alloc (.cells #[v0, v1, v2, v3, v4, v5, v6, v7] 26) = W at HROW HBL2 HW2 ⊢
      clear hj hjk
      go_loopw [9] (fun kk wr => ∃ (m : Nat) (v : Value) (us : List Value), kk = .int .i64 (m : Int) ∧ m ≤ N ∧ Hid (us.length = m + 1) ∧ Hid (DRow (w1.heap.size + 1) (.slice none 0 0) v us (nest X j :: List.replicate m zeroD) wr) ∧ Hid (Blk wr w1.heap.size (.int .i64 20) (.string ⟨#[]⟩) (.int .u64 0) (.int .u64 0) (.string ⟨#[]⟩) (.slice none 0 0) v (.int .i64 0)) ∧ Hid (Below w1.heap.size w1 wr)) (fun kk _ => N - (intOf kk).toNat)
      case atStart =>
        exact ⟨0, _, [.agg #[v0, v1, v2, v3, v4, v5, v6, v7]], rfl, Nat.zero_le _, rfl, HROW.out, HBL2.out, HW2.out⟩
      case round =>
        obtain ⟨m, v, us, rfl, hm, hul, HR, HB, HWQ⟩ := hrel
        have hpq : w1.heap.size < wr.heap.size := World.block_lt_of_cell? wr _ HB.out.c0
        by_cases hmn : m < N
        · have c6 := HB.out.c6
          have f6 := HB.out.f 6
          have HO := Lib.hid HR.out.own
          have hmx2 : us.length + 1 ≤ maxLen := by have := hul.out; unfold maxLen; omega
          have hbx2 : (us.length + 1) * 112 ≤ 140737488355328 := by have := hul.out; omega
          have hnv : v.ownBlock ≠ some w1.heap.size := fun e => by have := HO.out.lt _ e; omega
          have HNV := Lib.hid hnv
          clear hnv
          go_wp2_with (first
            | (at_builtin; refine wpList_append_lies _ rfl (.tmp 43) (.tmp 45) 24 rfl (w1.heap.size + 1) 26 i26 _ 8 112 Try.underlying24 hi26 hz26 hs26 hb26 rfl (by omega) v us.length _ rfl (HO.out.alloc _) ⟨wr.heap.size, 0, none⟩ 1 1 [.int .i64 0, .string ⟨#[]⟩, .int .u64 0, .int .u64 0, .string ⟨#[]⟩, .slice none 0 0, .slice none 0 0, .int .i64 0] rfl rfl (World.news_of_block (cs := #[.int .i64 0, .string ⟨#[]⟩, .int .u64 0, .int .u64 0, .string ⟨#[]⟩, .slice none 0 0, .slice none 0 0, .int .i64 0]) (t := 26) (fr := (0, 0)) (heap_alloc_new wr _)) (by simp [Value.oneCell']) (by omega) hmx2 hbx2 (by simp; omega) (wr.heap.size + 1) (by simp) ?_; intro gg cap w6 hown6 hgrow6 hat6 hlt6; have bS6 : w6.heap[w1.heap.size]? = wr.heap[w1.heap.size]? := (hgrow6.block _ (by simp; omega) (fun e => HNV.out e.symm)).trans (Below.heap_alloc wr _ _ hpq); have u6 := cell_block bS6 c6; have uf := (frozen_blk (o := 6) bS6).trans f6))
          go_roundw
          case rel =>
            have hpush := HR.out.push (Below.refl wr.heap.size wr) (cs := #[.int .i64 0, .string ⟨#[]⟩, .int .u64 0, .int .u64 0, .string ⟨#[]⟩, .slice none 0 0, .slice none 0 0, .int .i64 0]) rfl (d := zeroD) (IsDF.bare ⟨by decide, by decide⟩ U64_0 U64_0 I64_0 cap_0 cap_0) (by omega) (Below.new _) hown6 hgrow6 (by rcases hat6 with h | h; exact .inl h; right; omega) (fun k h => by simp [Value.ownBlock] at h)
            refine ⟨m + 1, _, us ++ [.agg #[.int .i64 0, .string ⟨#[]⟩, .int .u64 0, .int .u64 0, .string ⟨#[]⟩, .slice none 0 0, .slice none 0 0, .int .i64 0]], by go_num, by omega, by show _ = _; simp [hul.out], ?_, ((HB.out.below (Below.new _)).keep (hgrow6.block _ (by simp; omega) (fun e => HNV.out e.symm))).put6 _, ?_⟩
            · show DRow _ _ _ _ _ _
              rw [show nest X j :: List.replicate (m + 1) zeroD = (nest X j :: List.replicate m zeroD) ++ [zeroD] by rw [List.replicate_succ', List.cons_append]]
              exact hpush.keep (fun k hk hlo _ => Below.heap_setCell _ _ _ _ (by show k ≠ w1.heap.size; omega)) (by simp)
            · exact (((HWQ.out.push _).grown hgrow6 (by simp; omega) (fun k hk => by have := HO.out.lt k hk; omega)).setCell (p := ⟨w1.heap.size, 6, none⟩) (Nat.le_refl _) _)
          case measure => simp [intOf]; omega
        · obtain rfl : m = N := by omega
          have HBN := HB.out
          obtain ⟨ap, cp, gp, rfl, p1, p2, p3, ⟨R, p4, p5, p6⟩, _⟩ := HR.out.parts
          have HWQ2 := Lib.hid (HG1.out.next HWQ.out)
          have hlen : (nest X j :: List.replicate m zeroD).length = m + 1 := by simp
          have HISD : Hid (IsD wr (.agg #[.int .i64 20, .string ⟨#[]⟩, .int .u64 0, .int .u64 0, .string ⟨#[]⟩, .slice none 0 0, .slice ap (nest X j :: List.replicate m zeroD).length cp, .int .i64 0]) (fullD X j m)) := by
            refine IsD.mk (fullD X j m) none 0 ap cp gp 0 (show I64 20 from ⟨by decide, by decide⟩) U64_0 U64_0 I64_0 cap_0 cap_0 ⟨Nat.le_refl _, by simp [fullD, D.names], 0, 0, fun h => by simp [fullD, D.names] at h, fun i h => by simp [fullD, D.names] at h, fun x h => by simp [fullD, D.names] at h⟩ p1 ?_ (fun h => (p2 h).1) (fun i h => (p4 i h).isD)
            show (nest X j :: List.replicate m zeroD).length ≤ cap47
            rw [hlen]; unfold cap47; omega
          have HERR := Lib.hid (full_err X j m)
          clear p1 p2 p3 p4 p5 p6 HR hm hmn
          rw [hlen] at HB HBN HISD
          have rc0 := HBN.c0
          have rc1 := HBN.c1
          have rc2 := HBN.c2
          have rc3 := HBN.c3
          have rc4 := HBN.c4
          have rc5 := HBN.c5
          have rc6 := HBN.c6
          have rc7 := HBN.c7
          go_wp2_with fail
          all_goals
            refine (build_any HISD.out).mono ?_
            rintro e w9 ⟨hB9, hbad, hgood⟩
            have HB9 := Lib.hid (HWQ2.out.next hB9)
            have hj := HJ.out
            first
              | (have he : errD (fullD X j m) = 2 := by rw [HERR.out, if_pos (by omega)]
                 obtain rfl := hbad (by rw [he]; decide)
                 rw [he])
              | (have he : errD (fullD X j m) = 6 := by rw [HERR.out, if_neg (by omega), if_pos (by omega)]
                 obtain rfl := hbad (by rw [he]; decide)
                 rw [he])
              | (have he : errD (fullD X j m) = 0 := by rw [HERR.out, if_neg (by omega), if_neg (by omega)]
                 obtain ⟨t, y, x, q1, rfl, q3⟩ := hgood he
                 clear q1 q3)
            clear hbad hgood hB9 he hj
            go_wp2_with fail
            refine (lives_any _).mono ?_
            rintro e wl ⟨rfl, hBl⟩
            have HBl := Lib.hid (HB9.out.next hBl)
            clear hBl
            go_wp2_with fail
            exact bodyPost_ret (v := .bool true) (by simp [results, Try.f5, go_sem]) rfl ⟨rfl, HBl.out⟩
end Go.Proofs.Ythpgnhmikffcpaa
