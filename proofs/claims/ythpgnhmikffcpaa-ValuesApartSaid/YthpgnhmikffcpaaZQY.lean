/- A descriptor in new memory: the law's helper copied. Condition: the descriptor is not too great, its lists of names are within a machine's reach. -/
import Derived.Test.YthpgnhmikffcpaaZQG
import Derived.Test.YthpgnhmikffcpaaZQJ
namespace Go.Proofs.Ythpgnhmikffcpaa
set_option linter.unusedVariables false
set_option linter.unusedSimpArgs false
open Go.RowKit

/-- All lists of names are within a machine's reach. -/
inductive WideD : D → Prop
  | mk (d : D) (hn : d.names.length * 16 ≤ 140737488355328) (hp : ∀ x ∈ d.parts, WideD x) : WideD d
/-- What copied hands back. -/
def CopyPost (w : World) (d : D) (e : Ending) (w' : World) : Prop :=
  Below w.heap.size w w' ∧ ∃ k0 ty b0 i0 tx a5 n5 c5 a6 n6 c6 h0, e = .returned (.agg #[.int .i64 k0, .string ty, .int .u64 b0, .int .u64 i0, .string tx, .slice a5 n5 c5, .slice a6 n6 c6, .int .i64 h0]) ∧
    IsDF w' (w.heap.size ≤ ·) (.agg #[.int .i64 k0, .string ty, .int .u64 b0, .int .u64 i0, .string tx, .slice a5 n5 c5, .slice a6 n6 c6, .int .i64 h0]) d
structure CpMid (w wx : World) (d : D) (a6 : Option Addr) (c6 : Nat) (vn : Value) : Prop where
  bb : Blk wx w.heap.size (.int .i64 d.kind) (.string d.type) (.int .u64 d.bits) (.int .u64 d.imag) (.string d.text) vn (.slice a6 d.parts.length c6) (.int .i64 d.hook)
  br : Blk wx (w.heap.size + 1) (.int .i64 0) (.string ⟨#[]⟩) (.int .u64 0) (.int .u64 0) (.string ⟨#[]⟩) (.slice none 0 0) (.slice none 0 0) (.int .i64 0)
  nr : wx.ownsRow (w.heap.size + 2) 9 1 vn d.names.length (d.names.map Value.string)
  b : Below w.heap.size w wx
  sz : w.heap.size + 2 ≤ wx.heap.size
/-- The descriptor of a row of names and a row of descriptors. -/
theorem copy_fin {w W : World} {d : D} {lo : Nat} {vn v : Value} {us : List Value} (hD : DRow lo vn v us d.parts W) (hnr : W.ownsRow (w.heap.size + 2) 9 1 vn d.names.length (d.names.map Value.string)) (hlo : w.heap.size + 2 ≤ lo) :
    ∃ an cn ap cp, vn = .slice an d.names.length cn ∧ v = .slice ap d.parts.length cp ∧ ∀ W9 : World, (∀ k, w.heap.size + 2 ≤ k → W9.heap[k]? = W.heap[k]?) → I64 d.kind → U64 d.bits → U64 d.imag → I64 d.hook → d.type.size ≤ cap47 → d.text.size ≤ cap47 → d.names.length ≤ cap47 → (∀ x ∈ d.names, x.size ≤ cap47) → d.parts.length ≤ cap47 →
      IsDF W9 (w.heap.size ≤ ·) (.agg #[.int .i64 d.kind, .string d.type, .int .u64 d.bits, .int .u64 d.imag, .string d.text, .slice an d.names.length cn, .slice ap d.parts.length cp, .int .i64 d.hook]) d := by
  obtain ⟨ap, cp, gp, rfl, p1, p2, p3, ⟨R, p4, p5, p6⟩, p7⟩ := hD.parts
  obtain ⟨an, cn, gn, rfl, q1, q2, q3, q4⟩ := names_row hnr
  refine ⟨an, cn, ap, cp, rfl, rfl, fun W9 hkp hk hb hi hh ht hx hn47 hns hp47 => ?_⟩
  have hnn : ∀ (h : 0 < d.names.length), (Value.slice an d.names.length cn).ownBlock = some gn := fun h => by rw [(q2 h).1]; rfl
  refine IsDF.mk (w.heap.size ≤ ·) d an cn ap cp gn 0 gp 0 R hk hb hi hh ht hx q1 hn47 ?_ ?_ hns p1 hp47 ?_ ?_ ?_ ?_ p6 ?_
  · intro h; exact ⟨(q2 h).1, by have := (q2 h).2.1; omega⟩
  · intro i h
    have := q2 (by omega)
    exact ⟨cell_block (hkp gn (by omega)) (q3 i h), by rw [frozen_blk (hkp gn (by omega))]; exact q4 i h⟩
  · intro h; exact ⟨(p2 h).1, by have := (p2 h).2.1; omega⟩
  · intro i h j hj; rw [frozen_blk (hkp gp (by have := (p2 (by omega)).2.1; omega))]; exact p3 i h j hj
  · intro i h; exact isDF_row (p4 i h) (hkp gp (by have := (p2 (by omega)).2.1; omega)) (fun k hk hR => hkp k (by have := (p5 i k hR).1; omega))
  · intro i h k hk; exact ⟨by have := (p5 i k hk).1; omega, (p5 i k hk).2.2.1 (by omega), fun hn e => (p5 i k hk).2.2.2 (by rw [hnn hn, e])⟩
  · intro h1 h2 e; exact p7 h1 (by rw [hnn h2, e])
set_option maxHeartbeats 4000000 in
set_option maxRecDepth 100000 in
theorem copied_any : ∀ (d : D), wholeD d ≤ 400 → WideD d → ∀ (w : World) (v : Value), IsD w v d → Calls Try.prog 19 #[v] w (CopyPost w d) := by
  refine D.induct_d fun d ih hsz hwd w v h => ?_
  obtain ⟨a5, c5, a6, c6, rfl, hk, hb, hi, ht, htx, hn, hp⟩ := h.open
  have hh : I64 d.hook := by cases h.rng; assumption
  have HK := Lib.hid (And.intro hk (And.intro hb (And.intro hi (And.intro ht (And.intro htx hh)))))
  have HN := Lib.hid hn
  have HP := Lib.hid hp
  have hps : d.parts.length ≤ 400 := by have := wholeL_len d.parts; rw [wholeD_eq] at hsz; omega
  have IH : Hid (∀ x ∈ d.parts, ∀ (w : World) (v : Value), IsD w v x → Calls Try.prog 19 #[v] w (CopyPost w x)) := by
    intro x hx
    refine ih x hx ?_ ?_
    · have := wholeL_mem hx; rw [wholeD_eq] at hsz; omega
    · cases hwd with | mk _ _ hp => exact hp x hx
  have hnl : d.names.length * 16 ≤ 140737488355328 := by cases hwd; assumption
  have HNL := Lib.hid hnl
  have HPSZ := Lib.hid hps
  clear hk ht htx hh hn hp h ih hi hb hnl hwd hsz
  obtain ⟨i9, hi9, hz9, hs9, hb9⟩ := info_parts vinfo9
  obtain ⟨i26, hi26, hz26, hs26, hb26⟩ := info_parts vinfo26
  unfold aggD
  go_enter Try.func19, Try.ntmps19
  go_upto_region 1 with fail
  have hz3 : ((w.alloc (.cells #[.int .i64 d.kind, .string d.type, .int .u64 d.bits, .int .u64 d.imag, .string d.text, .slice a5 d.names.length c5, .slice a6 d.parts.length c6, .int .i64 d.hook] 26)).alloc (.cells #[.int .i64 0, .string ⟨#[]⟩, .int .u64 0, .int .u64 0, .string ⟨#[]⟩, .slice none 0 0, .slice none 0 0, .int .i64 0] 26)).heap.size = w.heap.size + 2 := by simp
  have HBr : Hid (Blk ((w.alloc (.cells #[.int .i64 d.kind, .string d.type, .int .u64 d.bits, .int .u64 d.imag, .string d.text, .slice a5 d.names.length c5, .slice a6 d.parts.length c6, .int .i64 d.hook] 26)).alloc (.cells #[.int .i64 0, .string ⟨#[]⟩, .int .u64 0, .int .u64 0, .string ⟨#[]⟩, .slice none 0 0, .slice none 0 0, .int .i64 0] 26)) (w.heap.size + 1) (.int .i64 0) (.string ⟨#[]⟩) (.int .u64 0) (.int .u64 0) (.string ⟨#[]⟩) (.slice none 0 0) (.slice none 0 0) (.int .i64 0)) := by
    have := Blk.of (heap_alloc_new (w.alloc (.cells #[.int .i64 d.kind, .string d.type, .int .u64 d.bits, .int .u64 d.imag, .string d.text, .slice a5 d.names.length c5, .slice a6 d.parts.length c6, .int .i64 d.hook] 26)) (.cells #[.int .i64 0, .string ⟨#[]⟩, .int .u64 0, .int .u64 0, .string ⟨#[]⟩, .slice none 0 0, .slice none 0 0, .int .i64 0] 26))
    exact Lib.hid (by simpa using this)
  have HBp : Hid (Blk ((w.alloc (.cells #[.int .i64 d.kind, .string d.type, .int .u64 d.bits, .int .u64 d.imag, .string d.text, .slice a5 d.names.length c5, .slice a6 d.parts.length c6, .int .i64 d.hook] 26)).alloc (.cells #[.int .i64 0, .string ⟨#[]⟩, .int .u64 0, .int .u64 0, .string ⟨#[]⟩, .slice none 0 0, .slice none 0 0, .int .i64 0] 26)) w.heap.size (.int .i64 d.kind) (.string d.type) (.int .u64 d.bits) (.int .u64 d.imag) (.string d.text) (.slice a5 d.names.length c5) (.slice a6 d.parts.length c6) (.int .i64 d.hook)) := by
    exact Lib.hid ((Blk.of (heap_alloc_new w (.cells #[.int .i64 d.kind, .string d.type, .int .u64 d.bits, .int .u64 d.imag, .string d.text, .slice a5 d.names.length c5, .slice a6 d.parts.length c6, .int .i64 d.hook] 26))).below (Below.new (.cells #[.int .i64 0, .string ⟨#[]⟩, .int .u64 0, .int .u64 0, .string ⟨#[]⟩, .slice none 0 0, .slice none 0 0, .int .i64 0] 26)))
  have HB3 := Lib.hid ((Below.new (w := w) (.cells #[.int .i64 d.kind, .string d.type, .int .u64 d.bits, .int .u64 d.imag, .string d.text, .slice a5 d.names.length c5, .slice a6 d.parts.length c6, .int .i64 d.hook] 26)).push (.cells #[.int .i64 0, .string ⟨#[]⟩, .int .u64 0, .int .u64 0, .string ⟨#[]⟩, .slice none 0 0, .slice none 0 0, .int .i64 0] 26))
  generalize (w.alloc (.cells #[.int .i64 d.kind, .string d.type, .int .u64 d.bits, .int .u64 d.imag, .string d.text, .slice a5 d.names.length c5, .slice a6 d.parts.length c6, .int .i64 d.hook] 26)).alloc (.cells #[.int .i64 0, .string ⟨#[]⟩, .int .u64 0, .int .u64 0, .string ⟨#[]⟩, .slice none 0 0, .slice none 0 0, .int .i64 0] 26) = W3 at hz3 HBr HBp HB3 ⊢
  have HZ3 := Lib.hid hz3
  have hlt3 : w.heap.size < W3.heap.size := by omega
  clear hz3
  have q5 := HBp.out.c5
  have qf5 := HBp.out.f 5
  go_cut [] (fun wx => ∃ vn, Hid (CpMid w wx d a6 c6 vn))
  case first =>
    by_cases hn0 : d.names.length = 0
    · have HN0 := Lib.hid hn0
      rw [hn0] at q5
      clear hn0
      have q5' := cell_below (Below.new (w := W3) (.cells #[] 9)) q5
      have qf5' := ((Below.new (w := W3) (.cells #[] 9)).frozen (p := ⟨w.heap.size, 5, none⟩) hlt3).trans qf5
      go_wp2_with (first
        | (at_builtin; refine wpList_append_zero rfl (.tmp 6) (.tmp 8) 23 rfl 9 i9 Try.underlying23 hi9 _ _ 0 0 c5 rfl rfl (Nat.le_refl _) ?_))
      go_meet
      refine ⟨.slice (some ⟨W3.heap.size, 0, none⟩) 0 0, Lib.hid ⟨?_, ?_, ?_, ?_, ?_⟩⟩
      · exact (HBp.out.put5 _).below (Below.new _)
      · exact (HBr.out.keep (w' := W3.setCell ⟨w.heap.size, 5, none⟩ (.slice (some ⟨W3.heap.size, 0, none⟩) 0 0)) (Below.heap_setCell _ _ _ _ (by show w.heap.size + 1 ≠ w.heap.size; omega))).below (Below.new _)
      · rw [List.eq_nil_of_length_eq_zero HN0.out]
        have := World.ownsRow_lit (base := w.heap.size + 2) (e := 9) (size := 1) (W3.setCell ⟨w.heap.size, 5, none⟩ (.slice (some ⟨W3.heap.size, 0, none⟩) 0 0)) #[] 0 (by simp [HZ3.out]) (by unfold maxLen; omega) rfl
        simpa using this
      · exact (HB3.out.setCell (p := ⟨w.heap.size, 5, none⟩) (Nat.le_refl _) _).push _
      · simp [HZ3.out]
    · have hnp : 0 < d.names.length := by omega
      clear hn0
      obtain ⟨n1, n2, nb, no, n3, n4, n5⟩ := HN.out
      obtain rfl := n3 hnp
      have HNC : Hid (∀ j u, (d.names.map Value.string)[j]? = some u → (W3.alloc (.cells #[] 9)).cell? ((⟨nb, no, none⟩ : Addr).add j) = some u) := by
        intro j u hu
        rw [addr_at]
        have hj : j < d.names.length := by
          have := (List.getElem?_eq_some_iff.1 hu).1
          simpa using this
        rw [List.getElem?_map, List.getElem?_eq_getElem hj] at hu
        simp only [Option.map_some, Option.some.injEq] at hu
        rw [← hu]
        exact cell_below (Below.new _) (cell_below HB3.out (n4 j hj))
      have hnl := HNL.out
      have hmx : 0 + d.names.length ≤ maxLen := by unfold maxLen; omega
      have hbx : (0 + d.names.length) * 16 ≤ 140737488355328 := by omega
      have H1C : Hid (∀ u ∈ d.names.map Value.string, u.oneCell' = true) := by
        intro u hu
        obtain ⟨x, _, rfl⟩ := List.mem_map.1 hu
        rfl
      have HOL := Lib.hid (World.ownsRow_lit (base := w.heap.size + 2) (e := 9) (size := 1) W3 #[] 0 (by rw [HZ3.out]; exact Nat.le_refl _) (by unfold maxLen; omega) rfl)
      have HZ4 : Hid ((W3.alloc (.cells #[] 9)).heap.size = w.heap.size + 3) := by show _ = _; simp [HZ3.out]
      clear n1 n2 n3 n4 n5 hnl
      have q5' := cell_below (Below.new (w := W3) (.cells #[] 9)) q5
      have qf5' := ((Below.new (w := W3) (.cells #[] 9)).frozen (p := ⟨w.heap.size, 5, none⟩) hlt3).trans qf5
      go_wp2_with (first
        | (at_builtin; refine wpList_append_lies _ rfl (.tmp 6) (.tmp 8) 23 rfl (w.heap.size + 2) 9 i9 _ 1 16 Try.underlying23 hi9 hz9 hs9 hb9 rfl (by omega) (.slice (some ⟨W3.heap.size, 0, none⟩) 0 0) 0 _ rfl HOL.out ⟨nb, no, none⟩ d.names.length c5 (d.names.map Value.string) rfl (by rw [List.length_map, Nat.mul_one]) HNC.out H1C.out hnp hmx hbx (by rw [HZ4.out]; omega) (w.heap.size + 3) HZ4.out ?_; intro gg cap w6 hown6 hgrow6 hat6 hlt6; have hb6 : w6.heap[w.heap.size]? = W3.heap[w.heap.size]? := (hgrow6.block _ (by rw [HZ4.out]; omega) (fun e => by have e := Option.some.inj (show some W3.heap.size = some w.heap.size from e.symm); omega)).trans (Below.heap_alloc W3 _ _ hlt3); have u5 := cell_block hb6 q5; have uf5 := (frozen_blk (o := 5) hb6).trans qf5; have HB6 := Lib.hid hb6; have HOwn6 := Lib.hid hown6; have HGrow6 := Lib.hid hgrow6; have HAt6 := Lib.hid hat6; clear hb6 hown6 hgrow6 hat6))
      go_meet
      have hz6 := HGrow6.out.size
      have hz4 := HZ4.out
      have hz3 := HZ3.out
      refine ⟨.slice (some ⟨gg, 0, none⟩) d.names.length cap, Lib.hid ⟨?_, ?_, ?_, ?_, ?_⟩⟩
      · exact (HBp.out.keep HB6.out).put5 _
      · refine HBr.out.keep ?_
        rw [Below.heap_setCell _ _ _ _ (by show w.heap.size + 1 ≠ w.heap.size; omega), HGrow6.out.block _ (by omega) (fun e => by have e := Option.some.inj (show some W3.heap.size = some (w.heap.size + 1) from e.symm); omega)]
        exact Below.heap_alloc W3 _ _ (by omega)
      · have ho := HOwn6.out
        simp only [Nat.zero_add, List.nil_append] at ho
        refine owns_block ho fun g hg => ?_
        have := (ho.lt g hg).1
        exact Below.heap_setCell _ _ _ _ (by show g ≠ w.heap.size; omega)
      · exact (((HB3.out.push _).grown HGrow6.out (by rw [hz4]; omega) (fun k hk => by have e := Option.some.inj (show some W3.heap.size = some k from hk); omega)).setCell (p := ⟨w.heap.size, 5, none⟩) (Nat.le_refl _) _)
      · simp; omega
  case rest =>
    obtain ⟨vn, HM⟩ := hcut
    apply_assumption
    clear q5 qf5 HBp HBr HB3 HZ3 hlt3
    have q6 := HM.out.bb.c6
    have HSZ := HM.out.sz
    obtain ⟨ps, hps⟩ : ∃ ps, d.parts = ps := ⟨_, rfl⟩
    rw [hps] at q6 HP IH
    have HPSL : Hid (ps.length ≤ 400) := by have := HPSZ.out; rw [hps] at this; exact Lib.hid this
    have HPS := Lib.hid hps
    clear hps
    have hpl2 : ps.length ≤ 9223372036854775807 := by have := HPSL.out; omega
    go_wp2_with fail
    go_loopw [3, 5, 14] (fun vv _ kk wr => ∃ (i : Nat) (v : Value) (us : List Value), v = vv ∧ kk = .int .i64 (i : Int) ∧ i ≤ ps.length ∧ Hid (us.length = i) ∧ Hid (DRow wc.heap.size vn v us (ps.take i) wr) ∧ Hid (Below wc.heap.size wc wr)) (fun _ _ kk _ => ps.length - (intOf kk).toNat)
    case atStart =>
      exact ⟨0, _, [], rfl, rfl, Nat.zero_le _, rfl, DRow.start _ _ _, Below.refl _ _⟩
    case round =>
      obtain ⟨i, v, us, rfl, rfl, hi, HU, HD, HG⟩ := hrel
      have HWR : Hid (Below w.heap.size w wr) := HM.out.b.next (HG.out)
      have HGZ := HG.out.size
      by_cases hin : i < ps.length
      · obtain ⟨b, o, y5, z5, y6, z6, rfl, hrow, hY⟩ := HP.out.elem0 HWR.out hin
        obtain ⟨k0, k1, k2, k3, k4, k5, k6, k7⟩ := hrow
        have HIH : Hid (∀ W, Below w.heap.size w W → Calls Try.prog 19 #[aggD ps[i] y5 z5 y6 z6] W (CopyPost W ps[i])) := by
          intro W hW
          exact IH.out ps[i] (List.getElem_mem _) W _ (hY.later hW)
        obtain ⟨y, hy⟩ : ∃ y, ps[i] = y := ⟨_, rfl⟩
        rw [hy] at k0 k1 k2 k3 k4 k5 k6 k7 HIH
        have HZE := Lib.hid hy
        unfold aggD at HIH
        clear hY hy
        go_upto_region 6 with fail
        have hb1 : Below wr.heap.size wr (wr.alloc (.cells #[.int .i64 y.kind, .string y.type, .int .u64 y.bits, .int .u64 y.imag, .string y.text, .slice y5 y.names.length z5, .slice y6 y.parts.length z6, .int .i64 y.hook] 26)) := Below.new _
        have hblk := Blk.of (heap_alloc_new wr (.cells #[.int .i64 y.kind, .string y.type, .int .u64 y.bits, .int .u64 y.imag, .string y.text, .slice y5 y.names.length z5, .slice y6 y.parts.length z6, .int .i64 y.hook] 26))
        have hsz1 : (wr.alloc (.cells #[.int .i64 y.kind, .string y.type, .int .u64 y.bits, .int .u64 y.imag, .string y.text, .slice y5 y.names.length z5, .slice y6 y.parts.length z6, .int .i64 y.hook] 26)).heap.size = wr.heap.size + 1 := by simp
        generalize wr.alloc (.cells #[.int .i64 y.kind, .string y.type, .int .u64 y.bits, .int .u64 y.imag, .string y.text, .slice y5 y.names.length z5, .slice y6 y.parts.length z6, .int .i64 y.hook] 26) = W1 at hb1 hblk hsz1 ⊢
        have HB1 := Lib.hid hb1
        have HWR1 : Hid (Below w.heap.size w W1) := HWR.out.next hb1
        have HD1 := Lib.hid (HD.out.below hb1)
        have HG1 : Hid (Below wc.heap.size wc W1) := HG.out.next hb1
        obtain ⟨x0, x1, x2, x3, x4, x5, x6, x7, xf⟩ := hblk
        have HOW := Lib.hid HD1.out.own
        have hun := HU.out
        have hz1 : W1.heap.size = wr.heap.size + 1 := hsz1
        have HGZ1 : wc.heap.size ≤ W1.heap.size := by omega
        have hpsl := HPSL.out
        have hmx : us.length + 1 ≤ maxLen := by unfold maxLen; omega
        have hbx : (us.length + 1) * 112 ≤ 140737488355328 := by omega
        have HZ1 := Lib.hid hz1
        clear hun hb1 hsz1 hz1 xf k0 k1 k2 k3 k4 k5 k6 k7 hpsl
        go_wp2_with fail
        refine (HIH.out _ HWR1.out).mono ?_
        rintro e w3 ⟨hb3, k0, ty, b0, i0, tx, a5', n5, c5', a6', n6, c6', h0, rfl, hd3⟩
        have HB3 := Lib.hid hb3
        have HD3 := Lib.hid hd3
        have hz3 : W1.heap.size ≤ w3.heap.size := hb3.size
        clear hb3 hd3
        go_wp2_with (first
          | (at_builtin; refine wpList_append_lies _ rfl (.tmp 18) (.tmp 21) 24 rfl wc.heap.size 26 i26 _ 8 112 Try.underlying24 hi26 hz26 hs26 hb26 rfl (by omega) v us.length _ rfl ((owns_later HOW.out HB3.out).alloc _) ⟨w3.heap.size, 0, none⟩ 1 1 [.int .i64 k0, .string ty, .int .u64 b0, .int .u64 i0, .string tx, .slice a5' n5 c5', .slice a6' n6 c6', .int .i64 h0] rfl rfl (World.news_of_block (cs := #[.int .i64 k0, .string ty, .int .u64 b0, .int .u64 i0, .string tx, .slice a5' n5 c5', .slice a6' n6 c6', .int .i64 h0]) (t := 26) (fr := (0, 0)) (heap_alloc_new w3 _)) (by simp [Value.oneCell']) (by omega) hmx hbx (by simp; omega) (w3.heap.size + 1) (by simp) ?_; intro gg cap w6 hown6 hgrow6 hat6 hlt6; have HOwn6 := Lib.hid hown6; have HGrow6 := Lib.hid hgrow6; have HAt6 := Lib.hid hat6; clear hown6 hgrow6 hat6))
        have HDN : Hid (DRow wc.heap.size vn (.slice (some ⟨gg, 0, none⟩) (us.length + 1) cap) (us ++ [.agg #[.int .i64 k0, .string ty, .int .u64 b0, .int .u64 i0, .string tx, .slice a5' n5 c5', .slice a6' n6 c6', .int .i64 h0]]) (ps.take (i + 1)) w6) := by
          show DRow _ _ _ _ _ _
          rw [List.take_succ_eq_append_getElem hin, HZE.out]
          exact HD1.out.push HB3.out rfl HD3.out HGZ1 (Below.new _) HOwn6.out HGrow6.out (by rcases HAt6.out with h | h; exact .inl h; right; omega) (fun k h => by have := (HM.out.nr.lt k h).2; omega)
        have HGN : Hid (Below wc.heap.size wc w6) := ((HG1.out.next HB3.out).push _).grown HGrow6.out (by simp; omega) (fun k hk => (HOW.out.lt k hk).1)
        have HUN : Hid ((us ++ [Value.agg #[.int .i64 k0, .string ty, .int .u64 b0, .int .u64 i0, .string tx, .slice a5' n5 c5', .slice a6' n6 c6', .int .i64 h0]]).length = i + 1) := by show _ = _; rw [List.length_append, List.length_singleton, HU.out]
        go_roundw
        case rel => exact ⟨i + 1, _, _, rfl, by go_num, by omega, HUN, HDN, HGN⟩
        case measure => simp [intOf]; omega
      · obtain rfl : i = ps.length := by omega
        have HDall : Hid (DRow wc.heap.size vn v us d.parts wr) := by
          have := HD.out
          rw [List.take_of_length_le (Nat.le_refl _)] at this
          rw [HPS.out]
          exact Lib.hid this
        have HNR : Hid (wr.ownsRow (w.heap.size + 2) 9 1 vn d.names.length (d.names.map Value.string)) := owns_later HM.out.nr HG.out
        have HBR := Lib.hid (HM.out.br.below HG.out)
        have HBB := Lib.hid (HM.out.bb.below HG.out)
        obtain ⟨an, cn, ap, cp, rfl, rfl, hfin⟩ := copy_fin HDall.out HNR.out HSZ
        have HFin := Lib.hid hfin
        clear hfin
        have s6 := HBB.out.c6
        have sf6 := HBB.out.f 6
        go_upto_region 9 with fail
        have HBB2 := Lib.hid (HBB.out.put6 (.slice ap d.parts.length cp))
        have HBR2 : Hid (Blk (wr.setCell ⟨w.heap.size, 6, none⟩ (.slice ap d.parts.length cp)) (w.heap.size + 1) (.int .i64 0) (.string ⟨#[]⟩) (.int .u64 0) (.int .u64 0) (.string ⟨#[]⟩) (.slice none 0 0) (.slice none 0 0) (.int .i64 0)) := HBR.out.keep (Below.heap_setCell _ _ _ _ (by show w.heap.size + 1 ≠ w.heap.size; omega))
        have HWf : Hid (Below w.heap.size w (wr.setCell ⟨w.heap.size, 6, none⟩ (.slice ap d.parts.length cp))) := HWR.out.setCell (p := ⟨w.heap.size, 6, none⟩) (Nat.le_refl _) _
        have HKP1 : Hid (∀ k, k ≠ w.heap.size → (wr.setCell ⟨w.heap.size, 6, none⟩ (.slice ap d.parts.length cp)).heap[k]? = wr.heap[k]?) := fun k hk => Below.heap_setCell _ _ _ _ hk
        clear s6 sf6
        generalize wr.setCell ⟨w.heap.size, 6, none⟩ (.slice ap d.parts.length cp) = W6 at HBB2 HBR2 HWf HKP1 ⊢
        obtain ⟨r0, r1, r2, r3, r4, r5, r6, r7, rf⟩ := HBR2.out
        have rf0 := rf 0
        have rf1 := rf 1
        have rf2 := rf 2
        have rf3 := rf 3
        have rf4 := rf 4
        have rf5 := rf 5
        have rf6 := rf 6
        have rf7 := rf 7
        obtain ⟨s0, s1, s2, s3, s4, s5, s6, s7, sf⟩ := HBB2.out
        clear rf sf
        go_wp2_with fail
        change bodyPost Try.prog Try.f19 _ _ _ (st8 W6 (w.heap.size + 1) (.int .i64 d.kind) (.string d.type) (.int .u64 d.bits) (.int .u64 d.imag) (.string d.text) (.slice an d.names.length cn) (.slice ap d.parts.length cp) (.int .i64 d.hook))
        have hb3 := Blk.put W6 (w.heap.size + 1) HBR2.out (.int .i64 d.kind) (.string d.type) (.int .u64 d.bits) (.int .u64 d.imag) (.string d.text) (.slice an d.names.length cn) (.slice ap d.parts.length cp) (.int .i64 d.hook)
        have HBW := Lib.hid (st8_below HWf.out (by omega : w.heap.size ≤ w.heap.size + 1) (.int .i64 d.kind) (.string d.type) (.int .u64 d.bits) (.int .u64 d.imag) (.string d.text) (.slice an d.names.length cn) (.slice ap d.parts.length cp) (.int .i64 d.hook))
        have HKP := Lib.hid (fun k (hk : k ≠ w.heap.size + 1) => st8_other (w := W6) (b := w.heap.size + 1) (u0 := .int .i64 d.kind) (u1 := .string d.type) (u2 := .int .u64 d.bits) (u3 := .int .u64 d.imag) (u4 := .string d.text) (u5 := .slice an d.names.length cn) (u6 := .slice ap d.parts.length cp) (u7 := .int .i64 d.hook) hk)
        generalize st8 W6 (w.heap.size + 1) (.int .i64 d.kind) (.string d.type) (.int .u64 d.bits) (.int .u64 d.imag) (.string d.text) (.slice an d.names.length cn) (.slice ap d.parts.length cp) (.int .i64 d.hook) = W9 at hb3 HBW HKP ⊢
        clear r0 r1 r2 r3 r4 r5 r6 r7 rf0 rf1 rf2 rf3 rf4 rf5 rf6 rf7 s0 s1 s2 s3 s4 s5 s6 s7
        have zc0 := hb3.c0
        have zc1 := hb3.c1
        have zc2 := hb3.c2
        have zc3 := hb3.c3
        have zc4 := hb3.c4
        have zc5 := hb3.c5
        have zc6 := hb3.c6
        have zc7 := hb3.c7
        refine bodyPost_ret (v := .agg #[.int .i64 d.kind, .string d.type, .int .u64 d.bits, .int .u64 d.imag, .string d.text, .slice an d.names.length cn, .slice ap d.parts.length cp, .int .i64 d.hook]) (by simp [results, Try.f19, go_sem, zc0, zc1, zc2, zc3, zc4, zc5, zc6, zc7]) rfl ?_
        refine ⟨HBW.out, _, _, _, _, _, _, _, _, _, _, _, _, rfl, ?_⟩
        obtain ⟨hk, hb, hi, ht, htx, hh⟩ := HK.out
        have hn := HN.out
        refine HFin.out W9 (fun k hk => (HKP.out k (by omega)).trans (HKP1.out k (by omega))) hk hb hi hh ht htx hn.2.1 ?_ ?_
        · obtain ⟨_, _, _, _, _, _, h5⟩ := hn
          exact h5
        · have := HPSZ.out
          unfold cap47
          omega
end Go.Proofs.Ythpgnhmikffcpaa

/- A descriptor's memory written over: the law's helper spoil. Condition: the descriptor lies in blocks of its own that may be written. -/
namespace Go.Proofs.Ythpgnhmikffcpaa
set_option linter.unusedVariables false
set_option linter.unusedSimpArgs false
open Go.RowKit

/-- What spoil leaves. -/
def SpoilPost (lo : Nat) (S : Nat → Prop) (w : World) (e : Ending) (w' : World) : Prop :=
  e = .returned (.tuple #[]) ∧ Below lo w w' ∧ ∀ k, k < w.heap.size → ¬ S k → w'.heap[k]? = w.heap[k]?
/-- Eight stores into a row. -/
def st8o (w : World) (b o : Nat) (u0 u1 u2 u3 u4 u5 u6 u7 : Value) : World := (((((((w.setCell ⟨b, o, none⟩ u0).setCell ⟨b, o + 1, none⟩ u1).setCell ⟨b, o + 2, none⟩ u2).setCell ⟨b, o + 3, none⟩ u3).setCell ⟨b, o + 4, none⟩ u4).setCell ⟨b, o + 5, none⟩ u5).setCell ⟨b, o + 6, none⟩ u6).setCell ⟨b, o + 7, none⟩ u7
theorem st8o_below {B : Nat} {a w : World} (h : Below B a w) {b : Nat} (hb : B ≤ b) (o : Nat) (u0 u1 u2 u3 u4 u5 u6 u7 : Value) : Below B a (st8o w b o u0 u1 u2 u3 u4 u5 u6 u7) :=
  (((((((h.setCell (p := ⟨b, o, none⟩) hb _).setCell (p := ⟨b, o + 1, none⟩) hb _).setCell (p := ⟨b, o + 2, none⟩) hb _).setCell (p := ⟨b, o + 3, none⟩) hb _).setCell (p := ⟨b, o + 4, none⟩) hb _).setCell (p := ⟨b, o + 5, none⟩) hb _).setCell (p := ⟨b, o + 6, none⟩) hb _).setCell (p := ⟨b, o + 7, none⟩) hb _
theorem st8o_other {w : World} {b o : Nat} {u0 u1 u2 u3 u4 u5 u6 u7 : Value} {k : Nat} (h : k ≠ b) : (st8o w b o u0 u1 u2 u3 u4 u5 u6 u7).heap[k]? = w.heap[k]? := by
  unfold st8o
  repeat rw [Below.heap_setCell _ _ _ _ h]
theorem put_off {w : World} {b i j : Nat} {u : Value} (hij : j ≠ i) : (w.setCell ⟨b, i, none⟩ u).cell? ⟨b, j, none⟩ = w.cell? ⟨b, j, none⟩ := World.cell?_setCell_other _ _ _ _ (by intro e; injection e; omega)
theorem st8o_off {w : World} {b o j : Nat} {u0 u1 u2 u3 u4 u5 u6 u7 : Value} (h : j < o ∨ o + 7 < j) : (st8o w b o u0 u1 u2 u3 u4 u5 u6 u7).cell? ⟨b, j, none⟩ = w.cell? ⟨b, j, none⟩ := by
  unfold st8o
  rw [put_off (by omega), put_off (by omega), put_off (by omega), put_off (by omega), put_off (by omega), put_off (by omega), put_off (by omega), put_off (by omega)]
theorem st8o_row {w : World} {b o q : Nat} {u0 u1 u2 u3 u4 u5 u6 u7 : Value} (h : o + 7 < q) : rowD (st8o w b o u0 u1 u2 u3 u4 u5 u6 u7) b q = rowD w b q := by
  unfold rowD
  rw [st8o_off (by omega), st8o_off (by omega), st8o_off (by omega), st8o_off (by omega), st8o_off (by omega), st8o_off (by omega), st8o_off (by omega), st8o_off (by omega)]
theorem st8o_frozen {w : World} {b o j : Nat} {u0 u1 u2 u3 u4 u5 u6 u7 : Value} : (st8o w b o u0 u1 u2 u3 u4 u5 u6 u7).frozen? ⟨b, j, none⟩ = w.frozen? ⟨b, j, none⟩ := by
  simp [st8o]
/-- The names written over, so far. -/
structure Sp1 (lo : Nat) (w1 wr : World) (b5 o5 n : Nat) : Prop where
  b : Below lo w1 wr
  k : ∀ k, k ≠ b5 ∨ n = 0 → wr.heap[k]? = w1.heap[k]?
  c : ∀ j, j < n → (∃ u, wr.cell? ⟨b5, o5 + j, none⟩ = some u) ∧ wr.frozen? ⟨b5, o5 + j, none⟩ = false
theorem Sp1.step {lo : Nat} {w1 wr : World} {b5 o5 n i : Nat} (h : Sp1 lo w1 wr b5 o5 n) (hi : i < n) (hlo : lo ≤ b5) (u : Value) : Sp1 lo w1 (wr.setCell ⟨b5, o5 + i, none⟩ u) b5 o5 n := by
  refine ⟨h.b.setCell (p := ⟨b5, o5 + i, none⟩) hlo _, fun k hk => ?_, fun j hj => ⟨?_, by simpa using (h.c j hj).2⟩⟩
  · rw [Below.heap_setCell _ _ _ _ (by show k ≠ b5; omega)]
    exact h.k k hk
  · obtain ⟨⟨x, hx⟩, _⟩ := h.c j hj
    by_cases e : j = i
    · subst e; exact ⟨u, put_same hx⟩
    · exact ⟨x, put_other hx (by omega)⟩
/-- The parts written over, so far. -/
structure Sp2 (lo : Nat) (w2 wr : World) (b6 o6 : Nat) (ps : List D) (P : Nat → Nat → Prop) (i : Nat) : Prop where
  b : Below lo w2 wr
  k : ∀ k, k < w2.heap.size → k ≠ b6 ∨ ps.length = 0 → (∀ j, j < ps.length → ¬ P j k) → wr.heap[k]? = w2.heap[k]?
  r : ∀ j (h : j < ps.length), i ≤ j → IsDF wr (P j) (rowD wr b6 (o6 + j * 8)) ps[j]
  f : ∀ j, j < ps.length → ∀ c, c < 8 → wr.frozen? ⟨b6, o6 + j * 8 + c, none⟩ = false
theorem Sp2.step {lo : Nat} {w2 wr w3 : World} {b6 o6 i : Nat} {ps : List D} {P : Nat → Nat → Prop} (h : Sp2 lo w2 wr b6 o6 ps P i) (hi : i < ps.length) (hlo : lo ≤ b6) (hb : b6 < wr.heap.size) (p6 : ∀ j, j < ps.length → ∀ k, P j k → k ≠ b6) (p7 : ∀ i j k, i ≠ j → P i k → ¬ P j k)
    (hB : Below lo wr w3) (hK : ∀ k, k < wr.heap.size → ¬ P i k → w3.heap[k]? = wr.heap[k]?) (u0 u1 u2 u3 u4 u5 u6 u7 : Value) : Sp2 lo w2 (st8o w3 b6 (o6 + i * 8) u0 u1 u2 u3 u4 u5 u6 u7) b6 o6 ps P (i + 1) := by
  have h6 : w3.heap[b6]? = wr.heap[b6]? := hK b6 hb (fun q => p6 i hi _ q rfl)
  have hz := h.b.size
  refine ⟨st8o_below (h.b.trans hB) hlo _ _ _ _ _ _ _ _ _, fun k hk hk6 hkp => ?_, fun j hj hij => ?_, fun j hj c hc => ?_⟩
  · rw [st8o_other (by omega), hK k (by omega) (hkp i hi)]
    exact h.k k hk hk6 hkp
  · have q := isDF_row (h.r j hj (by omega)) h6 (fun k hk hR => hK k hk (fun hi' => p7 j i k (by omega) hR hi'))
    rw [st8o_row (by omega)]
    exact q.keep fun k hk hR => st8o_other (p6 j hj k hR)
  · rw [st8o_frozen, frozen_blk h6]
    exact h.f j hj c hc
set_option maxHeartbeats 4000000 in
set_option maxRecDepth 100000 in
theorem spoil_any : ∀ (d : D), wholeD d ≤ 400 → ∀ (lo : Nat) (w : World) (S : Nat → Prop) (v : Value), IsDF w S v d → (∀ k, S k → lo ≤ k) → lo ≤ w.heap.size → Calls Try.prog 20 #[v] w (SpoilPost lo S w) := by
  refine D.induct_d fun d ih hsz lo w S v h hS hlw => ?_
  have hps : d.parts.length ≤ 400 := by have := wholeL_len d.parts; rw [wholeD_eq] at hsz; omega
  have IH : Hid (∀ x ∈ d.parts, ∀ (lo : Nat) (w : World) (S : Nat → Prop) (v : Value), IsDF w S v x → (∀ k, S k → lo ≤ k) → lo ≤ w.heap.size → Calls Try.prog 20 #[v] w (SpoilPost lo S w)) := by
    intro x hx
    refine ih x hx ?_
    have := wholeL_mem hx; rw [wholeD_eq] at hsz; omega
  have h := h.clip
  have hSS : ∀ k, (S k ∧ k < w.heap.size) → S k ∧ k < w.heap.size := fun k h => h
  generalize hSe : (fun k => S k ∧ k < w.heap.size) = S' at h
  have hS' : ∀ k, S' k ↔ S k ∧ k < w.heap.size := fun k => by rw [← hSe]
  clear hSe hSS
  cases h with
  | mk _ _ a5 c5 a6 c6 b5 o5 b6 o6 P hk hb hi hh ht hx n1 n2 n3 n4 n5 p1 p2 p3 p4 p5 p6 p7 p8 =>
  have hnl : d.names.length ≤ 140737488355328 := n2
  have N3 := Lib.hid n3
  have N4 := Lib.hid n4
  have P3 := Lib.hid p3
  have P4 := Lib.hid p4
  have P5 := Lib.hid p5
  have P6 := Lib.hid p6
  have P7 := Lib.hid p7
  have P8 := Lib.hid p8
  have HS := Lib.hid hS
  have HS' := Lib.hid hS'
  clear hk hb hi hh ht hx n2 n3 n4 n5 p2 p3 p4 p5 p6 p7 p8 ih hsz hS hS'
  have HLW := Lib.hid hlw
  unfold aggD
  go_enter Try.func20, Try.ntmps20
  go_upto_region 1 with fail
  have HBp := Lib.hid (Blk.of (heap_alloc_new w (.cells #[.int .i64 d.kind, .string d.type, .int .u64 d.bits, .int .u64 d.imag, .string d.text, .slice a5 d.names.length c5, .slice a6 d.parts.length c6, .int .i64 d.hook] 26)))
  have HB1 := Lib.hid (Below.new (w := w) (.cells #[.int .i64 d.kind, .string d.type, .int .u64 d.bits, .int .u64 d.imag, .string d.text, .slice a5 d.names.length c5, .slice a6 d.parts.length c6, .int .i64 d.hook] 26))
  have hz1 : (w.alloc (.cells #[.int .i64 d.kind, .string d.type, .int .u64 d.bits, .int .u64 d.imag, .string d.text, .slice a5 d.names.length c5, .slice a6 d.parts.length c6, .int .i64 d.hook] 26)).heap.size = w.heap.size + 1 := by simp
  generalize w.alloc (.cells #[.int .i64 d.kind, .string d.type, .int .u64 d.bits, .int .u64 d.imag, .string d.text, .slice a5 d.names.length c5, .slice a6 d.parts.length c6, .int .i64 d.hook] 26) = W1 at HBp HB1 hz1 ⊢
  have HZ1 := Lib.hid hz1
  clear hz1 hlw
  have q5 := HBp.out.c5
  have HSP : Hid (Sp1 lo W1 W1 b5 o5 d.names.length) := by
    refine ⟨Below.refl _ _, fun _ _ => rfl, fun j hj => ?_⟩
    obtain ⟨x, y⟩ := N4.out j hj
    exact ⟨⟨_, cell_below HB1.out x⟩, (HB1.out.frozen (World.block_lt_of_cell? w _ x)).trans y⟩
  go_wp2_with fail
  clear q5
  go_loopw [2, 7] (fun _ kk wr => ∃ i : Nat, kk = .int .i64 (i : Int) ∧ i ≤ d.names.length ∧ Hid (Sp1 lo W1 wr b5 o5 d.names.length)) (fun _ kk _ => d.names.length - (intOf kk).toNat)
  case atStart => exact ⟨0, rfl, Nat.zero_le _, HSP⟩
  case round =>
    obtain ⟨i, rfl, hin, HP1⟩ := hrel
    by_cases hi : i < d.names.length
    · obtain ⟨rfl, hs5⟩ := N3.out (by omega)
      have hb5 := (HS'.out b5).1 hs5
      have hlo5 : lo ≤ b5 := HS.out b5 hb5.1
      obtain ⟨⟨x, hx⟩, hf⟩ := HP1.out.c i hi
      have q5 := (HBp.out.keep (HP1.out.k w.heap.size (.inl (by have := hb5.2; omega)))).c5
      have HN := Lib.hid (HP1.out.step hi hlo5 (.string ⟨#[63]⟩))
      clear hb5 hs5
      go_wp2_with fail
      go_roundw
      case rel => exact ⟨i + 1, by go_num, by omega, HN⟩
      case measure => simp [intOf]; omega
    · obtain rfl : i = d.names.length := by omega
      obtain ⟨wo, hwo⟩ : ∃ wo : World, wo = wr := ⟨_, rfl⟩
      subst hwo
      have HBpo : Hid (Blk wo w.heap.size (.int .i64 d.kind) (.string d.type) (.int .u64 d.bits) (.int .u64 d.imag) (.string d.text) (.slice a5 d.names.length c5) (.slice a6 d.parts.length c6) (.int .i64 d.hook)) := by
        refine HBp.out.keep (HP1.out.k w.heap.size ?_)
        by_cases h0 : d.names.length = 0
        · exact .inr h0
        · left
          have := ((HS'.out b5).1 (N3.out (by omega)).2).2
          omega
      have q6 := HBpo.out.c6
      have hzo : w.heap.size < wo.heap.size := World.block_lt_of_cell? wo _ q6
      have hkeep : ∀ k, k < w.heap.size → (0 < d.names.length → k ≠ b5) → wo.heap[k]? = w.heap[k]? := fun k hk hne => by
        rw [HP1.out.k k (by omega)]
        exact HB1.out.block k hk
      have HSP2 : Hid (Sp2 lo wo wo b6 o6 d.parts P 0) := by
        refine ⟨Below.refl _ _, fun _ _ _ _ => rfl, fun j hj _ => ?_, fun j hj c hc => ?_⟩
        · have hs6 := (P3.out (by omega)).2
          have := ((HS'.out b6).1 hs6).2
          refine isDF_row (P5.out j hj) (hkeep b6 this (fun h0 e => P8.out (by omega) h0 e.symm)) fun k hk hR => hkeep k hk fun h0 => (P6.out j hj k hR).2.2 h0
        · have hs6 := (P3.out (by omega)).2
          have := ((HS'.out b6).1 hs6).2
          rw [frozen_blk (hkeep b6 this (fun h0 e => P8.out (by omega) h0 e.symm))]
          exact P4.out j hj c hc
      have HKEEP := Lib.hid hkeep
      have HBo : Hid (Below lo w wo) := (HB1.out.mono HLW.out).trans HP1.out.b
      clear hkeep
      go_wp2_with fail
      clear q6
      go_loopw [3, 18] (fun _ kk wr => ∃ i : Nat, kk = .int .i64 (i : Int) ∧ i ≤ d.parts.length ∧ Hid (Sp2 lo wo wr b6 o6 d.parts P i)) (fun _ kk _ => d.parts.length - (intOf kk).toNat)
      case atStart => exact ⟨0, rfl, Nat.zero_le _, HSP2⟩
      case round =>
        obtain ⟨i, rfl, hin, HP2⟩ := hrel
        by_cases hi : i < d.parts.length
        · obtain ⟨rfl, hs6⟩ := P3.out (by omega)
          have hb6 := (HS'.out b6).1 hs6
          have hlo6 : lo ≤ b6 := HS.out b6 hb6.1
          have hz6 : b6 < w.heap.size := hb6.2
          have hzr := HP2.out.b.size
          have HBpr : Hid (Blk wr w.heap.size (.int .i64 d.kind) (.string d.type) (.int .u64 d.bits) (.int .u64 d.imag) (.string d.text) (.slice a5 d.names.length c5) (.slice (some ⟨b6, o6, none⟩) d.parts.length c6) (.int .i64 d.hook)) := by
            refine HBpo.out.keep (HP2.out.k w.heap.size hzo (.inl (by omega)) fun j hj hP => ?_)
            have := (HS'.out _).1 (P6.out j hj _ hP).1
            omega
          obtain ⟨y5, z5, y6, z6, hrow, hY⟩ := (HP2.out.r i hi (Nat.le_refl _)).isD.row
          have HDF : Hid (IsDF wr (P i) (aggD d.parts[i] y5 z5 y6 z6) d.parts[i]) := by
            have := HP2.out.r i hi (Nat.le_refl _)
            rw [hrow.eq] at this
            exact this
          have HIH : Hid (Calls Try.prog 20 #[aggD d.parts[i] y5 z5 y6 z6] wr (SpoilPost lo (P i) wr)) := by
            refine IH.out _ (List.getElem_mem _) lo wr (P i) _ HDF.out (fun k hk => HS.out k ((HS'.out k).1 (P6.out i hi k hk).1).1) ?_
            have := HLW.out
            omega
          have HROW := Lib.hid hrow
          obtain ⟨k0, k1, k2, k3, k4, k5, k6, k7⟩ := hrow
          obtain ⟨y, hy⟩ : ∃ y, d.parts[i] = y := ⟨_, rfl⟩
          rw [hy] at k0 k1 k2 k3 k4 k5 k6 k7 HIH HROW
          clear hY hy hb6 HDF
          unfold aggD at HIH
          have q6 := HBpr.out.c6
          go_upto_region 9 with fail
          go_wp2_with fail
          refine HIH.out.mono ?_
          rintro e w3 ⟨rfl, hB3, hK3⟩
          have HB3 := Lib.hid hB3
          have HK3 := Lib.hid hK3
          have h6 : w3.heap[b6]? = wr.heap[b6]? := hK3 b6 (by omega) (fun q => (P6.out i hi _ q).2.1 rfl)
          have q6 := (HBpr.out.keep (hK3 w.heap.size (by omega) (fun q => by have := ((HS'.out _).1 (P6.out i hi _ q).1).2; omega))).c6
          have u0 := cell_block h6 HROW.out.k0
          have u1 := cell_block h6 HROW.out.k1
          have u2 := cell_block h6 HROW.out.k2
          have u3 := cell_block h6 HROW.out.k3
          have u4 := cell_block h6 HROW.out.k4
          have u5 := cell_block h6 HROW.out.k5
          have u6' := cell_block h6 HROW.out.k6
          have u7 := cell_block h6 HROW.out.k7
          have hfz : ∀ c, c < 8 → w3.frozen? ⟨b6, o6 + i * 8 + c, none⟩ = false := fun c hc => by rw [frozen_blk h6]; exact HP2.out.f i hi c hc
          have f0 : w3.frozen? ⟨b6, o6 + i * 8, none⟩ = false := hfz 0 (by decide)
          have f1 := hfz 1 (by decide)
          have f2 := hfz 2 (by decide)
          have f3 := hfz 3 (by decide)
          have f4 := hfz 4 (by decide)
          have f5 := hfz 5 (by decide)
          have f6 := hfz 6 (by decide)
          have f7 := hfz 7 (by decide)
          have HN := Lib.hid (HP2.out.step hi hlo6 (by omega) (fun j hj k hk => (P6.out j hj k hk).2.1) P7.out hB3 hK3 (.int .i64 (-1)) (.string ⟨#[]⟩) (.int .u64 0) (.int .u64 0) (.string ⟨#[]⟩) (.slice none 0 0) (.slice none 0 0) (.int .i64 0))
          clear hB3 hK3 h6 hfz k0 k1 k2 k3 k4 k5 k6 k7
          go_wp2_with fail
          go_roundw
          case rel => exact ⟨i + 1, by go_num, by omega, HN⟩
          case measure => simp [intOf]; omega
        · obtain rfl : i = d.parts.length := by omega
          go_wp2_with fail
          go_end0
          refine ⟨rfl, HBo.out.trans HP2.out.b, fun k hk hnS => ?_⟩
          have hnS' : ¬ S' k := fun q => hnS ((HS'.out k).1 q).1
          rw [HP2.out.k k (by omega) ?_ fun j hj hP => hnS' (P6.out j hj k hP).1]
          · refine HKEEP.out k hk fun h0 e => hnS' ?_
            rw [e]
            exact (N3.out h0).2
          · by_cases h0 : d.parts.length = 0
            · exact .inr h0
            · left
              intro e
              refine hnS' ?_
              rw [e]
              exact (P3.out (by omega)).2
end Go.Proofs.Ythpgnhmikffcpaa
