/- The descriptor of a struct: raw. Condition: the values' numbers are in range. -/
import Derived.Test.YthpgnhmikffcpaaZR3
namespace Go.Proofs.Ythpgnhmikffcpaa
set_option linter.unusedVariables false
set_option linter.unusedSimpArgs false
open Go.RowKit

theorem names_row {lo : Nat} {vn : Value} {names : List ByteArray} {w : World} (h : w.ownsRow lo 9 1 vn names.length (names.map Value.string)) :
    ∃ a c g, vn = .slice a names.length c ∧ names.length ≤ c ∧ (0 < names.length → a = some ⟨g, 0, none⟩ ∧ lo ≤ g ∧ g < w.heap.size) ∧ (∀ i (h : i < names.length), w.cell? ⟨g, 0 + i, none⟩ = some (.string names[i])) ∧ ∀ i, i < names.length → w.frozen? ⟨g, 0 + i, none⟩ = false := by
  by_cases h0 : 0 < names.length
  · obtain ⟨g, cap, e1, e2, e3, e4, e5, e6⟩ := owns_cell h h0
    refine ⟨_, cap, g, e1, e4, fun _ => ⟨rfl, e2, e3⟩, fun i hi => ?_, fun i hi => ?_⟩
    · rw [Nat.zero_add]; exact e6 i _ (by simp [hi])
    · rcases h.2 with ⟨e, _⟩ | ⟨g', cap', cur, e1', _, e3', _⟩
      · rw [e1] at e; cases e
      · rw [e1] at e1'
        injection e1' with e1' _ _
        injection e1' with e1'
        injection e1' with e1' _ _
        subst e1'
        simp [World.frozen?, e3']
  · have e : names.length = 0 := by omega
    rcases h.2 with ⟨h1, _⟩ | ⟨g, cap, cur, h1, _⟩
    · exact ⟨none, 0, 0, by rw [h1, e], by omega, fun h => absurd h h0, fun i h => by omega, fun i h => by omega⟩
    · exact ⟨_, cap, 0, h1, by omega, fun h => absurd h h0, fun i h => by omega, fun i h => by omega⟩
set_option maxHeartbeats 16000000 in
set_option maxRecDepth 100000 in
theorem raw_struct (b : B) (a : Option Addr) (c bb oo : Nat) (vs : Nat → Value) (names : List ByteArray) (l : List V) (w : World) (hn : names.length = l.length) (h2 : l.length < 1000) (h3 : 0 < l.length → a = some ⟨bb, oo, none⟩)
    (h4 : ∀ i (h : i < names.length), w.cell? ⟨bb, oo + i * 2, none⟩ = some (.string names[i])) (h4' : ∀ i, i < l.length → w.cell? ⟨bb, oo + i * 2 + 1, none⟩ = some (vs i)) (h5 : ∀ i (h : i < l.length), IsV w (vs i) l[i]) (h6 : ∀ i, i < l.length → ∃ t y, vs i = .iface t y)
    (hr : b.Rng) (hns : ∀ x ∈ names, x.size ≤ cap47) (ih : ∀ x ∈ l, ∀ (w : World) (v : Value), IsV w v x → Calls Try.prog 45 #[v] w (RawPost w x)) :
    Calls Try.prog 45 #[.iface 104 (.agg #[.int .i64 b.kind, .string b.name, .int .i64 b.hook, .slice a l.length c])] w (RawPost w (.great .struct b 0 names l)) := by
  have t82 := as82
  have t85 := as85
  have t87 := as87
  have t90 := as90
  have t92 := as92
  have t94 := as94
  have t95 := as95
  have t104 := as104
  have IH := Lib.hid ih
  have HR := Lib.hid hr
  have HN := Lib.hid hn
  have H3 := Lib.hid h3
  have H4 := Lib.hid h4
  have H4' := Lib.hid h4'
  have H5 := Lib.hid h5
  have H6 := Lib.hid h6
  have HNS := Lib.hid hns
  clear hn h3 h4 h4' h5 h6 ih hr hns
  obtain ⟨i26, hi26, hz26, hs26, hb26⟩ := info_parts vinfo26
  obtain ⟨i9, hi9, hz9, hs9, hb9⟩ := info_parts vinfo9
  have hl9 : l.length ≤ 9223372036854775807 := by omega
  go_enter Try.func45, Try.ntmps45
  go_wp2_with fail
  refine (base_struct b a _ c _).mono ?_
  rintro e w1 ⟨rfl, hB⟩
  have HB := Lib.hid ((Below.new _).next hB)
  have hbk := (Blk.new w).below hB
  have hsz : w.heap.size < w1.heap.size := by have := hB.size; simp at this; omega
  clear hB
  go_wp2_with fail
  have hq : Blk (((w1.alloc (.cells #[.int .i64 b.kind, .string b.name, .int .i64 b.hook] 71)).alloc (.cells #[.int .i64 b.kind, .string b.name, .int .u64 0, .int .u64 0, .string ⟨#[]⟩, .slice none 0 0, .slice none 0 0, .int .i64 b.hook] 26)).alloc (.cells #[.int .i64 b.kind, .string b.name, .int .i64 b.hook, .slice a l.length c] 104)) (w1.heap.size + 1) (.int .i64 b.kind) (.string b.name) (.int .u64 0) (.int .u64 0) (.string ⟨#[]⟩) (.slice none 0 0) (.slice none 0 0) (.int .i64 b.hook) := by
    have := (Blk.of (heap_alloc_new (w1.alloc (.cells #[.int .i64 b.kind, .string b.name, .int .i64 b.hook] 71)) (.cells #[.int .i64 b.kind, .string b.name, .int .u64 0, .int .u64 0, .string ⟨#[]⟩, .slice none 0 0, .slice none 0 0, .int .i64 b.hook] 26))).below (Below.new (.cells #[.int .i64 b.kind, .string b.name, .int .i64 b.hook, .slice a l.length c] 104))
    simpa using this
  have hb2 := ((hbk.below (Below.new (.cells #[.int .i64 b.kind, .string b.name, .int .i64 b.hook] 71))).below (Below.new (.cells #[.int .i64 b.kind, .string b.name, .int .u64 0, .int .u64 0, .string ⟨#[]⟩, .slice none 0 0, .slice none 0 0, .int .i64 b.hook] 26))).below (Below.new (.cells #[.int .i64 b.kind, .string b.name, .int .i64 b.hook, .slice a l.length c] 104))
  have HB2 := Lib.hid (((HB.out.push (.cells #[.int .i64 b.kind, .string b.name, .int .i64 b.hook] 71)).push (.cells #[.int .i64 b.kind, .string b.name, .int .u64 0, .int .u64 0, .string ⟨#[]⟩, .slice none 0 0, .slice none 0 0, .int .i64 b.hook] 26)).push (.cells #[.int .i64 b.kind, .string b.name, .int .i64 b.hook, .slice a l.length c] 104))
  have hz2 : w1.heap.size + 1 < ((((w1.alloc (.cells #[.int .i64 b.kind, .string b.name, .int .i64 b.hook] 71)).alloc (.cells #[.int .i64 b.kind, .string b.name, .int .u64 0, .int .u64 0, .string ⟨#[]⟩, .slice none 0 0, .slice none 0 0, .int .i64 b.hook] 26)).alloc (.cells #[.int .i64 b.kind, .string b.name, .int .i64 b.hook, .slice a l.length c] 104))).heap.size := by simp
  have HQ := Lib.hid hq
  have HBK2 := Lib.hid hb2
  clear hq hb2 hbk
  generalize (((w1.alloc (.cells #[.int .i64 b.kind, .string b.name, .int .i64 b.hook] 71)).alloc (.cells #[.int .i64 b.kind, .string b.name, .int .u64 0, .int .u64 0, .string ⟨#[]⟩, .slice none 0 0, .slice none 0 0, .int .i64 b.hook] 26)).alloc (.cells #[.int .i64 b.kind, .string b.name, .int .i64 b.hook, .slice a l.length c] 104)) = w2 at HQ HBK2 HB2 hz2 ⊢
  go_loopw [15, 103] (fun _ kk wr => ∃ (i : Nat) (vn v : Value) (us : List Value), kk = .int .i64 (i : Int) ∧ i ≤ l.length ∧ Hid (us.length = i) ∧ Hid (DRow w2.heap.size vn v us (rawL (l.take i)) wr) ∧ Hid (wr.ownsRow w2.heap.size 9 1 vn i ((names.take i).map Value.string)) ∧
      Hid (Blk wr (w1.heap.size + 1) (.int .i64 b.kind) (.string b.name) (.int .u64 0) (.int .u64 0) (.string ⟨#[]⟩) vn v (.int .i64 b.hook)) ∧ Hid (w2.grownBy wr (some (w1.heap.size + 1)))) (fun _ kk _ => l.length - (intOf kk).toNat)
  case atStart =>
    exact ⟨0, _, _, [], rfl, Nat.zero_le _, rfl, DRow.start _ _ _, ⟨rfl, .inl ⟨rfl, rfl⟩⟩, HQ.out, ⟨rfl, rfl, rfl, Nat.le_refl _, fun _ _ _ => rfl⟩⟩
  case round =>
    obtain ⟨i, vn, v, us, rfl, hi, HU, HD, HNR, HBL, HG⟩ := hrel
    have HWR : Hid (Below w.heap.size w wr) := grown_to_below HB2.out HG.out (by omega)
    by_cases hin : i < l.length
    · obtain rfl := H3.out (by omega)
      obtain ⟨s, z, hsz'⟩ := H6.out i hin
      have hin' : i < names.length := by rw [HN.out]; exact hin
      have k0 := cell_below HWR.out (H4.out i hin')
      have k1 := cell_below HWR.out (H4'.out i hin)
      have hv0 := H5.out i hin
      rw [hsz'] at k1 hv0
      have HIH : Hid (∀ W, Below w.heap.size w W → Calls Try.prog 45 #[.iface s z] W (RawOpen W l[i])) := fun W hW => (IH.out l[i] (List.getElem_mem _) W _ (hv0.later hW)).mono fun e w' h => raw_open h
      obtain ⟨x, hx⟩ : ∃ x, x = l[i] := ⟨_, rfl⟩
      rw [← hx] at HIH
      have HX := Lib.hid hx
      obtain ⟨nm, hnm⟩ : ∃ nm, nm = names[i] := ⟨_, rfl⟩
      rw [← hnm] at k0
      have HNM := Lib.hid hnm
      have c5 := HBL.out.c5
      have f5 := HBL.out.f 5
      have c6 := HBL.out.c6
      have f6 := HBL.out.f 6
      have lp := World.block_lt_of_cell? wr _ c6
      simp only at lp
      have HOW := Lib.hid HD.out.own
      have hun := HU.out
      have HGZ := HG.out.size
      have hmx : us.length + 1 ≤ maxLen := by unfold maxLen; omega
      have hbx : (us.length + 1) * 112 ≤ 140737488355328 := by omega
      have hmy : i + 1 ≤ maxLen := by unfold maxLen; omega
      have hby : (i + 1) * 16 ≤ 140737488355328 := by omega
      have HNV : Hid (v.ownBlock ≠ some (w1.heap.size + 1)) := fun e => by have := HOW.out.lt _ e; omega
      have HNN : Hid (vn.ownBlock ≠ some (w1.heap.size + 1)) := fun e => by have := HNR.out.lt _ e; omega
      have hpn : wr.heap.size ≠ w1.heap.size + 1 := by omega
      clear hv0 hsz' hun hx hnm
      go_wp2_with fail
      generalize hW0 : wr.alloc (.cells #[.string nm, .iface s z] 106) = W0
      have b0 : Below wr.heap.size wr W0 := by rw [← hW0]; exact Below.new _
      have e0 : W0.cell? ⟨wr.heap.size, 0, none⟩ = some (.string nm) := by rw [← hW0]; simp
      have e1 : W0.cell? ⟨wr.heap.size, 1, none⟩ = some (.iface s z) := by rw [← hW0]; simp
      have HZW0 : Hid (W0.heap.size = wr.heap.size + 1) := by show _ = _; rw [← hW0]; simp
      have hzW0 : wr.heap.size < W0.heap.size := by have := HZW0.out; omega
      have d5 := cell_below b0 c5
      have d6 := cell_below b0 c6
      have g5 : W0.frozen? ⟨w1.heap.size + 1, 5, none⟩ = false := (b0.frozen (p := ⟨w1.heap.size + 1, 5, none⟩) lp).trans f5
      have g6 : W0.frozen? ⟨w1.heap.size + 1, 6, none⟩ = false := (b0.frozen (p := ⟨w1.heap.size + 1, 6, none⟩) lp).trans f6
      clear hW0 c5 c6 f5 f6 k0 k1
      refine late_begin [14, 16] (fun w' => w'.cell? ⟨w1.heap.size + 1, 5, none⟩ = some vn ∧ w'.cell? ⟨w1.heap.size + 1, 6, none⟩ = some v) (fun w' => w'.cell? ⟨wr.heap.size, 0, none⟩ = some (.string nm) ∧ w'.cell? ⟨wr.heap.size, 1, none⟩ = some (.iface s z)) (by kernel_rfl) ?_
      have HS0 : W0.drew.cell? ⟨w1.heap.size + 1, 5, none⟩ = some vn ∧ W0.drew.cell? ⟨w1.heap.size + 1, 6, none⟩ = some v := ⟨d5, d6⟩
      have HT0 : W0.drew.cell? ⟨wr.heap.size, 0, none⟩ = some (.string nm) ∧ W0.drew.cell? ⟨wr.heap.size, 1, none⟩ = some (.iface s z) := ⟨e0, e1⟩
      refine late_take (i := 0) (.pointer (some ⟨w1.heap.size + 1, 5, none⟩)) false rfl (by kernel_rfl) (by kernel_rfl) (by kernel_rfl) (by kernel_rfl) (fun h => by cases h) (fun _ _ _ h => h) (by rfl) (fun W hS hT => ?_) (fun _ => HS0) HT0 (fun h => by cases h) ?_
      · go_simp
      simp only [Act.put, List.getElem_toArray, List.getElem_cons_zero, List.getElem_cons_succ, List.setIfInBounds_toArray, List.set_cons_zero, List.set_cons_succ]
      refine late_take (i := 1) (vn) true rfl (by kernel_rfl) (by kernel_rfl) (by kernel_rfl) (by kernel_rfl) (fun _ => by kernel_rfl) (fun _ _ _ h => h) (by rfl) (fun W hS hT => ?_) (fun _ => HS0) HT0 (fun _ => by kernel_rfl) ?_
      · (obtain ⟨q5, q6⟩ := hS rfl; go_simp)
      simp only [Act.put, List.getElem_toArray, List.getElem_cons_zero, List.getElem_cons_succ, List.setIfInBounds_toArray, List.set_cons_zero, List.set_cons_succ]
      refine late_take (i := 2) (.pointer (some ⟨wr.heap.size, 0, none⟩)) false rfl (by kernel_rfl) (by kernel_rfl) (by kernel_rfl) (by kernel_rfl) (fun h => by cases h) (fun _ _ _ h => h) (by rfl) (fun W hS hT => ?_) (fun _ => HS0) HT0 (fun h => by cases h) ?_
      · go_simp
      simp only [Act.put, List.getElem_toArray, List.getElem_cons_zero, List.getElem_cons_succ, List.setIfInBounds_toArray, List.set_cons_zero, List.set_cons_succ]
      refine late_take (i := 3) (.string nm) false rfl (by kernel_rfl) (by kernel_rfl) (by kernel_rfl) (by kernel_rfl) (fun h => by cases h) (fun _ _ _ h => h) (by rfl) (fun W hS hT => ?_) (fun _ => HS0) HT0 (fun h => by cases h) ?_
      · (obtain ⟨q5, q6⟩ := hT; go_simp)
      simp only [Act.put, List.getElem_toArray, List.getElem_cons_zero, List.getElem_cons_succ, List.setIfInBounds_toArray, List.set_cons_zero, List.set_cons_succ]
      refine late_take (i := 6) (.pointer (some ⟨w1.heap.size + 1, 6, none⟩)) false rfl (by kernel_rfl) (by kernel_rfl) (by kernel_rfl) (by kernel_rfl) (fun h => by cases h) (fun _ _ _ h => h) (by rfl) (fun W hS hT => ?_) (fun _ => HS0) HT0 (fun h => by cases h) ?_
      · go_simp
      simp only [Act.put, List.getElem_toArray, List.getElem_cons_zero, List.getElem_cons_succ, List.setIfInBounds_toArray, List.set_cons_zero, List.set_cons_succ]
      refine late_take (i := 7) (v) true rfl (by kernel_rfl) (by kernel_rfl) (by kernel_rfl) (by kernel_rfl) (fun _ => by kernel_rfl) (fun _ _ _ h => h) (by rfl) (fun W hS hT => ?_) (fun _ => HS0) HT0 (fun _ => by kernel_rfl) ?_
      · (obtain ⟨q5, q6⟩ := hS rfl; go_simp)
      simp only [Act.put, List.getElem_toArray, List.getElem_cons_zero, List.getElem_cons_succ, List.setIfInBounds_toArray, List.set_cons_zero, List.set_cons_succ]
      refine late_take (i := 8) (.pointer (some ⟨wr.heap.size, 1, none⟩)) false rfl (by kernel_rfl) (by kernel_rfl) (by kernel_rfl) (by kernel_rfl) (fun h => by cases h) (fun _ _ _ h => h) (by rfl) (fun W hS hT => ?_) (fun _ => HS0) HT0 (fun h => by cases h) ?_
      · go_simp
      simp only [Act.put, List.getElem_toArray, List.getElem_cons_zero, List.getElem_cons_succ, List.setIfInBounds_toArray, List.set_cons_zero, List.set_cons_succ]
      refine late_take (i := 9) (.iface s z) false rfl (by kernel_rfl) (by kernel_rfl) (by kernel_rfl) (by kernel_rfl) (fun h => by cases h) (fun _ _ _ h => h) (by rfl) (fun W hS hT => ?_) (fun _ => HS0) HT0 (fun h => by cases h) ?_
      · (obtain ⟨q5, q6⟩ := hT; go_simp)
      simp only [Act.put, List.getElem_toArray, List.getElem_cons_zero, List.getElem_cons_succ, List.setIfInBounds_toArray, List.set_cons_zero, List.set_cons_succ]
      refine late_one 4 rfl (by kernel_rfl) (fun K hK => ?_)
      try simp only [List.getElem_toArray, List.getElem_cons_zero, List.getElem_cons_succ]
      go_simp
      have hr4 := heap_alloc_new W0 (.cells #[.string nm] 9)
      have b4 : Below W0.heap.size W0 (W0.alloc (.cells #[.string nm] 9)).drew := (Below.new _).drew
      have z4 : (W0.alloc (.cells #[.string nm] 9)).drew.heap.size = W0.heap.size + 1 := by simp
      have n4 : ∀ j u, ([Value.string nm])[j]? = some u → (W0.alloc (.cells #[.string nm] 9)).drew.cell? ((⟨W0.heap.size, 0, none⟩ : Addr).add j) = some u := World.news_of_block (cs := #[.string nm]) (t := 9) (fr := (0, 0)) hr4
      generalize (W0.alloc (.cells #[.string nm] 9)).drew = W4 at b4 z4 n4 ⊢
      have Z4 := Lib.hid z4
      have z4' : W0.heap.size < W4.heap.size := by omega
      clear hr4 z4
      refine hK _ _ (fun _ => ⟨cell_below b4 d5, cell_below b4 d6⟩) ⟨cell_below b4 e0, cell_below b4 e1⟩ ?_
      clear hK K
      try simp only [Act.put, List.getElem_toArray, List.getElem_cons_zero, List.getElem_cons_succ, List.setIfInBounds_toArray, List.set_cons_zero, List.set_cons_succ]
      refine late_one 5 rfl (by kernel_rfl) (fun K hK => ?_)
      try simp only [List.getElem_toArray, List.getElem_cons_zero, List.getElem_cons_succ]
      rw [if_pos (by simp [Region.wanted])]
      refine wp_append_lies W4 (.tmp 108) (.tmp 111) 23 rfl w2.heap.size 9 i9 (.string ⟨#[]⟩) 1 16 Try.underlying23 hi9 hz9 hs9 hb9 rfl (by omega) vn i _ rfl (owns_later (owns_later HNR.out b0) b4) ⟨W0.heap.size, 0, none⟩ 1 1 [.string nm] rfl rfl n4 (by simp [Value.oneCell']) (by omega) hmy hby (by have := HGZ; omega) (W0.heap.size + 1) Z4.out ?_
      intro g9 cap9 w5 hown5 hgrow5 hat5 hlt5
      have b40 : Below wr.heap.size wr W4 := b0.next b4
      have hz5 := hgrow5.size
      have far5 : ∀ k, k < W4.heap.size → vn.ownBlock ≠ some k → w5.heap[k]? = W4.heap[k]? := fun k hk hne => hgrow5.block k hk (fun e => hne e.symm)
      have nbx : vn.ownBlock ≠ some wr.heap.size := fun e => by have := (HNR.out.lt _ e).2; omega
      have bP5 := far5 (w1.heap.size + 1) (by omega) HNN.out
      have bX5 := far5 wr.heap.size (by omega) nbx
      have j5 := cell_block bP5 (cell_below b4 d5)
      have j6 := cell_block bP5 (cell_below b4 d6)
      have y0 := cell_block bX5 (cell_below b4 e0)
      have y1 := cell_block bX5 (cell_below b4 e1)
      refine hK _ _ (fun _ => ⟨j5, j6⟩) ⟨y0, y1⟩ ?_
      clear hK K
      try simp only [Act.put, List.getElem_toArray, List.getElem_cons_zero, List.getElem_cons_succ, List.setIfInBounds_toArray, List.set_cons_zero, List.set_cons_succ]
      refine late_take (i := 13) (.pointer (some ⟨w1.heap.size + 1, 5, none⟩)) false rfl (by kernel_rfl) (by kernel_rfl) (by kernel_rfl) (by kernel_rfl) (fun h => by cases h) (fun _ _ _ h => h) (by rfl) (fun W hS hT => ?_) (fun _ => ⟨j5, j6⟩) ⟨y0, y1⟩ (fun h => by cases h) ?_
      · go_simp
      simp only [Act.put, List.getElem_toArray, List.getElem_cons_zero, List.getElem_cons_succ, List.setIfInBounds_toArray, List.set_cons_zero, List.set_cons_succ]
      have hW5 : Hid (Below w.heap.size w w5) := by
        have h1 : Below w.heap.size w W4 := HWR.out.next b40
        exact h1.grown hgrow5 h1.size (fun k hk => by have := (HNR.out.lt k hk).1; omega)
      refine late_one 10 rfl (by kernel_rfl) (fun K hK => ?_)
      try simp only [List.getElem_toArray, List.getElem_cons_zero, List.getElem_cons_succ]
      rw [if_pos (by simp [Region.wanted])]
      go_simp
      refine (HIH.out _ hW5.out).mono ?_
      rintro e w3 ⟨hb3, k0, ty, b0', i0, tx, a5, n5, c5, a6, n6, c6, h0, rfl, hd3⟩
      (try go_simp)
      have hz3 := hb3.size
      refine hK _ _ (fun _ => ⟨cell_below hb3 j5, cell_below hb3 j6⟩) ⟨cell_below hb3 y0, cell_below hb3 y1⟩ ?_
      clear hK K
      try simp only [Act.put, List.getElem_toArray, List.getElem_cons_zero, List.getElem_cons_succ, List.setIfInBounds_toArray, List.set_cons_zero, List.set_cons_succ]
      refine late_one 11 rfl (by kernel_rfl) (fun K hK => ?_)
      try simp only [List.getElem_toArray, List.getElem_cons_zero, List.getElem_cons_succ]
      go_simp
      have hr6 := heap_alloc_new w3 (.cells #[.int .i64 k0, .string ty, .int .u64 b0', .int .u64 i0, .string tx, .slice a5 n5 c5, .slice a6 n6 c6, .int .i64 h0] 26)
      have b6 : Below w3.heap.size w3 (w3.alloc (.cells #[.int .i64 k0, .string ty, .int .u64 b0', .int .u64 i0, .string tx, .slice a5 n5 c5, .slice a6 n6 c6, .int .i64 h0] 26)) := Below.new _
      have z6 : (w3.alloc (.cells #[.int .i64 k0, .string ty, .int .u64 b0', .int .u64 i0, .string tx, .slice a5 n5 c5, .slice a6 n6 c6, .int .i64 h0] 26)).heap.size = w3.heap.size + 1 := by simp
      have n6' : ∀ j u, ([Value.int .i64 k0, .string ty, .int .u64 b0', .int .u64 i0, .string tx, .slice a5 n5 c5, .slice a6 n6 c6, .int .i64 h0])[j]? = some u → (w3.alloc (.cells #[.int .i64 k0, .string ty, .int .u64 b0', .int .u64 i0, .string tx, .slice a5 n5 c5, .slice a6 n6 c6, .int .i64 h0] 26)).cell? ((⟨w3.heap.size, 0, none⟩ : Addr).add j) = some u := World.news_of_block (cs := #[.int .i64 k0, .string ty, .int .u64 b0', .int .u64 i0, .string tx, .slice a5 n5 c5, .slice a6 n6 c6, .int .i64 h0]) (t := 26) (fr := (0, 0)) hr6
      generalize w3.alloc (.cells #[.int .i64 k0, .string ty, .int .u64 b0', .int .u64 i0, .string tx, .slice a5 n5 c5, .slice a6 n6 c6, .int .i64 h0] 26) = W6 at b6 z6 n6' ⊢
      have Z6 := Lib.hid z6
      have z6' : w3.heap.size < W6.heap.size := by omega
      clear hr6 z6
      refine hK _ _ (fun _ => ⟨cell_below b6 (cell_below hb3 j5), cell_below b6 (cell_below hb3 j6)⟩) ⟨cell_below b6 (cell_below hb3 y0), cell_below b6 (cell_below hb3 y1)⟩ ?_
      clear hK K
      try simp only [Act.put, List.getElem_toArray, List.getElem_cons_zero, List.getElem_cons_succ, List.setIfInBounds_toArray, List.set_cons_zero, List.set_cons_succ]
      refine late_one 12 rfl (by kernel_rfl) (fun K hK => ?_)
      try simp only [List.getElem_toArray, List.getElem_cons_zero, List.getElem_cons_succ]
      have hnx : ∀ k, (Value.slice (some ⟨g9, 0, none⟩) (i + 1) cap9).ownBlock = some k → vn.ownBlock = some k ∨ wr.heap.size ≤ k := fun k hk => by
        simp only [Value.ownBlock, Option.some.injEq] at hk
        subst hk
        rcases hat5 with h | h
        · exact .inl h
        · right; have := HZW0.out; omega
      have hfar : ∀ k, k < wr.heap.size → vn.ownBlock ≠ some k → w5.heap[k]? = wr.heap[k]? := fun k hk hne => (far5 k (by have := HZW0.out; have := Z4.out; omega) hne).trans (b40.block k hk)
      have hzz5 : wr.heap.size ≤ w5.heap.size := by have := HZW0.out; have := Z4.out; omega
      have HD5 : DRow w2.heap.size (.slice (some ⟨g9, 0, none⟩) (i + 1) cap9) v us (rawL (l.take i)) w5 := HD.out.moved (fun k hk _ hne => hfar k hk hne) hzz5 hnx
      have HO5 := Lib.hid HD5.own
      rw [if_pos (by simp [Region.wanted])]
      refine wp_append_lies W6 (.tmp 114) (.tmp 118) 24 rfl w2.heap.size 26 i26 _ 8 112 Try.underlying24 hi26 hz26 hs26 hb26 rfl (by omega) v us.length _ rfl (owns_later (owns_later HO5.out hb3) b6) ⟨w3.heap.size, 0, none⟩ 1 1 [.int .i64 k0, .string ty, .int .u64 b0', .int .u64 i0, .string tx, .slice a5 n5 c5, .slice a6 n6 c6, .int .i64 h0] rfl rfl n6' (by simp [Value.oneCell']) (by omega) hmx hbx (by omega) (w3.heap.size + 1) Z6.out ?_
      intro gg cap w7 hown7 hgrow7 hat7 hlt7
      have far7 : ∀ k, k < W6.heap.size → v.ownBlock ≠ some k → w7.heap[k]? = W6.heap[k]? := fun k hk hne => hgrow7.block k hk (fun e => hne e.symm)
      have nvx : v.ownBlock ≠ some wr.heap.size := fun e => by have := (HOW.out.lt _ e).2; omega
      have bP7 := far7 (w1.heap.size + 1) (by omega) HNV.out
      have bX7 := far7 wr.heap.size (by omega) nvx
      have m5 := cell_block bP7 (cell_below b6 (cell_below hb3 j5))
      have m6 := cell_block bP7 (cell_below b6 (cell_below hb3 j6))
      have x0 := cell_block bX7 (cell_below b6 (cell_below hb3 y0))
      have x1 := cell_block bX7 (cell_below b6 (cell_below hb3 y1))
      have hblk : Blk w7 (w1.heap.size + 1) (.int .i64 b.kind) (.string b.name) (.int .u64 0) (.int .u64 0) (.string ⟨#[]⟩) vn v (.int .i64 b.hook) := ((((HBL.out.below b40).keep bP5).below hb3).below b6).keep bP7
      have r5 := hblk.f 5
      have r6 := hblk.f 6
      have HBLK := Lib.hid hblk
      clear hblk
      refine hK _ _ (fun _ => ⟨m5, m6⟩) ⟨x0, x1⟩ ?_
      clear hK K
      try simp only [Act.put, List.getElem_toArray, List.getElem_cons_zero, List.getElem_cons_succ, List.setIfInBounds_toArray, List.set_cons_zero, List.set_cons_succ]
      refine late_one 14 rfl (by kernel_rfl) (fun K hK => ?_)
      try simp only [List.getElem_toArray, List.getElem_cons_zero, List.getElem_cons_succ]
      go_simp
      have hb8 : ∀ k, k ≠ w1.heap.size + 1 → (w7.setCell ⟨w1.heap.size + 1, 5, none⟩ (.slice (some ⟨g9, 0, none⟩) (i + 1) cap9)).heap[k]? = w7.heap[k]? := fun k hk => Below.heap_setCell _ _ _ _ hk
      have X0 := cell_block (hb8 wr.heap.size hpn) x0
      have X1 := cell_block (hb8 wr.heap.size hpn) x1
      have HBLK2 := Lib.hid (HBLK.out.put5 (.slice (some ⟨g9, 0, none⟩) (i + 1) cap9))
      have HB8 := Lib.hid hb8
      have hz8 : (w7.setCell ⟨w1.heap.size + 1, 5, none⟩ (.slice (some ⟨g9, 0, none⟩) (i + 1) cap9)).heap.size = w7.heap.size := by simp
      have HZ8 := Lib.hid hz8
      have HG8 := Lib.hid (fun (w0 : World) (h : w0.grownBy w7 (some (w1.heap.size + 1))) => grown_put h 5 (.slice (some ⟨g9, 0, none⟩) (i + 1) cap9))
      clear hb8 hz8
      generalize w7.setCell ⟨w1.heap.size + 1, 5, none⟩ (.slice (some ⟨g9, 0, none⟩) (i + 1) cap9) = w8 at X0 X1 HBLK2 HB8 HZ8 HG8 ⊢
      have s6 := HBLK2.out.c6
      have q6 := HBLK2.out.f 6
      refine hK _ _ (fun h => absurd h (ne_true_of_eq_false (by kernel_rfl))) ⟨X0, X1⟩ ?_
      clear hK K
      try simp only [Act.put, List.getElem_toArray, List.getElem_cons_zero, List.getElem_cons_succ, List.setIfInBounds_toArray, List.set_cons_zero, List.set_cons_succ]
      refine late_take (i := 15) (.pointer (some ⟨w1.heap.size + 1, 6, none⟩)) false rfl (by kernel_rfl) (by kernel_rfl) (by kernel_rfl) (by kernel_rfl) (fun h => by cases h) (fun _ _ _ h => h) (by rfl) (fun W hS hT => ?_) (fun h => absurd h (ne_true_of_eq_false (by kernel_rfl))) ⟨X0, X1⟩ (fun h => by cases h) ?_
      · go_simp
      simp only [Act.put, List.getElem_toArray, List.getElem_cons_zero, List.getElem_cons_succ, List.setIfInBounds_toArray, List.set_cons_zero, List.set_cons_succ]
      refine late_one 16 rfl (by kernel_rfl) (fun K hK => ?_)
      try simp only [List.getElem_toArray, List.getElem_cons_zero, List.getElem_cons_succ]
      go_simp
      refine hK _ _ (fun h => absurd h (ne_true_of_eq_false (by kernel_rfl))) ⟨cell_block (Below.heap_setCell _ _ _ _ hpn) X0, cell_block (Below.heap_setCell _ _ _ _ hpn) X1⟩ ?_
      clear hK K
      try simp only [Act.put, List.getElem_toArray, List.getElem_cons_zero, List.getElem_cons_succ, List.setIfInBounds_toArray, List.set_cons_zero, List.set_cons_succ]
      refine late_done (by kernel_rfl) ?_ _
      have hpush : DRow w2.heap.size (.slice (some ⟨g9, 0, none⟩) (i + 1) cap9) (.slice (some ⟨gg, 0, none⟩) (us.length + 1) cap) (us ++ [.agg #[.int .i64 k0, .string ty, .int .u64 b0', .int .u64 i0, .string tx, .slice a5 n5 c5, .slice a6 n6 c6, .int .i64 h0]]) (rawL (l.take i) ++ [rawV x]) w7 :=
        HD5.push hb3 rfl hd3 (by omega) b6 hown7 hgrow7 (by rcases hat7 with h | h; exact .inl h; right; omega) (fun k hk => by simp only [Value.ownBlock, Option.some.injEq] at hk; omega)
      have HDN : Hid (DRow w2.heap.size (.slice (some ⟨g9, 0, none⟩) (i + 1) cap9) (.slice (some ⟨gg, 0, none⟩) (us.length + 1) cap) (us ++ [.agg #[.int .i64 k0, .string ty, .int .u64 b0', .int .u64 i0, .string tx, .slice a5 n5 c5, .slice a6 n6 c6, .int .i64 h0]]) (rawL (l.take (i + 1))) (w8.setCell ⟨w1.heap.size + 1, 6, none⟩ (.slice (some ⟨gg, 0, none⟩) (us.length + 1) cap))) := by
        show DRow _ _ _ _ _ _
        rw [List.take_succ_eq_append_getElem hin, ← HX.out, rawL_snoc]
        refine hpush.keep (fun k hk hlo _ => ?_) (by have := HZ8.out; simp; omega)
        rw [Below.heap_setCell _ _ _ _ (by show k ≠ w1.heap.size + 1; omega)]
        exact HB8.out k (by omega)
      have hsep : (Value.slice (some ⟨g9, 0, none⟩) (i + 1) cap9).ownBlock ≠ v.ownBlock := fun e => by
        have := HD5.sep g9 (by rw [← e]; rfl)
        exact this rfl
      have HNN9 : Hid ((w8.setCell ⟨w1.heap.size + 1, 6, none⟩ (.slice (some ⟨gg, 0, none⟩) (us.length + 1) cap)).ownsRow w2.heap.size 9 1 (.slice (some ⟨g9, 0, none⟩) (i + 1) cap9) (i + 1) ((names.take (i + 1)).map Value.string)) := by
        show World.ownsRow _ _ _ _ _ _ _
        rw [List.take_succ_eq_append_getElem hin', ← HNM.out, List.map_append, List.map_singleton]
        refine owns_block (owns_later (owns_later hown5 hb3) b6) fun k hk => ?_
        have hk2 := (hown5.lt k hk)
        rw [Below.heap_setCell _ _ _ _ (by show k ≠ w1.heap.size + 1; omega), HB8.out k (by omega)]
        exact far7 k (by omega) (fun e => hsep (by rw [hk, e]))
      have HGN : Hid (w2.grownBy (w8.setCell ⟨w1.heap.size + 1, 6, none⟩ (.slice (some ⟨gg, 0, none⟩) (us.length + 1) cap)) (some (w1.heap.size + 1))) := by
        have g1 : w2.grownBy w5 (some (w1.heap.size + 1)) := grown_row (grown_below HG.out b40) hgrow5 (fun k hk => (HNR.out.lt k hk).1)
        have g2 : w2.grownBy w7 (some (w1.heap.size + 1)) := grown_row (grown_below (grown_below g1 hb3) b6) hgrow7 (fun k hk => (HOW.out.lt k hk).1)
        exact grown_put (HG8.out _ g2) 6 _
      have HBN := Lib.hid (HBLK2.out.put6 (.slice (some ⟨gg, 0, none⟩) (us.length + 1) cap))
      have HUN : Hid ((us ++ [Value.agg #[.int .i64 k0, .string ty, .int .u64 b0', .int .u64 i0, .string tx, .slice a5 n5 c5, .slice a6 n6 c6, .int .i64 h0]]).length = i + 1) := by show _ = _; rw [List.length_append, List.length_singleton, HU.out]
      clear hpush hown7 hgrow7 hat7 hlt7 hown5 hgrow5 hat5 hlt5 m5 m6 x0 x1 X0 X1 s6 q6 r5 r6 j5 j6 y0 y1 d5 d6 g5 g6 e0 e1 HS0 HT0 hsep
      go_wp2_with fail
      go_roundw
      case rel => exact ⟨i + 1, _, _, _, by go_num, by omega, HUN, HDN, HNN9, HBN, HGN⟩
      case measure => simp [intOf]; omega
    · obtain rfl : i = l.length := by omega
      have hD := HD.out
      rw [List.take_length] at hD
      obtain ⟨ap, cp, gp, rfl, p1, p2, p3, ⟨R, p4, p5, p6⟩, p7⟩ := hD.parts
      have hnr := HNR.out
      rw [← HN.out, List.take_length] at hnr
      obtain ⟨an, cn, gn, rfl, q1, q2, q3, q4⟩ := names_row hnr
      have hlen := rawL_length l
      have hb2 := HBK2.out.keep (HG.out.block w.heap.size (World.block_lt_of_cell? w2 _ HBK2.out.c0) (by intro e; injection e with e; omega))
      have hq := HBL.out
      have HP := Lib.hid (And.intro p1 (And.intro p2 (And.intro p3 (And.intro p4 (And.intro p5 (And.intro p6 p7))))))
      have HQQ := Lib.hid (And.intro q1 (And.intro q2 (And.intro q3 q4)))
      have HLEN := Lib.hid hlen
      have hzz : w.heap.size < w2.heap.size := by omega
      clear p1 p2 p3 p4 p5 p6 p7 q1 q2 q3 q4 hlen hD hnr
      have rc0 := hb2.c0
      have rc1 := hb2.c1
      have rc2 := hb2.c2
      have rc3 := hb2.c3
      have rc4 := hb2.c4
      have rc5 := hb2.c5
      have rc6 := hb2.c6
      have rc7 := hb2.c7
      have rf0 := hb2.f 0
      have rf1 := hb2.f 1
      have rf2 := hb2.f 2
      have rf3 := hb2.f 3
      have rf4 := hb2.f 4
      have rf5 := hb2.f 5
      have rf6 := hb2.f 6
      have rf7 := hb2.f 7
      have sc0 := hq.c0
      have sc1 := hq.c1
      have sc2 := hq.c2
      have sc3 := hq.c3
      have sc4 := hq.c4
      have sc5 := hq.c5
      have sc6 := hq.c6
      have sc7 := hq.c7
      have sf0 := hq.f 0
      have sf1 := hq.f 1
      have sf2 := hq.f 2
      have sf3 := hq.f 3
      have sf4 := hq.f 4
      have sf5 := hq.f 5
      have sf6 := hq.f 6
      have sf7 := hq.f 7
      go_upto_region 46 with (fail)
      go_wp2_with fail
      change bodyPost Try.prog Try.f45 _ _ _ (st8 wr w.heap.size (.int .i64 b.kind) (.string b.name) (.int .u64 0) (.int .u64 0) (.string ⟨#[]⟩) (.slice an names.length cn) (.slice ap (rawL l).length cp) (.int .i64 b.hook))
      have hb3 := Blk.put wr w.heap.size hb2 (.int .i64 b.kind) (.string b.name) (.int .u64 0) (.int .u64 0) (.string ⟨#[]⟩) (.slice an names.length cn) (.slice ap (rawL l).length cp) (.int .i64 b.hook)
      have HBW := Lib.hid (st8_below HWR.out (Nat.le_refl _) (.int .i64 b.kind) (.string b.name) (.int .u64 0) (.int .u64 0) (.string ⟨#[]⟩) (.slice an names.length cn) (.slice ap (rawL l).length cp) (.int .i64 b.hook))
      have HKP := Lib.hid (fun k (hk : k ≠ w.heap.size) => st8_other (w := wr) (b := w.heap.size) (u0 := .int .i64 b.kind) (u1 := .string b.name) (u2 := .int .u64 0) (u3 := .int .u64 0) (u4 := .string ⟨#[]⟩) (u5 := .slice an names.length cn) (u6 := .slice ap (rawL l).length cp) (u7 := .int .i64 b.hook) hk)
      generalize st8 wr w.heap.size (.int .i64 b.kind) (.string b.name) (.int .u64 0) (.int .u64 0) (.string ⟨#[]⟩) (.slice an names.length cn) (.slice ap (rawL l).length cp) (.int .i64 b.hook) = W9 at hb3 HBW HKP ⊢
      clear rc0 rc1 rc2 rc3 rc4 rc5 rc6 rc7 rf0 rf1 rf2 rf3 rf4 rf5 rf6 rf7 sc0 sc1 sc2 sc3 sc4 sc5 sc6 sc7
      have zc0 := hb3.c0
      have zc1 := hb3.c1
      have zc2 := hb3.c2
      have zc3 := hb3.c3
      have zc4 := hb3.c4
      have zc5 := hb3.c5
      have zc6 := hb3.c6
      have zc7 := hb3.c7
      refine bodyPost_ret (v := .agg #[.int .i64 b.kind, .string b.name, .int .u64 0, .int .u64 0, .string ⟨#[]⟩, .slice an names.length cn, .slice ap (rawL l).length cp, .int .i64 b.hook]) (by simp [results, Try.f45, go_sem, zc0, zc1, zc2, zc3, zc4, zc5, zc6, zc7]) rfl ?_
      obtain ⟨p1, p2, p3, p4, p5, p6, p7⟩ := HP.out
      obtain ⟨q1, q2, q3, q4⟩ := HQQ.out
      have hkp : ∀ k, k < wr.heap.size → w2.heap.size ≤ k → W9.heap[k]? = wr.heap[k]? := fun k _ hk => HKP.out k (by omega)
      have hnn : ∀ (h : 0 < names.length), (Value.slice an names.length cn).ownBlock = some gn := fun h => by rw [(q2 h).1]; rfl
      refine ⟨HBW.out, _, rfl, IsDF.mk (w.heap.size ≤ ·) (rawV (.great .struct b 0 names l)) an cn ap cp gn 0 gp 0 R HR.out.1 U64_0 U64_0 HR.out.2.1 HR.out.2.2 cap_0 q1 ?_ ?_ ?_ HNS.out ?_ ?_ ?_ ?_ ?_ ?_ p6 ?_⟩
      · simp only [rawV, D.names]; rw [HN.out]; unfold cap47; omega
      · intro h; exact ⟨(q2 h).1, by have := (q2 h).2.1; omega⟩
      · intro i h; have := q2 (by simp only [rawV, D.names] at h; omega); exact ⟨cell_block (hkp gn this.2.2 this.2.1) (q3 i h), by rw [frozen_blk (hkp gn this.2.2 this.2.1)]; exact q4 i h⟩
      · simpa [rawV, D.parts] using p1
      · simp only [rawV, D.parts]; rw [HLEN.out]; unfold cap47; omega
      · intro h; simp only [rawV, D.parts] at h; exact ⟨(p2 h).1, by have := (p2 h).2.1; omega⟩
      · intro i h j hj; simp only [rawV, D.parts] at h; rw [frozen_blk (hkp gp (p2 (by omega)).2.2 (p2 (by omega)).2.1)]; exact p3 i h j hj
      · intro i h; simp only [rawV, D.parts] at h ⊢; exact isDF_row (p4 i h) (hkp gp (p2 (by omega)).2.2 (p2 (by omega)).2.1) (fun k hk hR => hkp k hk (p5 i k hR).1)
      · intro i h k hk; simp only [rawV, D.parts] at h; exact ⟨by have := (p5 i k hk).1; omega, (p5 i k hk).2.2.1 (by omega), fun hn e => (p5 i k hk).2.2.2 (by rw [hnn hn, e])⟩
      · intro h1 h2 e; simp only [rawV, D.parts] at h1; exact p7 h1 (by rw [hnn h2, e])
end Go.Proofs.Ythpgnhmikffcpaa
