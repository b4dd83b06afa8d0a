/- The descriptor of a list, of a map: raw. Condition: the values' numbers are in range. -/
import Derived.Test.YthpgnhmikffcpaaR3a
import Derived.Deep.DeepCutAuto
namespace Go.Proofs.Ythpgnhmikffcpaa
set_option linter.unusedVariables false
set_option linter.unusedSimpArgs false
open Go.RowKit

theorem grown_below {w0 w w' : World} {p : Nat} (h : w0.grownBy w (some p)) (hb : Below w.heap.size w w') : w0.grownBy w' (some p) :=
  ⟨hb.os.trans h.os, hb.tape.trans h.tape, hb.output.trans h.output, Nat.le_trans h.size hb.size, fun k hk hp => (hb.block k (by have := h.size; omega)).trans (h.block k hk hp)⟩
theorem grown_row {w0 w w' : World} {p : Nat} {row : Option Nat} (h : w0.grownBy w (some p)) (hg : w.grownBy w' row) (hr : ∀ k, row = some k → w0.heap.size ≤ k) : w0.grownBy w' (some p) :=
  ⟨hg.os.trans h.os, hg.tape.trans h.tape, hg.output.trans h.output, Nat.le_trans h.size hg.size, fun k hk hp => (hg.block k (by have := h.size; omega) (fun e => by have := hr k e.symm; omega)).trans (h.block k hk hp)⟩
theorem grown_put {w0 w : World} {p : Nat} (h : w0.grownBy w (some p)) (i : Nat) (u : Value) : w0.grownBy (w.setCell ⟨p, i, none⟩ u) (some p) := by
  have hb := (Below.refl 0 w).setCell (p := ⟨p, i, none⟩) (Nat.zero_le _) u
  exact ⟨hb.os.trans h.os, hb.tape.trans h.tape, hb.output.trans h.output, Nat.le_trans h.size hb.size, fun k hk hp => (Below.heap_setCell w ⟨p, i, none⟩ u k (by intro e; exact hp (by rw [e]))).trans (h.block k hk hp)⟩
theorem grown_to_below {w w0 w' : World} {p : Nat} (h : Below w.heap.size w w0) (hg : w0.grownBy w' (some p)) (hp : w.heap.size ≤ p) : Below w.heap.size w w' :=
  h.grown hg h.size (fun k hk => by injection hk with hk; omega)
theorem ne_of_iface {W : World} {p bb o : Nat} {k : Int} {n : ByteArray} {b i : Int} {x : ByteArray} {a5 : Option Addr} {n5 c5 : Nat} {a6 : Option Addr} {n6 c6 : Nat} {h : Int} {t : TypeId} {y : Value}
    (hp : W.heap[p]? = some (.cells #[.int .i64 k, .string n, .int .u64 b, .int .u64 i, .string x, .slice a5 n5 c5, .slice a6 n6 c6, .int .i64 h] 26 (0, 0))) (hc : W.cell? ⟨bb, o, none⟩ = some (.iface t y)) : bb ≠ p := by
  intro e
  subst e
  simp only [World.cell?, hp] at hc
  match o, hc with
  | 0, hc => simp at hc
  | 1, hc => simp at hc
  | 2, hc => simp at hc
  | 3, hc => simp at hc
  | 4, hc => simp at hc
  | 5, hc => simp at hc
  | 6, hc => simp at hc
  | 7, hc => simp at hc
  | o + 8, hc => simp at hc
theorem isDF_row {w w' : World} {S : Nat → Prop} {g o : Nat} {d : D} (h : IsDF w S (rowD w g o) d) (hg : w'.heap[g]? = w.heap[g]?) (hs : ∀ k, k < w.heap.size → S k → w'.heap[k]? = w.heap[k]?) : IsDF w' S (rowD w' g o) d := by
  obtain ⟨x5, y5, x6, y6, hr, _⟩ := h.isD.row
  have hr' : RowD w' g o d x5 y5 x6 y6 := ⟨cell_block hg hr.k0, cell_block hg hr.k1, cell_block hg hr.k2, cell_block hg hr.k3, cell_block hg hr.k4, cell_block hg hr.k5, cell_block hg hr.k6, cell_block hg hr.k7⟩
  have := h.keep hs
  rw [hr.eq] at this
  rw [hr'.eq]; exact this
/-- A descriptor's value with its eight cells open. -/
def RawOpen (W : World) (x : V) (e : Ending) (w' : World) : Prop := Below W.heap.size W w' ∧ ∃ k0 ty b0 i0 tx a5 n5 c5 a6 n6 c6 h0, e = .returned (.agg #[.int .i64 k0, .string ty, .int .u64 b0, .int .u64 i0, .string tx, .slice a5 n5 c5, .slice a6 n6 c6, .int .i64 h0]) ∧
  IsDF w' (W.heap.size ≤ ·) (.agg #[.int .i64 k0, .string ty, .int .u64 b0, .int .u64 i0, .string tx, .slice a5 n5 c5, .slice a6 n6 c6, .int .i64 h0]) (rawV x)
theorem raw_open {W : World} {x : V} {e : Ending} {w' : World} (h : RawPost W x e w') : RawOpen W x e w' := by
  obtain ⟨h1, v, h2, h3⟩ := h
  refine ⟨h1, ?_⟩
  generalize hd : rawV x = d at h3 ⊢
  have h4 := h3
  cases h3 with
  | mk S d a5 c5 a6 c6 b5 o5 b6 o6 P hk hb hi hh ht hx n1 n2 n3 n4 n5 p1 p2 p3 p4 p5 p6 p7 p8 => exact ⟨_, _, _, _, _, _, _, _, _, _, _, _, h2, h4⟩
theorem Blk.keep {w w' : World} {b : Nat} {v0 v1 v2 v3 v4 v5 v6 v7 : Value} (hb : w'.heap[b]? = w.heap[b]?) (h : Blk w b v0 v1 v2 v3 v4 v5 v6 v7) : Blk w' b v0 v1 v2 v3 v4 v5 v6 v7 :=
  ⟨cell_block hb h.c0, cell_block hb h.c1, cell_block hb h.c2, cell_block hb h.c3, cell_block hb h.c4, cell_block hb h.c5, cell_block hb h.c6, cell_block hb h.c7, fun j => by rw [frozen_blk hb]; exact h.f j⟩
theorem Blk.put6 {w : World} {b : Nat} {v0 v1 v2 v3 v4 v5 v6 v7 : Value} (h : Blk w b v0 v1 v2 v3 v4 v5 v6 v7) (u : Value) : Blk (w.setCell ⟨b, 6, none⟩ u) b v0 v1 v2 v3 v4 v5 u v7 :=
  ⟨put_other h.c0 (by decide), put_other h.c1 (by decide), put_other h.c2 (by decide), put_other h.c3 (by decide), put_other h.c4 (by decide), put_other h.c5 (by decide), put_same h.c6, put_other h.c7 (by decide), fun j => by simpa using h.f j⟩
theorem Blk.put5 {w : World} {b : Nat} {v0 v1 v2 v3 v4 v5 v6 v7 : Value} (h : Blk w b v0 v1 v2 v3 v4 v5 v6 v7) (u : Value) : Blk (w.setCell ⟨b, 5, none⟩ u) b v0 v1 v2 v3 v4 u v6 v7 :=
  ⟨put_other h.c0 (by decide), put_other h.c1 (by decide), put_other h.c2 (by decide), put_other h.c3 (by decide), put_other h.c4 (by decide), put_same h.c5, put_other h.c6 (by decide), put_other h.c7 (by decide), fun j => by simpa using h.f j⟩

set_option maxHeartbeats 8000000 in
set_option maxRecDepth 100000 in
theorem raw_many (t : TypeId) (y : Value) (tg : Tag) (b : B) (l : List V) (h82 : t ≠ 82) (h85 : t ≠ 85) (h87 : t ≠ 87) (h90 : t ≠ 90) (h92 : t ≠ 92) (h94 : t ≠ 94) (h95 : t ≠ 95) (h104 : t ≠ 104) (h108 : t ≠ 108) (w : World) (hv : IsV w (.iface t y) (.great tg b 0 [] l)) (hb : b.Rng)
    (ih : ∀ x ∈ l, ∀ (w : World) (v : Value), IsV w v x → Calls Try.prog 45 #[v] w (RawPost w x)) : Calls Try.prog 45 #[.iface t y] w (RawPost w (.great tg b 0 [] l)) := by
  have t82 := fun (y : Value) (w : World) => as82 t y w
  simp only [if_neg h82] at t82
  have t85 := fun (y : Value) (w : World) => as85 t y w
  simp only [if_neg h85] at t85
  have t87 := fun (y : Value) (w : World) => as87 t y w
  simp only [if_neg h87] at t87
  have t90 := fun (y : Value) (w : World) => as90 t y w
  simp only [if_neg h90] at t90
  have t92 := fun (y : Value) (w : World) => as92 t y w
  simp only [if_neg h92] at t92
  have t94 := fun (y : Value) (w : World) => as94 t y w
  simp only [if_neg h94] at t94
  have t95 := fun (y : Value) (w : World) => as95 t y w
  simp only [if_neg h95] at t95
  have t104 := fun (y : Value) (w : World) => as104 t y w
  simp only [if_neg h104] at t104
  have t108 := fun (y : Value) (w : World) => as108 t y w
  simp only [if_neg h108] at t108
  have HV := Lib.hid hv
  have IH := Lib.hid ih
  have HR := Lib.hid hb
  clear hv ih hb
  obtain ⟨i26, hi26, hz26, hs26, hb26⟩ := info_parts vinfo26
  go_enter Try.func45, Try.ntmps45
  go_wp2_with fail
  refine (base_any (HV.out.later (Below.new _))).mono ?_
  rintro e w1 ⟨rfl, hB⟩
  have HB := Lib.hid ((Below.new _).next hB)
  have hbk := (Blk.new w).below hB
  have hsz : w.heap.size < w1.heap.size := by have := hB.size; simp at this; omega
  clear hB
  simp only [V.base, V.isNil, Bool.not_false]
  go_wp2_with fail
  refine (inner_any ((HB.out.push _).push _) HV.out).mono ?_
  rintro e w2 ⟨hB2, al, cl, bb, oo, vs, rfl, hK⟩
  have hpb : w2.heap[w1.heap.size + 1]? = some (.cells #[.int .i64 b.kind, .string b.name, .int .u64 0, .int .u64 0, .string ⟨#[]⟩, .slice none 0 0, .slice none 0 0, .int .i64 b.hook] 26 (0, 0)) := by
    rw [hB2.block _ (by simp)]
    have := heap_alloc_new (w1.alloc (.cells #[.int .i64 b.kind, .string b.name, .int .i64 b.hook] 71)) (.cells #[.int .i64 b.kind, .string b.name, .int .u64 0, .int .u64 0, .string ⟨#[]⟩, .slice none 0 0, .slice none 0 0, .int .i64 b.hook] 26)
    simpa using this
  have hz2 : w1.heap.size + 1 < w2.heap.size := by have := hB2.size; simp at this; omega
  have hbk2 := ((hbk.below (Below.new (.cells #[.int .i64 b.kind, .string b.name, .int .i64 b.hook] 71))).below (Below.new (.cells #[.int .i64 b.kind, .string b.name, .int .u64 0, .int .u64 0, .string ⟨#[]⟩, .slice none 0 0, .slice none 0 0, .int .i64 b.hook] 26))).below hB2
  have HB2 := Lib.hid (((HB.out.push _).push _).next hB2)
  have HPB := Lib.hid hpb
  have HBK2 := Lib.hid hbk2
  have HK := Lib.hid hK
  simp only [kids] at HK ⊢
  have hll : l.length < 1000 := HK.out.len
  clear hB2 hK hpb hbk2 hbk
  go_wp2_with fail
  go_loopw [19, 39] (fun _ kk wr => ∃ (i : Nat) (v : Value) (us : List Value), kk = .int .i64 (i : Int) ∧ i ≤ l.length ∧ Hid (us.length = i) ∧ Hid (DRow w2.heap.size (.slice none 0 0) v us (rawL (l.take i)) wr) ∧ Hid (Blk wr (w1.heap.size + 1) (.int .i64 b.kind) (.string b.name) (.int .u64 0) (.int .u64 0) (.string ⟨#[]⟩) (.slice none 0 0) v (.int .i64 b.hook)) ∧ Hid (w2.grownBy wr (some (w1.heap.size + 1)))) (fun _ kk _ => l.length - (intOf kk).toNat)
  case atStart =>
    exact ⟨0, _, [], rfl, Nat.zero_le _, rfl, DRow.start _ _ _, Blk.of HPB.out, ⟨rfl, rfl, rfl, Nat.le_refl _, fun _ _ _ => rfl⟩⟩
  case round =>
    obtain ⟨i, v, us, rfl, hi, HU, HD, HBL, HG⟩ := hrel
    by_cases hin : i < l.length
    · obtain rfl := HK.out.adr (by omega)
      obtain ⟨s, z, hsz'⟩ := HK.out.ifc i hin
      have hc0 := HK.out.cell i hin
      have hv0 := HK.out.val i hin
      rw [hsz'] at hc0 hv0
      have hne := ne_of_iface HPB.out hc0
      have hc := cell_block (HG.out.block bb (World.block_lt_of_cell? w2 _ hc0) (by intro e; injection e with e; exact hne e)) hc0
      have HIH : Hid (∀ W, Below w.heap.size w W → Calls Try.prog 45 #[.iface s z] W (RawOpen W l[i])) := by
        intro W hW
        refine (IH.out l[i] (List.getElem_mem _) W _ ?_).mono fun e w' h => raw_open h
        exact hv0.later hW
      obtain ⟨x, hx⟩ : ∃ x, x = l[i] := ⟨_, rfl⟩
      rw [← hx] at HIH
      have HX := Lib.hid hx
      have c6 := HBL.out.c6
      have f6 := HBL.out.f 6
      have lp := World.block_lt_of_cell? wr _ c6
      simp only at lp
      have HOW := Lib.hid HD.out.own
      have hun := HU.out
      have HGZ := HG.out.size
      have HWR : Hid (Below w.heap.size w wr) := grown_to_below HB2.out HG.out (by omega)
      have hmx : us.length + 1 ≤ maxLen := by unfold maxLen; omega
      have hbx : (us.length + 1) * 112 ≤ 140737488355328 := by omega
      have hnv : v.ownBlock ≠ some (w1.heap.size + 1) := fun e => by have := HOW.out.lt _ e; omega
      have HNV := Lib.hid hnv
      clear hne hc0 hv0 hsz' hnv hun hx
      go_wp2_with fail
      go_region_law (first
        | (rw [if_pos (by simp [Region.wanted])]; go_simp; go_at_call 45; (with_reducible refine (HIH.out _ HWR.out.drew).mono ?_); rintro e w3 ⟨hb3, k0, ty, b0, i0, tx, a5, n5, c5, a6, n6, c6', h0, rfl, hd3⟩; have HB3 := Lib.hid hb3; have HD3 := Lib.hid hd3; have q6 := cell_below hb3 c6; have qf := (hb3.frozen (p := ⟨w1.heap.size + 1, 6, none⟩) lp).trans f6; have hz3 : wr.heap.size ≤ w3.heap.size := hb3.size; have lq : w1.heap.size + 1 < w3.heap.size := Nat.lt_of_lt_of_le lp hz3; clear hb3 hd3; (try go_simp))
        | (refine step_append_lies _ (by rfl) _ _ _ (by rfl) w2.heap.size 26 i26 _ 8 112 Try.underlying24 hi26 hz26 hs26 hb26 rfl (by omega) v us.length _ (by rfl) ((owns_later HOW.out.drew HB3.out).alloc _) ⟨w3.heap.size, 0, none⟩ 1 1 [.int .i64 k0, .string ty, .int .u64 b0, .int .u64 i0, .string tx, .slice a5 n5 c5, .slice a6 n6 c6', .int .i64 h0] (by rfl) (by rfl) (World.news_of_block (cs := #[.int .i64 k0, .string ty, .int .u64 b0, .int .u64 i0, .string tx, .slice a5 n5 c5, .slice a6 n6 c6', .int .i64 h0]) (t := 26) (fr := (0, 0)) (heap_alloc_new w3 _)) (by simp [Value.oneCell']) (by omega) hmx hbx (by simp; omega) (w3.heap.size + 1) (by simp) ?_; intro gg cap w6 hown6 hgrow6 hat6 hlt6; have bS6 : w6.heap[w1.heap.size + 1]? = w3.heap[w1.heap.size + 1]? := (hgrow6.block _ (by simp; omega) (fun e => HNV.out e.symm)).trans (Below.heap_alloc w3 _ _ lq); have u6 := cell_block bS6 q6; have uf := (frozen_block (o := 6) bS6).trans qf; clear bS6))
      all_goals
        have hb3' : Below wr.heap.size wr w3 := ((Below.refl _ _).drew).next HB3.out
        have hpush : DRow w2.heap.size (.slice none 0 0) (.slice (some ⟨gg, 0, none⟩) (us.length + 1) cap) (us ++ [.agg #[.int .i64 k0, .string ty, .int .u64 b0, .int .u64 i0, .string tx, .slice a5 n5 c5, .slice a6 n6 c6', .int .i64 h0]]) (rawL (l.take i) ++ [rawV x]) w6 :=
          HD.out.push hb3' rfl HD3.out HGZ (Below.new _) hown6 hgrow6 (by rcases hat6 with h | h; exact .inl h; right; omega) (fun k h => by simp [Value.ownBlock] at h)
        have HDN : Hid (DRow w2.heap.size (.slice none 0 0) (.slice (some ⟨gg, 0, none⟩) (us.length + 1) cap) (us ++ [.agg #[.int .i64 k0, .string ty, .int .u64 b0, .int .u64 i0, .string tx, .slice a5 n5 c5, .slice a6 n6 c6', .int .i64 h0]]) (rawL (l.take (i + 1))) (w6.setCell ⟨w1.heap.size + 1, 6, none⟩ (.slice (some ⟨gg, 0, none⟩) (us.length + 1) cap))) := by
          show DRow _ _ _ _ _ _
          rw [List.take_succ_eq_append_getElem hin, ← HX.out, rawL_snoc]
          exact hpush.keep (fun k hk hlo _ => Below.heap_setCell _ _ _ _ (by show k ≠ w1.heap.size + 1; omega)) (by simp)
        have HGN : Hid (w2.grownBy (w6.setCell ⟨w1.heap.size + 1, 6, none⟩ (.slice (some ⟨gg, 0, none⟩) (us.length + 1) cap)) (some (w1.heap.size + 1))) :=
          grown_put (grown_row (grown_below HG.out (hb3'.push _)) hgrow6 (fun k hk => (HOW.out.lt k hk).1)) 6 _
        have bS6 : w6.heap[w1.heap.size + 1]? = w3.heap[w1.heap.size + 1]? := (hgrow6.block _ (by simp; omega) (fun e => HNV.out e.symm)).trans (Below.heap_alloc w3 _ _ lq)
        have HBN := Lib.hid (((HBL.out.below hb3').keep bS6).put6 (.slice (some ⟨gg, 0, none⟩) (us.length + 1) cap))
        have HUN : Hid ((us ++ [Value.agg #[.int .i64 k0, .string ty, .int .u64 b0, .int .u64 i0, .string tx, .slice a5 n5 c5, .slice a6 n6 c6', .int .i64 h0]]).length = i + 1) := by show _ = _; rw [List.length_append, List.length_singleton, HU.out]
        clear hpush bS6 hown6 hgrow6 hat6 hlt6 u6 uf q6 qf c6 f6 hc hb3'
        go_wp2_with fail
        go_roundw
        case rel => exact ⟨i + 1, _, _, by go_num, by omega, HUN, HDN, HBN, HGN⟩
        case measure => simp [intOf]; omega
    · obtain rfl : i = l.length := by omega
      have hD := HD.out
      rw [List.take_length] at hD
      obtain ⟨ap, cp, gp, rfl, p1, p2, p3, ⟨R, p4, p5, p6⟩, _⟩ := hD.parts
      have hlen := rawL_length l
      have hb2 := HBK2.out.keep (HG.out.block w.heap.size (World.block_lt_of_cell? w2 _ HBK2.out.c0) (by intro e; injection e with e; omega))
      have hq := HBL.out
      have HWR := Lib.hid (grown_to_below HB2.out HG.out (by omega))
      have HP := Lib.hid (And.intro p1 (And.intro p2 (And.intro p3 (And.intro p4 (And.intro p5 p6)))))
      have HLEN := Lib.hid hlen
      have hzz : w.heap.size < w2.heap.size := by omega
      clear p1 p2 p3 p4 p5 p6 hlen hD
      have rc0 := hb2.c0
      have rc1 := hb2.c1
      have rc2 := hb2.c2
      have rc3 := hb2.c3
      have rc4 := hb2.c4
      have rc5 := hb2.c5
      have rc6 := hb2.c6
      have rc7 := hb2.c7
      have rf0 := hb2.f 0
      have rf1 := hb2.f 1
      have rf2 := hb2.f 2
      have rf3 := hb2.f 3
      have rf4 := hb2.f 4
      have rf5 := hb2.f 5
      have rf6 := hb2.f 6
      have rf7 := hb2.f 7
      have sc0 := hq.c0
      have sc1 := hq.c1
      have sc2 := hq.c2
      have sc3 := hq.c3
      have sc4 := hq.c4
      have sc5 := hq.c5
      have sc6 := hq.c6
      have sc7 := hq.c7
      have sf0 := hq.f 0
      have sf1 := hq.f 1
      have sf2 := hq.f 2
      have sf3 := hq.f 3
      have sf4 := hq.f 4
      have sf5 := hq.f 5
      have sf6 := hq.f 6
      have sf7 := hq.f 7
      go_upto_region 46 with (fail)
      go_wp2_with fail
      change bodyPost Try.prog Try.f45 _ _ _ (st8 wr w.heap.size (.int .i64 b.kind) (.string b.name) (.int .u64 0) (.int .u64 0) (.string ⟨#[]⟩) (.slice none 0 0) (.slice ap (rawL l).length cp) (.int .i64 b.hook))
      have hb3 := Blk.put wr w.heap.size hb2 (.int .i64 b.kind) (.string b.name) (.int .u64 0) (.int .u64 0) (.string ⟨#[]⟩) (.slice none 0 0) (.slice ap (rawL l).length cp) (.int .i64 b.hook)
      have HBW := Lib.hid (st8_below HWR.out (Nat.le_refl _) (.int .i64 b.kind) (.string b.name) (.int .u64 0) (.int .u64 0) (.string ⟨#[]⟩) (.slice none 0 0) (.slice ap (rawL l).length cp) (.int .i64 b.hook))
      have HKP := Lib.hid (fun k (hk : k ≠ w.heap.size) => st8_other (w := wr) (b := w.heap.size) (u0 := .int .i64 b.kind) (u1 := .string b.name) (u2 := .int .u64 0) (u3 := .int .u64 0) (u4 := .string ⟨#[]⟩) (u5 := .slice none 0 0) (u6 := .slice ap (rawL l).length cp) (u7 := .int .i64 b.hook) hk)
      generalize st8 wr w.heap.size (.int .i64 b.kind) (.string b.name) (.int .u64 0) (.int .u64 0) (.string ⟨#[]⟩) (.slice none 0 0) (.slice ap (rawL l).length cp) (.int .i64 b.hook) = W9 at hb3 HBW HKP ⊢
      clear rc0 rc1 rc2 rc3 rc4 rc5 rc6 rc7 rf0 rf1 rf2 rf3 rf4 rf5 rf6 rf7 sc0 sc1 sc2 sc3 sc4 sc5 sc6 sc7
      have zc0 := hb3.c0
      have zc1 := hb3.c1
      have zc2 := hb3.c2
      have zc3 := hb3.c3
      have zc4 := hb3.c4
      have zc5 := hb3.c5
      have zc6 := hb3.c6
      have zc7 := hb3.c7
      refine bodyPost_ret (v := .agg #[.int .i64 b.kind, .string b.name, .int .u64 0, .int .u64 0, .string ⟨#[]⟩, .slice none 0 0, .slice ap (rawL l).length cp, .int .i64 b.hook]) (by simp [results, Try.f45, go_sem, zc0, zc1, zc2, zc3, zc4, zc5, zc6, zc7]) rfl ?_
      obtain ⟨p1, p2, p3, p4, p5, p6⟩ := HP.out
      have hkp : ∀ k, k < wr.heap.size → w2.heap.size ≤ k → W9.heap[k]? = wr.heap[k]? := fun k _ hk => HKP.out k (by omega)
      refine ⟨HBW.out, _, rfl, IsDF.mk (w.heap.size ≤ ·) (rawV (.great tg b 0 [] l)) none 0 ap cp 0 0 gp 0 R HR.out.1 U64_0 U64_0 HR.out.2.1 HR.out.2.2 cap_0 (Nat.le_refl _) (by simp [rawV, D.names]) (fun h => by simp [rawV, D.names] at h) (fun i h => by simp [rawV, D.names] at h) (fun x h => by simp [rawV, D.names] at h) ?_ ?_ ?_ ?_ ?_ ?_ p6 (fun _ h => by simp [rawV, D.names] at h)⟩
      · simpa [rawV, D.parts] using p1
      · simp only [rawV, D.parts]; rw [HLEN.out]; unfold cap47; omega
      · intro h; simp only [rawV, D.parts] at h; exact ⟨(p2 h).1, by have := (p2 h).2.1; omega⟩
      · intro i h j hj; simp only [rawV, D.parts] at h; rw [frozen_blk (hkp gp (p2 (by omega)).2.2 (p2 (by omega)).2.1)]; exact p3 i h j hj
      · intro i h; simp only [rawV, D.parts] at h ⊢; exact isDF_row (p4 i h) (hkp gp (p2 (by omega)).2.2 (p2 (by omega)).2.1) (fun k hk hR => hkp k hk (p5 i k hR).1)
      · intro i h k hk; simp only [rawV, D.parts] at h; exact ⟨by have := (p5 i k hk).1; omega, (p5 i k hk).2.2.1 (by omega), fun h => by simp [rawV, D.names] at h⟩
end Go.Proofs.Ythpgnhmikffcpaa
