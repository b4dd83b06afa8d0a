/- A print begins: the world on the way through printer's Begin. -/
import Derived.Test.YtnalppgjbllehaaGreatDoorL39
import Derived.Test.YtnalppgjbllehaaGreatDoorL33
namespace Go.Proofs.YtnalppgjbllehaaGreatDoor
set_option linter.unusedVariables false
set_option linter.unusedSimpArgs false
open Go.RowKit

/-- What Build makes of a descriptor; of one that is refused nil. -/
def buildV (d : D) : V := if errD d = 0 then (mkV d).getD .nil else .nil
/-- A State that nothing was put to. -/
def StB (W : World) (sb : Nat) (depth : Int) (tab av : Value) : Prop := W.heap[sb]? = some (.cells (stCells (.slice none 0 0) 0 depth tab av 0 false) 47 (0, 0))
/-- The world on the way: of the descriptors ds those of us are built. -/
structure BW (w : World) (sb : Nat) (depth : Int) (tab : Value) (ds : List D) (av : Value) (us : List Value) (xs : List V) (W : World) : Prop where
  blk : StB W sb depth tab av
  own : W.ownsRow (sb + 1) 54 1 av us.length us
  len : xs.length = us.length
  val : ∀ i (h : i < us.length) (h' : i < xs.length), IsVF (fun k => k < W.heap.size ∧ k ≠ sb ∧ av.ownBlock ≠ some k) W us[i] xs[i]
  eq : xs = (ds.take us.length).map buildV
  lo : Below w.heap.size w W
  hsb : w.heap.size = sb
  lt : sb < W.heap.size
theorem StB.lt' {W : World} {sb : Nat} {depth : Int} {tab av : Value} (h : StB W sb depth tab av) : sb < W.heap.size := lt_of_some h
section
variable {w : World} {sb : Nat} {depth : Int} {tab : Value} {ds : List D} {av : Value} {us : List Value} {xs : List V} {W W1 W3 : World}
theorem BW.later (h : BW w sb depth tab ds av us xs W) (hb : Below W.heap.size W W1) : BW w sb depth tab ds av us xs W1 :=
  ⟨(hb.block sb h.lt).trans h.blk, owns_laterV h.own hb, h.len, fun i a b => (h.val i a b).keep fun k hk hk' => ⟨⟨Nat.lt_of_lt_of_le hk'.1 hb.size, hk'.2⟩, hb.block k hk⟩, h.eq, h.lo.next hb, h.hsb, Nat.lt_of_lt_of_le h.lt hb.size⟩
/-- One more was built, and appended. -/
theorem BW.step (h : BW w sb depth tab ds av us xs W1) {u : Value} {x : V} {av' : Value} (hu : IsVF (fun k => k < W1.heap.size ∧ k ≠ sb ∧ av.ownBlock ≠ some k) W1 u x)
    (ho : W3.ownsRow (sb + 1) 54 1 av' (us.length + 1) (us ++ [u])) (hg : W1.grownBy W3 av.ownBlock) (hl : Last av' av W1.heap.size)
    (hx : xs ++ [x] = (ds.take (us.length + 1)).map buildV) : BW w sb depth tab ds av' (us ++ [u]) (xs ++ [x]) (W3.setCell ⟨sb, 4, none⟩ av') := by
  have hne : av.ownBlock ≠ some sb := fun e => by have := (h.own.lt sb e).1; omega
  have hsb3 : W3.heap[sb]? = W1.heap[sb]? := hg.block sb h.lt (fun e => hne e.symm)
  have hkeep : ∀ k, k < W1.heap.size → (k < W1.heap.size ∧ k ≠ sb ∧ av.ownBlock ≠ some k) → (k < (W3.setCell ⟨sb, 4, none⟩ av').heap.size ∧ k ≠ sb ∧ av'.ownBlock ≠ some k) ∧ (W3.setCell ⟨sb, 4, none⟩ av').heap[k]? = W1.heap[k]? := by
    intro k hk hk'
    refine ⟨⟨by have := hg.size; simp; omega, hk'.2.1, fun e => ?_⟩, ?_⟩
    · obtain ⟨g, e1, e2 | e2⟩ := hl
      · rw [e1] at e
        injection e with e
        subst e
        exact hk'.2.2 e2
      · rw [e1] at e
        injection e with e
        omega
    · rw [Below.heap_setCell _ _ _ _ (by show k ≠ sb; exact hk'.2.1)]
      exact hg.block k hk (fun e => hk'.2.2 e.symm)
  refine ⟨?_, ?_, by rw [List.length_append, List.length_append, h.len]; rfl, ?_, by rw [List.length_append, List.length_singleton]; exact hx, ?_, h.hsb, by have := hg.size; have := h.lt; simp; omega⟩
  · unfold StB
    rw [set_block (hsb3.trans h.blk) av']
    rfl
  · rw [List.length_append, List.length_singleton]
    refine owns_blockV ho fun g hgg => Below.heap_setCell _ _ _ _ ?_
    have := (ho.lt g hgg).1
    show g ≠ sb
    omega
  · intro i a b
    rw [List.length_append, List.length_singleton] at a b
    by_cases hi : i < us.length
    · have hi2 : i < xs.length := by rw [h.len]; exact hi
      rw [List.getElem_append_left hi, List.getElem_append_left hi2]
      exact (h.val i hi hi2).keep hkeep
    · have hi1 : i = us.length := by omega
      subst hi1
      rw [List.getElem_append_right (Nat.le_refl _), List.getElem_append_right (by rw [h.len]; exact Nat.le_refl _)]
      simp only [Nat.sub_self, h.len, List.getElem_singleton]
      exact hu.keep hkeep
  · refine ⟨?_, ?_, ?_, ?_, fun k hk => ?_⟩
    · show W3.os = _; rw [hg.os]; exact h.lo.os
    · show W3.tape = _; rw [hg.tape]; exact h.lo.tape
    · show W3.output = _; rw [hg.output]; exact h.lo.output
    · have := hg.size; have := h.lo.size; simp; omega
    · have h1 := h.hsb
      have h2 := h.lt
      rw [Below.heap_setCell _ _ _ _ (by show k ≠ sb; omega), hg.block k (by omega) (fun e => by have := (h.own.lt k e.symm).1; omega)]
      exact h.lo.block k hk
/-- The print has begun. -/
theorem BW.st (h : BW w sb depth tab ds av us xs W) : StW W sb ⟨#[]⟩ (.slice none 0 0) depth tab av 0 false W :=
  ⟨h.blk, ⟨rfl, .inl ⟨rfl, rfl⟩⟩, h.lt, Nat.le_refl _, fun _ _ _ => rfl, rfl, rfl, rfl⟩
theorem BW.args (h : BW w sb depth tab ds av us xs W) (hn : us.length ≤ 16) : ArgsW W sb av us xs :=
  ⟨h.own, h.len, fun j a b => (h.val j a b).keep fun k hk hk' => ⟨⟨hk'.1, hk'.2.1⟩, rfl⟩, hn⟩
end
end Go.Proofs.YtnalppgjbllehaaGreatDoor

/- A print begins: printer's Begin. Condition: the arguments are descriptors in a row. -/
namespace Go.Proofs.YtnalppgjbllehaaGreatDoor
set_option linter.unusedVariables false
set_option linter.unusedSimpArgs false
open Go.RowKit

set_option maxHeartbeats 4000000 in
set_option maxRecDepth 1000000 in
theorem reset_any {W : World} {sb : Nat} {n : Value} (c0 : W.cell? ⟨sb, 0, none⟩ = some (.slice none 0 0)) (c1 : W.cell? ⟨sb, 1, none⟩ = some n) (z0 : W.frozen? ⟨sb, 0, none⟩ = false) (z1 : W.frozen? ⟨sb, 1, none⟩ = false) :
    Calls Tryz.prog 18 #[.pointer (some ⟨sb, 0, none⟩)] W (fun e w' => e = .returned (.tuple #[]) ∧ w' = (W.setCell ⟨sb, 0, none⟩ (.slice none 0 0)).setCell ⟨sb, 1, none⟩ (.int .i64 0)) := by
  go_enter Tryz.func18, Tryz.ntmps18
  go_wp2_with fail
  exact ⟨rfl, .tuple #[], by simp [results, Tryz.f18, go_sem], rfl, rfl⟩
theorem build_one {w : World} {v : Value} {d : D} (h : IsD w v d) : Calls Tryz.prog 19 #[v] w fun e w' => Below w.heap.size w w' ∧ ∃ u en, e = .returned (.tuple #[u, .int .i64 en]) ∧ IsVF (w.heap.size ≤ ·) w' u (buildV d) ∧ (u = .nilIface ∨ ∃ t y, u = .iface t y) := by
  refine (build_any h).mono fun e w' hp => ?_
  obtain ⟨hb, h1, h2⟩ := hp
  refine ⟨hb, ?_⟩
  by_cases he : errD d = 0
  · obtain ⟨t, y, x, hm, e1, hv⟩ := h2 he
    refine ⟨_, _, e1, ?_, .inr ⟨t, y, rfl⟩⟩
    unfold buildV
    rw [if_pos he, hm]
    exact hv
  · refine ⟨_, _, h1 he, ?_, .inl rfl⟩
    unfold buildV
    rw [if_neg he]
    exact .nil0
set_option maxHeartbeats 4000000 in
set_option maxRecDepth 1000000 in
theorem begin_any {w W : World} {sb : Nat} (ds : List D) (a : Option Addr) (c : Nat) (ta : Option Addr) (tn tc : Nat) (depth : Int)
    (h0 : W.heap[sb]? = some (.cells (stCells (.slice none 0 0) 0 0 (.slice none 0 0) (.slice none 0 0) 0 false) 47 (0, 0))) (hsb : w.heap.size = sb) (lo : Below w.heap.size w W) (hp : PartsAt w a c ds) :
    Calls Tryz.prog 13 #[.pointer (some ⟨sb, 0, none⟩), .int .i64 depth, .slice ta tn tc, .slice a ds.length c] W
      (fun e w' => e = .returned (.tuple #[]) ∧ ∃ av us xs, BW w sb depth (.slice ta tn tc) ds av us xs w' ∧ us.length = min ds.length 16) := by
  have HP := Lib.hid hp
  have HLO := Lib.hid lo
  have HSB := Lib.hid hsb
  have H0 := Lib.hid h0
  have hlt := lt_of_some h0
  have c0 : W.cell? ⟨sb, 0, none⟩ = some (.slice none 0 0) := cell_of_heap' h0 0
  have c1 : W.cell? ⟨sb, 1, none⟩ = some (.int .i64 0) := cell_of_heap' h0 1
  have HRS := Lib.hid (reset_any c0 c1 (frozen_of_heap' h0 0) (frozen_of_heap' h0 1))
  have hcap : ds.length ≤ c := hp.1
  obtain ⟨n, hn⟩ : ∃ n, ds.length = n := ⟨_, rfl⟩
  rw [hn] at hcap ⊢
  have HN := Lib.hid hn
  have hn47 : n ≤ 140737488355328 := by rw [← hn]; exact hp.2.1
  obtain ⟨m, hm⟩ : ∃ m, min n 16 = m := ⟨_, rfl⟩
  have hmi : min (n : Int) 16 = (m : Int) := by omega
  have hmn : m ≤ n := by omega
  have hmc : m ≤ c := by omega
  have hm16 : m ≤ 16 := by omega
  have HM := Lib.hid hm
  rw [hm]
  clear h0 lo hsb hn hm c0 c1 hp
  obtain ⟨i0, hi0, hz0, hz1, hz2⟩ := info_parts vinfo30
  go_enter Tryz.func13, Tryz.ntmps13
  go_wp2_with fail
  refine HRS.out.mono ?_
  rintro e W1 ⟨rfl, hw1⟩
  have hb1 : W1.heap[sb]? = some (.cells (stCells (.slice none 0 0) 0 0 (.slice none 0 0) (.slice none 0 0) 0 false) 47 (0, 0)) := by
    rw [hw1, set_block (set_block H0.out _) _]
    rfl
  have HLO1 : Hid (Below w.heap.size w W1) := by
    rw [hw1]
    exact Lib.hid ((HLO.out.setCell (p := ⟨sb, 0, none⟩) (by rw [HSB.out]; exact Nat.le_refl _) _).setCell (p := ⟨sb, 1, none⟩) (by rw [HSB.out]; exact Nat.le_refl _) _)
  clear hw1 HRS H0
  have HB1 := Lib.hid hb1
  have k2 : W1.cell? ⟨sb, 2, none⟩ = some (.int .i64 0) := cell_of_heap' hb1 2
  have k3 : W1.cell? ⟨sb, 3, none⟩ = some (.slice none 0 0) := cell_of_heap' hb1 3
  have k4 : W1.cell? ⟨sb, 4, none⟩ = some (.slice none 0 0) := cell_of_heap' hb1 4
  have k5 : W1.cell? ⟨sb, 5, none⟩ = some (.int .i64 0) := cell_of_heap' hb1 5
  have k6 : W1.cell? ⟨sb, 6, none⟩ = some (.bool false) := cell_of_heap' hb1 6
  have z2 : W1.frozen? ⟨sb, 2, none⟩ = false := frozen_of_heap' hb1 2
  have z3 : W1.frozen? ⟨sb, 3, none⟩ = false := frozen_of_heap' hb1 3
  have z4 : W1.frozen? ⟨sb, 4, none⟩ = false := frozen_of_heap' hb1 4
  have z5 : W1.frozen? ⟨sb, 5, none⟩ = false := frozen_of_heap' hb1 5
  have z6 : W1.frozen? ⟨sb, 6, none⟩ = false := frozen_of_heap' hb1 6
  clear hb1
  go_upto_region 3 with fail
  have HW0 : Hid (BW w sb depth (.slice ta tn tc) ds (.slice none 0 0) [] [] (((((W1.setCell ⟨sb, 2, none⟩ (.int .i64 depth)).setCell ⟨sb, 3, none⟩ (.slice ta tn tc)).setCell ⟨sb, 5, none⟩ (.int .i64 0)).setCell ⟨sb, 6, none⟩ (.bool false)).setCell ⟨sb, 4, none⟩ (.slice none 0 0))) := by
    have hl := HSB.out
    have h1 := (((((HLO1.out.setCell (p := ⟨sb, 2, none⟩) (show w.heap.size ≤ sb by omega) (.int .i64 depth)).setCell (p := ⟨sb, 3, none⟩) (show w.heap.size ≤ sb by omega) (.slice ta tn tc)).setCell (p := ⟨sb, 5, none⟩) (show w.heap.size ≤ sb by omega) (.int .i64 0)).setCell (p := ⟨sb, 6, none⟩) (show w.heap.size ≤ sb by omega) (.bool false)).setCell (p := ⟨sb, 4, none⟩) (show w.heap.size ≤ sb by omega) (.slice none 0 0))
    refine ⟨?_, ⟨rfl, .inl ⟨rfl, rfl⟩⟩, rfl, fun i h => absurd h (Nat.not_lt_zero i), rfl, h1, hl, ?_⟩
    · unfold StB
      rw [set_block (set_block (set_block (set_block (set_block HB1.out _) _) _) _) _]
      rfl
    · have := lt_of_some HB1.out; simpa using this
  generalize (((((W1.setCell ⟨sb, 2, none⟩ (.int .i64 depth)).setCell ⟨sb, 3, none⟩ (.slice ta tn tc)).setCell ⟨sb, 5, none⟩ (.int .i64 0)).setCell ⟨sb, 6, none⟩ (.bool false)).setCell ⟨sb, 4, none⟩ (.slice none 0 0)) = W2 at HW0 ⊢
  clear k2 k3 k4 k5 k6 z2 z3 z4 z5 z6 HB1 HLO1
  go_wp2_with fail
  go_loopw [44] (fun k wr => ∃ (av : Value) (us : List Value) (xs : List V), k = .int .i64 (us.length : Int) ∧ us.length ≤ m ∧ Hid (BW w sb depth (.slice ta tn tc) ds av us xs wr)) (fun k _ => m - (intOf k).toNat)
  case atStart => exact ⟨_, [], [], rfl, Nat.zero_le _, HW0⟩
  case round =>
    obtain ⟨av, us, xs, rfl, hle, HB⟩ := hrel
    by_cases hin : us.length < m
    · have hil : us.length < ds.length := by rw [HN.out]; omega
      obtain ⟨b, o, p5, q5, p6, q6, rfl, hrow, hD⟩ := HP.out.elem HB.out.lo hil
      obtain ⟨k0, k1, k2, k3, k4, k5, k6, k7⟩ := hrow
      have HXS : Hid (xs ++ [buildV ds[us.length]] = (ds.take (us.length + 1)).map buildV) := by
        show _ = _
        rw [List.take_succ_eq_append_getElem hil, List.map_append, ← HB.out.eq]
        rfl
      have HX := Lib.hid hD
      clear hD
      obtain ⟨x, hx⟩ : ∃ x, x = ds[us.length] := ⟨_, rfl⟩
      rw [← hx] at k0 k1 k2 k3 k4 k5 k6 k7 HX HXS
      unfold aggD at HX
      clear hx
      obtain ⟨aa, ac, rfl⟩ := own_slice HB.out.own
      have hne : (Value.slice aa us.length ac).ownBlock ≠ some sb := fun e => by have := (HB.out.own.lt sb e).1; omega
      go_wp2_with fail
      refine (build_one (HX.out.later (Below.new _))).mono ?_
      rintro e W4 ⟨hb4, u, en, rfl, hu, hsh⟩
      have HB4 := Lib.hid (HB.out.later ((Below.new (w := wr) (.cells #[.int .i64 x.kind, .string x.type, .int .u64 x.bits, .int .u64 x.imag, .string x.text, .slice p5 x.names.length q5, .slice p6 x.parts.length q6, .int .i64 x.hook] 29)).next hb4))
      have HUV : Hid (IsVF (fun k => k < W4.heap.size ∧ k ≠ sb ∧ (Value.slice aa us.length ac).ownBlock ≠ some k) W4 u (buildV x)) := by
        refine Lib.hid (hu.mono fun k hk hk' => ⟨hk, ?_, fun e => ?_⟩)
        · have h1 := HB.out.lt
          have h2 : wr.heap.size + 1 ≤ k := by simpa using hk'
          omega
        · have h1 := (HB.out.own.lt k e).2
          have h2 : wr.heap.size + 1 ≤ k := by simpa using hk'
          omega
      have v4 : W4.cell? ⟨sb, 4, none⟩ = some (.slice aa us.length ac) := cell_of_heap' HB4.out.blk 4
      have y4' : W4.frozen? ⟨sb, 4, none⟩ = false := frozen_of_heap' HB4.out.blk 4
      clear k0 k1 k2 k3 k4 k5 k6 k7 HX HB hb4 hu
      rcases hsh with rfl | ⟨t, y, rfl⟩
      · have HB5 := Lib.hid (HB4.out.later (Below.new (w := W4) (.cells #[.nilIface] 54)))
        have HU5 : Hid (IsVF (fun k => k < (W4.alloc (.cells #[.nilIface] 54)).heap.size ∧ k ≠ sb ∧ (Value.slice aa us.length ac).ownBlock ≠ some k) (W4.alloc (.cells #[.nilIface] 54)) .nilIface (buildV x)) :=
          Lib.hid (HUV.out.keep fun k hk hk' => ⟨⟨by simp; omega, hk'.2⟩, (Below.new _).block k hk⟩)
        have hbase : sb + 1 ≤ (W4.alloc (.cells #[.nilIface] 54)).heap.size := HB5.out.lt
        go_wp2_with (at_builtin; refine wpList_append_one _ rfl (.tmp 57) (.tmp 59) 45 rfl (sb + 1) 54 i0 .nilIface 1 16 Tryz.underlying45 hi0 hz0 hz1 hz2 rfl (by decide) _ _ _ rfl HB5.out.own ⟨W4.heap.size, 0, none⟩ 1 [.nilIface] rfl rfl ?c1 ?c2 ?c3 ?c4 hbase ?_)
        case c1 => exact World.news_of_block (cs := #[.nilIface]) (t := 54) (fr := (0, 0)) (heap_alloc_new W4 _)
        case c2 => simp [Value.oneCell']
        case c3 => unfold maxLen; omega
        case c4 => omega
        intro av' W7 ho hg hl
        obtain ⟨a', c', rfl⟩ := own_slice ho
        have hl : Last _ _ _ := hl
        have HN6 := Lib.hid (HB5.out.step HU5.out ho hg (by simpa using hl) (HXS.out))
        have hbk := hg.block sb HB5.out.lt (fun e => hne e.symm)
        have g4 : W7.cell? ⟨sb, 4, none⟩ = some _ := cell_of_heap' (hbk.trans HB5.out.blk) 4
        have y4 : W7.frozen? ⟨sb, 4, none⟩ = false := frozen_of_heap' (hbk.trans HB5.out.blk) 4
        clear ho hg hl hbk HB5 HU5
        go_wp2_with fail
        go_roundw
        case rel => exact ⟨_, _, _, by rw [List.length_append, List.length_singleton]; go_num, by rw [List.length_append, List.length_singleton]; omega, HN6⟩
        case measure => simp [intOf]; omega
      · have HB5 := Lib.hid (HB4.out.later (Below.new (w := W4) (.cells #[.iface t y] 54)))
        have HU5 : Hid (IsVF (fun k => k < (W4.alloc (.cells #[.iface t y] 54)).heap.size ∧ k ≠ sb ∧ (Value.slice aa us.length ac).ownBlock ≠ some k) (W4.alloc (.cells #[.iface t y] 54)) (.iface t y) (buildV x)) :=
          Lib.hid (HUV.out.keep fun k hk hk' => ⟨⟨by simp; omega, hk'.2⟩, (Below.new _).block k hk⟩)
        have hbase : sb + 1 ≤ (W4.alloc (.cells #[.iface t y] 54)).heap.size := HB5.out.lt
        go_wp2_with (at_builtin; refine wpList_append_one _ rfl (.tmp 57) (.tmp 59) 45 rfl (sb + 1) 54 i0 .nilIface 1 16 Tryz.underlying45 hi0 hz0 hz1 hz2 rfl (by decide) _ _ _ rfl HB5.out.own ⟨W4.heap.size, 0, none⟩ 1 [.iface t y] rfl rfl ?c1 ?c2 ?c3 ?c4 hbase ?_)
        case c1 => exact World.news_of_block (cs := #[.iface t y]) (t := 54) (fr := (0, 0)) (heap_alloc_new W4 _)
        case c2 => simp [Value.oneCell']
        case c3 => unfold maxLen; omega
        case c4 => omega
        intro av' W7 ho hg hl
        obtain ⟨a', c', rfl⟩ := own_slice ho
        have hl : Last _ _ _ := hl
        have HN6 := Lib.hid (HB5.out.step HU5.out ho hg (by simpa using hl) (HXS.out))
        have hbk := hg.block sb HB5.out.lt (fun e => hne e.symm)
        have g4 : W7.cell? ⟨sb, 4, none⟩ = some _ := cell_of_heap' (hbk.trans HB5.out.blk) 4
        have y4 : W7.frozen? ⟨sb, 4, none⟩ = false := frozen_of_heap' (hbk.trans HB5.out.blk) 4
        clear ho hg hl hbk HB5 HU5
        go_wp2_with fail
        go_roundw
        case rel => exact ⟨_, _, _, by rw [List.length_append, List.length_singleton]; go_num, by rw [List.length_append, List.length_singleton]; omega, HN6⟩
        case measure => simp [intOf]; omega
    · have hq : us.length = m := by omega
      have HQ := Lib.hid hq
      clear hq
      go_wp2_with fail
      exact ⟨rfl, .tuple #[], by simp [results, Tryz.f13, go_sem], rfl, _, _, _, HB.out, HQ.out⟩
end Go.Proofs.YtnalppgjbllehaaGreatDoor

/- A whole print: printer's At and Sprintf. Condition: the depth is not too great; what Show says (ShowH); the pieces that formatP covers. -/
namespace Go.Proofs.YtnalppgjbllehaaGreatDoor
set_option linter.unusedVariables false
set_option linter.unusedSimpArgs false
open Go.RowKit

/-- What a print of a format is. -/
def atP (sh : V → SpecD → Option ByteArray) (xs : List V) (t : ByteArray) : Option ByteArray := (formatP sh xs t ⟨⟨#[]⟩, 0, false⟩).map fun s => outT s.out
theorem StW.back {WB : World} {sb : Nat} {out : ByteArray} {bv : Value} {depth : Int} {tab av : Value} {next : Int} {re : Bool} {w W : World} (h : StW WB sb out bv depth tab av next re W) (hb : Below w.heap.size w WB) (hsb : w.heap.size = sb) : Below w.heap.size w W :=
  ⟨h.os.trans hb.os, h.tape.trans hb.tape, h.output.trans hb.output, Nat.le_trans hb.size h.size, fun k hk => by
    have := h.lt
    rw [h.keep k (by omega) (by omega)]
    exact hb.block k hk⟩
/-- The bounds that Format asks of its arguments. -/
def TyOk (xs : List V) : Prop := ∀ x ∈ xs, (0 ≤ x.base.kind ∧ x.base.kind ≤ 22) ∧ (typeV x).size ≤ 1000000
set_option maxHeartbeats 4000000 in
set_option maxRecDepth 1000000 in
theorem at_hook {w : World} (depth : Int) (hd : depth ≤ 3) (ta : Option Addr) (tn tc : Nat) (t : ByteArray) (ds : List D) (a : Option Addr) (c : Nat) (hp : PartsAt w a c ds) (sh : V → SpecD → Option ByteArray)
    (H : ∀ WB av, Below w.heap.size w WB → ShowH WB w.heap.size (max 0 depth) (.slice ta tn tc) av sh) (hT : Lib.Utf8Tabs 1 2 w) (ht : t.size ≤ 1000000) (hty : TyOk ((ds.take 16).map buildV)) (r : ByteArray) (hr : atP sh ((ds.take 16).map buildV) t = some r) :
    Calls Tryz.prog 8 #[.int .i64 depth, .slice ta tn tc, .string t, .slice a ds.length c] w (Ret w (.string r)) := by
  have HP := Lib.hid hp
  have HH := Lib.hid H
  have HT := Lib.hid hT
  have HTT := Lib.hid ht
  have HTY := Lib.hid hty
  obtain ⟨s', hs', hr'⟩ : ∃ s', formatP sh ((ds.take 16).map buildV) t ⟨⟨#[]⟩, 0, false⟩ = some s' ∧ outT s'.out = r := by
    unfold atP at hr
    cases hq : formatP sh ((ds.take 16).map buildV) t ⟨⟨#[]⟩, 0, false⟩ with
    | none => rw [hq] at hr; cases hr
    | some s' => rw [hq] at hr; exact ⟨s', rfl, Option.some.inj hr⟩
  have HS' := Lib.hid hs'
  have HR' := Lib.hid hr'
  clear hp H hT ht hty hr hs' hr'
  have hd' : ¬ (3 : Int) < depth := by omega
  have HBG : Hid (∀ W : World, W.heap[w.heap.size]? = some (.cells (stCells (.slice none 0 0) 0 0 (.slice none 0 0) (.slice none 0 0) 0 false) 47 (0, 0)) → Below w.heap.size w W →
      Calls Tryz.prog 13 #[.pointer (some ⟨w.heap.size, 0, none⟩), .int .i64 (max 0 depth), .slice ta tn tc, .slice a ds.length c] W
        (fun e w' => e = .returned (.tuple #[]) ∧ ∃ av us xs, BW w w.heap.size (max 0 depth) (.slice ta tn tc) ds av us xs w' ∧ us.length = min ds.length 16)) :=
    Lib.hid fun W h1 h2 => begin_any ds a c ta tn tc (max 0 depth) h1 rfl h2 HP.out
  go_enter Tryz.func8, Tryz.ntmps8
  go_wp2_with fail
  have hn : (w.alloc (.cells #[.slice none 0 0, .int .i64 0, .int .i64 0, .slice none 0 0, .slice none 0 0, .int .i64 0, .bool false] 47)).heap[w.heap.size]? = some (.cells (stCells (.slice none 0 0) 0 0 (.slice none 0 0) (.slice none 0 0) 0 false) 47 (0, 0)) := heap_alloc_new w _
  refine (HBG.out _ hn (Below.new _)).mono ?_
  rintro e WB ⟨rfl, av, us, xs, hbw, hul⟩
  have HBW := Lib.hid hbw
  have hxe : xs = (ds.take 16).map buildV := by
    rw [hbw.eq, hul]
    congr 1
    by_cases h : ds.length ≤ 16
    · rw [Nat.min_eq_left h, List.take_of_length_le (Nat.le_refl _), List.take_of_length_le h]
    · rw [Nat.min_eq_right (by omega)]
  have HFM := Lib.hid (format_any (w := WB) t sh ⟨⟨#[]⟩, 0, false⟩ s' hbw.st (hbw.args (by omega)) (HH.out WB av hbw.lo) (Utf8Tabs.below HT.out (Utf8Tabs.two HT.out) hbw.lo) HTT.out (by rw [hxe]; exact HTY.out) (Int.le_refl _) (by decide) (by decide) (by rw [hxe]; exact HS'.out))
  clear hn hbw hul hxe HBG
  go_wp2_with fail
  refine HFM.out.mono ?_
  rintro e W2 ⟨rfl, ⟨bv', hst⟩, hke⟩
  have HTX := Lib.hid (text_any hst)
  have HBK := Lib.hid (hst.back HBW.out.lo rfl)
  clear hst hke HFM
  go_wp2_with fail
  refine HTX.out.mono ?_
  rintro e W3 ⟨rfl, rfl⟩
  clear HTX
  go_wp2_with fail
  go_ret
  rw [HR'.out]
  exact ⟨rfl, HBK.out⟩
theorem at_any {w : World} (depth : Int) (hd : depth ≤ 3) (ta : Option Addr) (tn tc : Nat) (t : ByteArray) (ds : List D) (a : Option Addr) (c : Nat) (hp : PartsAt w a c ds) (sh : V → SpecD → Option ByteArray)
    (H : ∀ WB sb av, Below w.heap.size w WB → ShowH WB sb (max 0 depth) (.slice ta tn tc) av sh) (hT : Lib.Utf8Tabs 1 2 w) (ht : t.size ≤ 1000000) (hty : TyOk ((ds.take 16).map buildV)) (r : ByteArray) (hr : atP sh ((ds.take 16).map buildV) t = some r) :
    Calls Tryz.prog 8 #[.int .i64 depth, .slice ta tn tc, .string t, .slice a ds.length c] w (Ret w (.string r)) :=
  at_hook depth hd ta tn tc t ds a c hp sh (fun WB av h => H WB _ av h) hT ht hty r hr
set_option maxHeartbeats 4000000 in
set_option maxRecDepth 1000000 in
theorem sprintf_any {w : World} (ta : Option Addr) (tn tc : Nat) (t : ByteArray) (ds : List D) (a : Option Addr) (c : Nat) (hp : PartsAt w a c ds) (sh : V → SpecD → Option ByteArray)
    (H : ∀ WB sb av, Below w.heap.size w WB → ShowH WB sb 0 (.slice ta tn tc) av sh) (hT : Lib.Utf8Tabs 1 2 w) (ht : t.size ≤ 1000000) (hty : TyOk ((ds.take 16).map buildV)) (r : ByteArray) (hr : atP sh ((ds.take 16).map buildV) t = some r) :
    Calls Tryz.prog 5 #[.slice ta tn tc, .string t, .slice a ds.length c] w (Ret w (.string r)) := by
  have HAT := Lib.hid (at_any 0 (by decide) ta tn tc t ds a c hp sh H hT ht hty r hr)
  clear hp H hT ht hty hr
  go_enter Tryz.func5, Tryz.ntmps5
  go_wp2_with fail
  refine HAT.out.mono ?_
  rintro e w2 ⟨rfl, hb⟩
  have HB := Lib.hid hb
  clear hb
  go_wp2_with fail
  go_ret
  exact ⟨rfl, HB.out⟩
end Go.Proofs.YtnalppgjbllehaaGreatDoor
