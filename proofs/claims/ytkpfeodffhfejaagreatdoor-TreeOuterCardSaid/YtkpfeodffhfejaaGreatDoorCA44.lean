/- The items of a list, as an iterator: tree's list. Condition: what each item's text is. -/
import Derived.Test.YtkpfeodffhfejaaGreatDoorCA43
namespace Go.Proofs.YtkpfeodffhfejaaGreatDoor
set_option linter.unusedVariables false
set_option linter.unusedSimpArgs false
open Go.RowKit Go.Shelf
attribute [local go_sem] Oper.semAt_some

theorem abides {β : Type} {B : Nat} {J : β → World → Prop} (h : AbidesFrom B J) {s : β} {W W' : World} (hs : J s W) (hb : Below W.heap.size W W') : J s W' :=
  h s W W' none hs ⟨hb.os, hb.tape, hb.output, hb.size, fun k hk _ => hb.block k hk⟩ (fun r e => by cases e)
set_option maxHeartbeats 4000000 in
set_option maxRecDepth 1000000 in
theorem list_gives (f : SpecD) (k : Value) (kd : Int) (nm : ByteArray) (hk : Int) (a : Option Addr) (n c bb oo : Nat) (vs : Nat → Value) (dep : Int) (w : World) (xb wb db : Nat)
    (hx : w.heap[xb]? = some (.cells #[.int .i64 kd, .string nm, .int .i64 hk, .slice a n c] 101 (0, 0)))
    (hw : w.heap[wb]? = some (.cells #[.bool f.plus, .bool f.minus, .bool f.sharp, .bool f.space, .bool f.zero, .int .i64 f.wid, .int .i64 f.prec, .int .i32 f.verb, k] 57 (0, 0)))
    (hd : w.heap[db]? = some (.cells #[.int .i64 dep] 3 (0, 0))) (hdp : 0 ≤ dep) (hdp2 : dep ≤ 1000000)
    (ha : 0 < n → a = some ⟨bb, oo, none⟩) (hc : ∀ i, i < n → w.cell? ⟨bb, oo + i, none⟩ = some (vs i)) (hn : n ≤ 1000) (ss : List Tx) (hl : ss.length = n)
    (hv : ∀ i (h : i < ss.length) W, Below w.heap.size w W → Calls Tryz.prog 25 #[.agg #[.bool f.plus, .bool f.minus, .bool f.sharp, .bool f.space, .bool f.zero, .int .i64 f.wid, .int .i64 f.prec, .int .i32 f.verb, k], vs i, .int .i64 (dep + 1)] W (Ret W (.string ss[i].1))) :
    Gives 109 #[.pointer (some ⟨xb, 0, none⟩), .pointer (some ⟨wb, 0, none⟩), .pointer (some ⟨db, 0, none⟩)] ss w := by
  intro l J Jx W hW hJ hJx hY h0
  refine callsIn_of_wp Tryz.func109 rfl trivial ?_ rfl
  simp only [Tryz.ntmps109, List.size_toArray, List.length_cons, List.length_nil, Nat.reduceAdd, Nat.reduceSub, Array.replicate_succ, Array.replicate_zero, List.push_toArray, List.append_toArray, List.nil_append, List.cons_append]
  have HX := Lib.hid ((hW.block _ (lt_of_some hx)).trans hx)
  have HWR := Lib.hid ((hW.block _ (lt_of_some hw)).trans hw)
  have HD := Lib.hid ((hW.block _ (lt_of_some hd)).trans hd)
  have x3 : W.cell? ⟨xb, 3, none⟩ = some (.slice a n c) := cell_of_heap' HX.out 3
  have HC := Lib.hid hc
  have HA := Lib.hid ha
  have HV := Lib.hid hv
  have HW := Lib.hid hW
  have HL := Lib.hid hl
  have HLX := Lib.hid (lt_of_some hx)
  have HLW := Lib.hid (lt_of_some hw)
  have HLD := Lib.hid (lt_of_some hd)
  have HWR0 := Lib.hid hw
  have HD0 := Lib.hid hd
  clear hx hw hd hc ha hv hW hl
  have HJA := Lib.hid hJ
  have HJX := Lib.hid hJx
  have HY := Lib.hid hY
  have H0 := Lib.hid h0
  clear hJ hJx hY h0
  gi_wp2_with fail
  gi_loopw [10] (fun i wr => ∃ j : Nat, i = .int .i64 (j : Int) ∧ j ≤ n ∧ Hid (J (ss.take j) wr) ∧ Hid (Below w.heap.size w wr)) (fun i _ => n - (intOf i).toNat)
  case atStart => exact ⟨0, rfl, Nat.zero_le _, H0, HW⟩
  case round =>
    obtain ⟨j, rfl, hjn, HJ, HB⟩ := hrel
    by_cases hlt : j < n
    · have hlt' : (j : Int) < (n : Int) := by omega
      have ea := HA.out (by omega)
      subst ea
      have e0 : wr.cell? ⟨bb, oo + j, none⟩ = some (vs j) := cell_below HB.out (HC.out j hlt)
      have hWR : wr.heap[wb]? = _ := (HB.out.block _ HLW.out).trans HWR0.out
      have hDD : wr.heap[db]? = _ := (HB.out.block _ HLD.out).trans HD0.out
      have y0 : wr.cell? ⟨wb, 0, none⟩ = some (.bool f.plus) := cell_of_heap' hWR 0
      have y1 : wr.cell? ⟨wb, 1, none⟩ = some (.bool f.minus) := cell_of_heap' hWR 1
      have y2 : wr.cell? ⟨wb, 2, none⟩ = some (.bool f.sharp) := cell_of_heap' hWR 2
      have y3 : wr.cell? ⟨wb, 3, none⟩ = some (.bool f.space) := cell_of_heap' hWR 3
      have y4 : wr.cell? ⟨wb, 4, none⟩ = some (.bool f.zero) := cell_of_heap' hWR 4
      have y5 : wr.cell? ⟨wb, 5, none⟩ = some (.int .i64 f.wid) := cell_of_heap' hWR 5
      have y6 : wr.cell? ⟨wb, 6, none⟩ = some (.int .i64 f.prec) := cell_of_heap' hWR 6
      have y7 : wr.cell? ⟨wb, 7, none⟩ = some (.int .i32 f.verb) := cell_of_heap' hWR 7
      have y8 : wr.cell? ⟨wb, 8, none⟩ = some k := cell_of_heap' hWR 8
      have z0 : wr.cell? ⟨db, 0, none⟩ = some (.int .i64 dep) := cell_of_heap' hDD 0
      clear hWR hDD
      gi_wp2_with fail
      refine ⟨trivial, (callsIn_wide.2 (HV.out j (by rw [HL.out]; exact hlt) _ HB.out)).mono ?_⟩
      rintro e W2 ⟨rfl, hb⟩
      have HB2 := Lib.hid (HB.out.trans (hb.mono HB.out.size))
      have HJ2 := Lib.hid (abides HJA.out HJ.out hb)
      obtain ⟨fn, tmps, assign, body, hy, hR⟩ := HY.out (ss.take j) (ss[j]'(by rw [HL.out]; exact hlt)) W2 HJ2.out (by rw [List.length_take, HL.out]; omega)
      have HR := Lib.hid hR
      clear hb e0 y0 y1 y2 y3 y4 y5 y6 y7 y8 z0 hR
      gi_wp2_with fail
      refine HR.out.mono ?_
      rintro e W3 (⟨rfl, hJ3, hk3⟩ | ⟨rfl, hJx3⟩)
      · have HB3 := Lib.hid (HB2.out.trans hk3)
        have HJ3 : Hid (J (ss.take (j + 1)) W3) := by
          rw [List.take_succ_eq_append_getElem (by rw [HL.out]; exact hlt)]
          exact Lib.hid hJ3
        clear hk3 hJ3 hy HR
        gi_wp2_with fail
        go_roundw
        case rel => exact ⟨j + 1, by go_num, by omega, HJ3, HB3⟩
        case measure => simp [intOf]; omega
      · have HX3 := Lib.hid hJx3
        clear hJx3 hy HR
        gi_wp2_with fail
        refine bodyPost_ret (results_none rfl _ _ _) rfl ?_
        exact ⟨⟨_, rfl⟩, .inr ⟨_, trivial, HX3.out⟩⟩
    · have hjn' : ¬ (j : Int) < (n : Int) := by omega
      gi_wp2_with fail
      go_end0
      have h := HJ.out
      rw [List.take_of_length_le (by rw [HL.out]; omega)] at h
      exact ⟨⟨_, rfl⟩, .inl h⟩
end Go.Proofs.YtkpfeodffhfejaaGreatDoor

/- The items of a struct, as an iterator: tree's fields. Condition: what each item's text is. -/
namespace Go.Proofs.YtkpfeodffhfejaaGreatDoor
set_option linter.unusedVariables false
set_option linter.unusedSimpArgs false
open Go.RowKit Go.Shelf
attribute [local go_sem] Oper.semAt_some

set_option maxHeartbeats 4000000 in
set_option maxRecDepth 1000000 in
theorem fields_gives (f : SpecD) (k : Value) (kd : Int) (nm : ByteArray) (hk : Int) (a : Option Addr) (n c bb oo : Nat) (vs : Nat → Value) (dep : Int) (w : World) (xb wb db nb : Nat) (nms : Nat → ByteArray) (names : Bool) (rs : Nat → ByteArray)
    (hx : w.heap[xb]? = some (.cells #[.int .i64 kd, .string nm, .int .i64 hk, .slice a n c] 99 (0, 0)))
    (hw : w.heap[wb]? = some (.cells #[.bool f.plus, .bool f.minus, .bool f.sharp, .bool f.space, .bool f.zero, .int .i64 f.wid, .int .i64 f.prec, .int .i32 f.verb, k] 57 (0, 0)))
    (hd : w.heap[db]? = some (.cells #[.int .i64 dep] 3 (0, 0))) (hnb : w.heap[nb]? = some (.cells #[.bool names] 4 (0, 0))) (hdp : 0 ≤ dep) (hdp2 : dep ≤ 1000000)
    (ha : 0 < n → a = some ⟨bb, oo, none⟩) (hc0 : ∀ i, i < n → w.cell? ⟨bb, oo + i * 2, none⟩ = some (.string (nms i))) (hc : ∀ i, i < n → w.cell? ⟨bb, oo + i * 2 + 1, none⟩ = some (vs i)) (hn : n ≤ 1000) (ss : List Tx) (hl : ss.length = n)
    (hsh : ∀ i, i < n → ∃ t y, vs i = .iface t y) (hv : ∀ i (h : i < ss.length) W, Below w.heap.size w W → Calls Tryz.prog 25 #[.agg #[.bool f.plus, .bool f.minus, .bool f.sharp, .bool f.space, .bool f.zero, .int .i64 f.wid, .int .i64 f.prec, .int .i32 f.verb, k], vs i, .int .i64 (dep + 1)] W (Ret W (.string (rs i))))
    (hz : ∀ i, i < n → (nms i).size ≤ 1000000000 ∧ (rs i).size ≤ 1000000000) (hs : ∀ i (h : i < ss.length), ss[i].1 = if names = true then nms i ++ ⟨#[58]⟩ ++ rs i else rs i) :
    Gives 108 #[.pointer (some ⟨xb, 0, none⟩), .pointer (some ⟨wb, 0, none⟩), .pointer (some ⟨db, 0, none⟩), .pointer (some ⟨nb, 0, none⟩)] ss w := by
  intro l J Jx W hW hJ hJx hY h0
  refine callsIn_of_wp Tryz.func108 rfl trivial ?_ rfl
  simp only [Tryz.ntmps108, List.size_toArray, List.length_cons, List.length_nil, Nat.reduceAdd, Nat.reduceSub, Array.replicate_succ, Array.replicate_zero, List.push_toArray, List.append_toArray, List.nil_append, List.cons_append]
  have HX := Lib.hid ((hW.block _ (lt_of_some hx)).trans hx)
  have HWR := Lib.hid ((hW.block _ (lt_of_some hw)).trans hw)
  have HD := Lib.hid ((hW.block _ (lt_of_some hd)).trans hd)
  have HNB0 := Lib.hid hnb
  have HLN := Lib.hid (lt_of_some hnb)
  have HC0 := Lib.hid hc0
  have HZ := Lib.hid hz
  have HSS := Lib.hid hs
  have HSH := Lib.hid hsh
  have x3 : W.cell? ⟨xb, 3, none⟩ = some (.slice a n c) := cell_of_heap' HX.out 3
  have HC := Lib.hid hc
  have HA := Lib.hid ha
  have HV := Lib.hid hv
  have HW := Lib.hid hW
  have HL := Lib.hid hl
  have HLX := Lib.hid (lt_of_some hx)
  have HLW := Lib.hid (lt_of_some hw)
  have HLD := Lib.hid (lt_of_some hd)
  have HWR0 := Lib.hid hw
  have HD0 := Lib.hid hd
  clear hx hw hd hc ha hv hW hl hnb hc0 hz hs hsh
  have HJA := Lib.hid hJ
  have HJX := Lib.hid hJx
  have HY := Lib.hid hY
  have H0 := Lib.hid h0
  clear hJ hJx hY h0
  gi_wp2_with fail
  gi_loopw [12] (fun i wr => ∃ j : Nat, i = .int .i64 (j : Int) ∧ j ≤ n ∧ Hid (J (ss.take j) wr) ∧ Hid (Below w.heap.size w wr)) (fun i _ => n - (intOf i).toNat)
  case atStart => exact ⟨0, rfl, Nat.zero_le _, H0, HW⟩
  case round =>
    obtain ⟨j, rfl, hjn, HJ, HB⟩ := hrel
    by_cases hlt : j < n
    · have hlt' : (j : Int) < (n : Int) := by omega
      have ea := HA.out (by omega)
      subst ea
      have e0 : wr.cell? ⟨bb, oo + j * 2, none⟩ = some (.string (nms j)) := cell_below HB.out (HC0.out j hlt)
      have e1 : wr.cell? ⟨bb, oo + j * 2 + 1, none⟩ = some (vs j) := cell_below HB.out (HC.out j hlt)
      obtain ⟨tt, yy, hvj⟩ := HSH.out j hlt
      have HVJ := Lib.hid (HV.out j (by rw [HL.out]; exact hlt) (wr.alloc (.cells #[.string (nms j), vs j] 117)) (HB.out.push _))
      rw [hvj] at e1 HVJ
      clear hvj
      have HNN : Hid (wr.heap[nb]? = some (.cells #[.bool names] 4 (0, 0))) := Lib.hid ((HB.out.block _ HLN.out).trans HNB0.out)
      have hWR : wr.heap[wb]? = _ := (HB.out.block _ HLW.out).trans HWR0.out
      have hDD : wr.heap[db]? = _ := (HB.out.block _ HLD.out).trans HD0.out
      have y0 : (wr.alloc (.cells #[.string (nms j), .iface tt yy] 117)).cell? ⟨wb, 0, none⟩ = some (.bool f.plus) := cell_below (Below.new _) (cell_of_heap' hWR 0)
      have y1 : (wr.alloc (.cells #[.string (nms j), .iface tt yy] 117)).cell? ⟨wb, 1, none⟩ = some (.bool f.minus) := cell_below (Below.new _) (cell_of_heap' hWR 1)
      have y2 : (wr.alloc (.cells #[.string (nms j), .iface tt yy] 117)).cell? ⟨wb, 2, none⟩ = some (.bool f.sharp) := cell_below (Below.new _) (cell_of_heap' hWR 2)
      have y3 : (wr.alloc (.cells #[.string (nms j), .iface tt yy] 117)).cell? ⟨wb, 3, none⟩ = some (.bool f.space) := cell_below (Below.new _) (cell_of_heap' hWR 3)
      have y4 : (wr.alloc (.cells #[.string (nms j), .iface tt yy] 117)).cell? ⟨wb, 4, none⟩ = some (.bool f.zero) := cell_below (Below.new _) (cell_of_heap' hWR 4)
      have y5 : (wr.alloc (.cells #[.string (nms j), .iface tt yy] 117)).cell? ⟨wb, 5, none⟩ = some (.int .i64 f.wid) := cell_below (Below.new _) (cell_of_heap' hWR 5)
      have y6 : (wr.alloc (.cells #[.string (nms j), .iface tt yy] 117)).cell? ⟨wb, 6, none⟩ = some (.int .i64 f.prec) := cell_below (Below.new _) (cell_of_heap' hWR 6)
      have y7 : (wr.alloc (.cells #[.string (nms j), .iface tt yy] 117)).cell? ⟨wb, 7, none⟩ = some (.int .i32 f.verb) := cell_below (Below.new _) (cell_of_heap' hWR 7)
      have y8 : (wr.alloc (.cells #[.string (nms j), .iface tt yy] 117)).cell? ⟨wb, 8, none⟩ = some k := cell_below (Below.new _) (cell_of_heap' hWR 8)
      have z0 : (wr.alloc (.cells #[.string (nms j), .iface tt yy] 117)).cell? ⟨db, 0, none⟩ = some (.int .i64 dep) := cell_below (Below.new _) (cell_of_heap' hDD 0)
      clear hWR hDD
      have HNA : Hid ((wr.alloc (.cells #[.string (nms j), .iface tt yy] 117)).heap[nb]? = some (.cells #[.bool names] 4 (0, 0))) := Lib.hid (((Below.new _).block _ (lt_of_some HNN.out)).trans HNN.out)
      have HFA : Hid ((wr.alloc (.cells #[.string (nms j), .iface tt yy] 117)).heap[wr.heap.size]? = some (.cells #[.string (nms j), .iface tt yy] 117 (0, 0))) := Lib.hid (heap_alloc_new wr _)
      have HBA : Hid (Below w.heap.size w (wr.alloc (.cells #[.string (nms j), .iface tt yy] 117))) := Lib.hid (HB.out.push _)
      have HJA2 : Hid (J (ss.take j) (wr.alloc (.cells #[.string (nms j), .iface tt yy] 117))) := Lib.hid (abides HJA.out HJ.out (Below.new _))
      gi_wp2_with fail
      refine ⟨trivial, (callsIn_wide.2 HVJ.out).mono ?_⟩
      rintro e W2 ⟨rfl, hb⟩
      have HB2 := Lib.hid (HBA.out.trans (hb.mono HBA.out.size))
      have HJ2 := Lib.hid (abides HJA.out HJA2.out hb)
      have hnn2 := (hb.block _ (lt_of_some HNA.out)).trans HNA.out
      have hff2 := (hb.block _ (lt_of_some HFA.out)).trans HFA.out
      have n0 : W2.cell? ⟨nb, 0, none⟩ = some (.bool names) := cell_of_heap' hnn2 0
      have f0 : W2.cell? ⟨wr.heap.size, 0, none⟩ = some (.string (nms j)) := cell_of_heap' hff2 0
      obtain ⟨hz1, hz2⟩ := HZ.out j hlt
      have k1 : ¬ 9223372036854775807 < (nms j).size + (⟨#[58]⟩ : ByteArray).size := by show ¬ 9223372036854775807 < _ + 1; omega
      have k2 : ¬ 9223372036854775807 < (nms j ++ ⟨#[58]⟩).size + (rs j).size := by rw [size_app]; show ¬ 9223372036854775807 < _ + 1 + _; omega
      have hs2 := HSS.out j (by rw [HL.out]; exact hlt)
      obtain ⟨fn, tmps, assign, body, hy, hR⟩ := HY.out (ss.take j) (ss[j]'(by rw [HL.out]; exact hlt)) W2 HJ2.out (by rw [List.length_take, HL.out]; omega)
      have HR := Lib.hid hR
      clear hb e0 e1 y0 y1 y2 y3 y4 y5 y6 y7 y8 z0 hR HVJ HNA HFA HBA HJA2 hnn2 hff2 hz1 hz2
      rcases Bool.eq_false_or_eq_true names with hnm | hnm
      · rw [hnm] at n0
        rw [hnm, if_pos rfl] at hs2
        rw [hs2] at hy
        clear hs2 hnm
        gi_wp2_with fail
        refine HR.out.mono ?_
        rintro e W3 (⟨rfl, hJ3, hk3⟩ | ⟨rfl, hJx3⟩)
        · have HB3 := Lib.hid (HB2.out.trans hk3)
          have HJ3 : Hid (J (ss.take (j + 1)) W3) := by
            rw [List.take_succ_eq_append_getElem (by rw [HL.out]; exact hlt)]
            exact Lib.hid hJ3
          clear hk3 hJ3 hy HR
          gi_wp2_with fail
          go_roundw
          case rel => exact ⟨j + 1, by go_num, by omega, HJ3, HB3⟩
          case measure => simp [intOf]; omega
        · have HX3 := Lib.hid hJx3
          clear hJx3 hy HR
          gi_wp2_with fail
          refine bodyPost_ret (results_none rfl _ _ _) rfl ?_
          exact ⟨⟨_, rfl⟩, .inr ⟨_, trivial, HX3.out⟩⟩
      · rw [hnm] at n0
        rw [hnm, if_neg (by decide)] at hs2
        rw [hs2] at hy
        clear hs2 hnm
        gi_wp2_with fail
        refine HR.out.mono ?_
        rintro e W3 (⟨rfl, hJ3, hk3⟩ | ⟨rfl, hJx3⟩)
        · have HB3 := Lib.hid (HB2.out.trans hk3)
          have HJ3 : Hid (J (ss.take (j + 1)) W3) := by
            rw [List.take_succ_eq_append_getElem (by rw [HL.out]; exact hlt)]
            exact Lib.hid hJ3
          clear hk3 hJ3 hy HR
          gi_wp2_with fail
          go_roundw
          case rel => exact ⟨j + 1, by go_num, by omega, HJ3, HB3⟩
          case measure => simp [intOf]; omega
        · have HX3 := Lib.hid hJx3
          clear hJx3 hy HR
          gi_wp2_with fail
          refine bodyPost_ret (results_none rfl _ _ _) rfl ?_
          exact ⟨⟨_, rfl⟩, .inr ⟨_, trivial, HX3.out⟩⟩
    · have hjn' : ¬ (j : Int) < (n : Int) := by omega
      gi_wp2_with fail
      go_end0
      have h := HJ.out
      rw [List.take_of_length_le (by rw [HL.out]; omega)] at h
      exact ⟨⟨_, rfl⟩, .inl h⟩
end Go.Proofs.YtkpfeodffhfejaaGreatDoor

/- The items of a map, as an iterator: tree's entries. Condition: what each item's text is. -/
namespace Go.Proofs.YtkpfeodffhfejaaGreatDoor
set_option linter.unusedVariables false
set_option linter.unusedSimpArgs false
open Go.RowKit Go.Shelf
attribute [local go_sem] Oper.semAt_some

set_option maxHeartbeats 4000000 in
set_option maxRecDepth 1000000 in
theorem entries_gives (f : SpecD) (k : Value) (kd : Int) (nm : ByteArray) (hk : Int) (a : Option Addr) (n c bb oo : Nat) (vs : Nat → Value) (dep : Int) (w : World) (xb wb db : Nat) (us : Nat → Value) (ks rs : Nat → ByteArray)
    (hx : w.heap[xb]? = some (.cells #[.int .i64 kd, .string nm, .int .i64 hk, .slice a n c] 104 (0, 0)))
    (hw : w.heap[wb]? = some (.cells #[.bool f.plus, .bool f.minus, .bool f.sharp, .bool f.space, .bool f.zero, .int .i64 f.wid, .int .i64 f.prec, .int .i32 f.verb, k] 57 (0, 0)))
    (hd : w.heap[db]? = some (.cells #[.int .i64 dep] 3 (0, 0))) (hdp : 0 ≤ dep) (hdp2 : dep ≤ 1000000)
    (ha : 0 < n → a = some ⟨bb, oo, none⟩) (hc0 : ∀ i, i < n → w.cell? ⟨bb, oo + i * 2, none⟩ = some (us i)) (hc : ∀ i, i < n → w.cell? ⟨bb, oo + i * 2 + 1, none⟩ = some (vs i)) (hn : n ≤ 1000) (ss : List Tx) (hl : ss.length = n)
    (hsh : ∀ i, i < n → ∃ t y, vs i = .iface t y) (hv : ∀ i (h : i < ss.length) W, Below w.heap.size w W → Calls Tryz.prog 25 #[.agg #[.bool f.plus, .bool f.minus, .bool f.sharp, .bool f.space, .bool f.zero, .int .i64 f.wid, .int .i64 f.prec, .int .i32 f.verb, k], vs i, .int .i64 (dep + 1)] W (Ret W (.string (rs i))))
    (hsh0 : ∀ i, i < n → ∃ t y, us i = .iface t y) (hv0 : ∀ i, i < n → ∀ W, Below w.heap.size w W → Calls Tryz.prog 25 #[.agg #[.bool f.plus, .bool f.minus, .bool f.sharp, .bool f.space, .bool f.zero, .int .i64 f.wid, .int .i64 f.prec, .int .i32 f.verb, k], us i, .int .i64 (dep + 1)] W (Ret W (.string (ks i))))
    (hz : ∀ i, i < n → (ks i).size ≤ 1000000000 ∧ (rs i).size ≤ 1000000000) (hs : ∀ i (h : i < ss.length), ss[i].1 = ks i ++ ⟨#[58]⟩ ++ rs i) :
    Gives 110 #[.pointer (some ⟨xb, 0, none⟩), .pointer (some ⟨wb, 0, none⟩), .pointer (some ⟨db, 0, none⟩)] ss w := by
  intro l J Jx W hW hJ hJx hY h0
  refine callsIn_of_wp Tryz.func110 rfl trivial ?_ rfl
  simp only [Tryz.ntmps110, List.size_toArray, List.length_cons, List.length_nil, Nat.reduceAdd, Nat.reduceSub, Array.replicate_succ, Array.replicate_zero, List.push_toArray, List.append_toArray, List.nil_append, List.cons_append]
  have HX := Lib.hid ((hW.block _ (lt_of_some hx)).trans hx)
  have HWR := Lib.hid ((hW.block _ (lt_of_some hw)).trans hw)
  have HD := Lib.hid ((hW.block _ (lt_of_some hd)).trans hd)
  have HSH0 := Lib.hid hsh0
  have HV0 := Lib.hid hv0
  have HC0 := Lib.hid hc0
  have HZ := Lib.hid hz
  have HSS := Lib.hid hs
  have HSH := Lib.hid hsh
  have x3 : W.cell? ⟨xb, 3, none⟩ = some (.slice a n c) := cell_of_heap' HX.out 3
  have HC := Lib.hid hc
  have HA := Lib.hid ha
  have HV := Lib.hid hv
  have HW := Lib.hid hW
  have HL := Lib.hid hl
  have HLX := Lib.hid (lt_of_some hx)
  have HLW := Lib.hid (lt_of_some hw)
  have HLD := Lib.hid (lt_of_some hd)
  have HWR0 := Lib.hid hw
  have HD0 := Lib.hid hd
  clear hx hw hd hc ha hv hW hl hsh0 hv0 hc0 hz hs hsh
  have HJA := Lib.hid hJ
  have HJX := Lib.hid hJx
  have HY := Lib.hid hY
  have H0 := Lib.hid h0
  clear hJ hJx hY h0
  gi_wp2_with fail
  gi_loopw [11] (fun i wr => ∃ j : Nat, i = .int .i64 (j : Int) ∧ j ≤ n ∧ Hid (J (ss.take j) wr) ∧ Hid (Below w.heap.size w wr)) (fun i _ => n - (intOf i).toNat)
  case atStart => exact ⟨0, rfl, Nat.zero_le _, H0, HW⟩
  case round =>
    obtain ⟨j, rfl, hjn, HJ, HB⟩ := hrel
    by_cases hlt : j < n
    · have hlt' : (j : Int) < (n : Int) := by omega
      have ea := HA.out (by omega)
      subst ea
      have e0 : wr.cell? ⟨bb, oo + j * 2, none⟩ = some (us j) := cell_below HB.out (HC0.out j hlt)
      have e1 : wr.cell? ⟨bb, oo + j * 2 + 1, none⟩ = some (vs j) := cell_below HB.out (HC.out j hlt)
      obtain ⟨tt, yy, hvj⟩ := HSH.out j hlt
      obtain ⟨t0, y00, huj⟩ := HSH0.out j hlt
      have HVJ := Lib.hid (HV.out j (by rw [HL.out]; exact hlt))
      have HUJ := Lib.hid (HV0.out j hlt)
      rw [hvj] at e1 HVJ
      rw [huj] at e0 HUJ
      clear hvj huj
      have hWR : wr.heap[wb]? = _ := (HB.out.block _ HLW.out).trans HWR0.out
      have hDD : wr.heap[db]? = _ := (HB.out.block _ HLD.out).trans HD0.out
      have y0 : (wr.alloc (.cells #[.iface t0 y00, .iface tt yy] 119)).cell? ⟨wb, 0, none⟩ = some (.bool f.plus) := cell_below (Below.new _) (cell_of_heap' hWR 0)
      have y1 : (wr.alloc (.cells #[.iface t0 y00, .iface tt yy] 119)).cell? ⟨wb, 1, none⟩ = some (.bool f.minus) := cell_below (Below.new _) (cell_of_heap' hWR 1)
      have y2 : (wr.alloc (.cells #[.iface t0 y00, .iface tt yy] 119)).cell? ⟨wb, 2, none⟩ = some (.bool f.sharp) := cell_below (Below.new _) (cell_of_heap' hWR 2)
      have y3 : (wr.alloc (.cells #[.iface t0 y00, .iface tt yy] 119)).cell? ⟨wb, 3, none⟩ = some (.bool f.space) := cell_below (Below.new _) (cell_of_heap' hWR 3)
      have y4 : (wr.alloc (.cells #[.iface t0 y00, .iface tt yy] 119)).cell? ⟨wb, 4, none⟩ = some (.bool f.zero) := cell_below (Below.new _) (cell_of_heap' hWR 4)
      have y5 : (wr.alloc (.cells #[.iface t0 y00, .iface tt yy] 119)).cell? ⟨wb, 5, none⟩ = some (.int .i64 f.wid) := cell_below (Below.new _) (cell_of_heap' hWR 5)
      have y6 : (wr.alloc (.cells #[.iface t0 y00, .iface tt yy] 119)).cell? ⟨wb, 6, none⟩ = some (.int .i64 f.prec) := cell_below (Below.new _) (cell_of_heap' hWR 6)
      have y7 : (wr.alloc (.cells #[.iface t0 y00, .iface tt yy] 119)).cell? ⟨wb, 7, none⟩ = some (.int .i32 f.verb) := cell_below (Below.new _) (cell_of_heap' hWR 7)
      have y8 : (wr.alloc (.cells #[.iface t0 y00, .iface tt yy] 119)).cell? ⟨wb, 8, none⟩ = some k := cell_below (Below.new _) (cell_of_heap' hWR 8)
      have z0 : (wr.alloc (.cells #[.iface t0 y00, .iface tt yy] 119)).cell? ⟨db, 0, none⟩ = some (.int .i64 dep) := cell_below (Below.new _) (cell_of_heap' hDD 0)
      have HWA : Hid ((wr.alloc (.cells #[.iface t0 y00, .iface tt yy] 119)).heap[wb]? = _) := Lib.hid (((Below.new _).block _ (lt_of_some hWR)).trans hWR)
      have HDA : Hid ((wr.alloc (.cells #[.iface t0 y00, .iface tt yy] 119)).heap[db]? = _) := Lib.hid (((Below.new _).block _ (lt_of_some hDD)).trans hDD)
      clear hWR hDD
      have HFA : Hid ((wr.alloc (.cells #[.iface t0 y00, .iface tt yy] 119)).heap[wr.heap.size]? = some (.cells #[.iface t0 y00, .iface tt yy] 119 (0, 0))) := Lib.hid (heap_alloc_new wr _)
      have HBA : Hid (Below w.heap.size w (wr.alloc (.cells #[.iface t0 y00, .iface tt yy] 119))) := Lib.hid (HB.out.push _)
      have HJA2 : Hid (J (ss.take j) (wr.alloc (.cells #[.iface t0 y00, .iface tt yy] 119))) := Lib.hid (abides HJA.out HJ.out (Below.new _))
      gi_wp2_with fail
      refine ⟨trivial, (callsIn_wide.2 (HUJ.out _ HBA.out)).mono ?_⟩
      rintro e W2 ⟨rfl, hb⟩
      have HB2 := Lib.hid (HBA.out.trans (hb.mono HBA.out.size))
      have HJ2 := Lib.hid (abides HJA.out HJA2.out hb)
      have hff2 := (hb.block _ (lt_of_some HFA.out)).trans HFA.out
      have hww2 := (hb.block _ (lt_of_some HWA.out)).trans HWA.out
      have hdd2 := (hb.block _ (lt_of_some HDA.out)).trans HDA.out
      have f1 : W2.cell? ⟨wr.heap.size, 1, none⟩ = some (.iface tt yy) := cell_of_heap' hff2 1
      have g0 : W2.cell? ⟨wb, 0, none⟩ = some (.bool f.plus) := cell_of_heap' hww2 0
      have g1 : W2.cell? ⟨wb, 1, none⟩ = some (.bool f.minus) := cell_of_heap' hww2 1
      have g2 : W2.cell? ⟨wb, 2, none⟩ = some (.bool f.sharp) := cell_of_heap' hww2 2
      have g3 : W2.cell? ⟨wb, 3, none⟩ = some (.bool f.space) := cell_of_heap' hww2 3
      have g4 : W2.cell? ⟨wb, 4, none⟩ = some (.bool f.zero) := cell_of_heap' hww2 4
      have g5 : W2.cell? ⟨wb, 5, none⟩ = some (.int .i64 f.wid) := cell_of_heap' hww2 5
      have g6 : W2.cell? ⟨wb, 6, none⟩ = some (.int .i64 f.prec) := cell_of_heap' hww2 6
      have g7 : W2.cell? ⟨wb, 7, none⟩ = some (.int .i32 f.verb) := cell_of_heap' hww2 7
      have g8 : W2.cell? ⟨wb, 8, none⟩ = some k := cell_of_heap' hww2 8
      have h0' : W2.cell? ⟨db, 0, none⟩ = some (.int .i64 dep) := cell_of_heap' hdd2 0
      obtain ⟨hz1, hz2⟩ := HZ.out j hlt
      have k1 : ¬ 9223372036854775807 < (ks j).size + (⟨#[58]⟩ : ByteArray).size := by show ¬ 9223372036854775807 < _ + 1; omega
      have k2 : ¬ 9223372036854775807 < (ks j ++ ⟨#[58]⟩).size + (rs j).size := by rw [size_app]; show ¬ 9223372036854775807 < _ + 1 + _; omega
      clear hb e0 e1 y0 y1 y2 y3 y4 y5 y6 y7 y8 z0 HUJ HFA HBA HJA2 hff2 hww2 hdd2 HWA HDA hz1 hz2
      gi_wp2_with fail
      refine ⟨trivial, (callsIn_wide.2 (HVJ.out _ HB2.out)).mono ?_⟩
      rintro e W4 ⟨rfl, hb⟩
      have HB4 := Lib.hid (HB2.out.trans (hb.mono HB2.out.size))
      have HJ4 := Lib.hid (abides HJA.out HJ2.out hb)
      have hs2 := HSS.out j (by rw [HL.out]; exact hlt)
      obtain ⟨fn, tmps, assign, body, hy, hR⟩ := HY.out (ss.take j) (ss[j]'(by rw [HL.out]; exact hlt)) W4 HJ4.out (by rw [List.length_take, HL.out]; omega)
      have HR := Lib.hid hR
      rw [hs2] at hy
      clear hb hR HVJ hs2 f1 g0 g1 g2 g3 g4 g5 g6 g7 g8 h0'
      gi_wp2_with fail
      refine HR.out.mono ?_
      rintro e W3 (⟨rfl, hJ3, hk3⟩ | ⟨rfl, hJx3⟩)
      · have HB3 := Lib.hid (HB4.out.trans hk3)
        have HJ3 : Hid (J (ss.take (j + 1)) W3) := by
          rw [List.take_succ_eq_append_getElem (by rw [HL.out]; exact hlt)]
          exact Lib.hid hJ3
        clear hk3 hJ3 hy HR
        gi_wp2_with fail
        go_roundw
        case rel => exact ⟨j + 1, by go_num, by omega, HJ3, HB3⟩
        case measure => simp [intOf]; omega
      · have HX3 := Lib.hid hJx3
        clear hJx3 hy HR
        gi_wp2_with fail
        refine bodyPost_ret (results_none rfl _ _ _) rfl ?_
        exact ⟨⟨_, rfl⟩, .inr ⟨_, trivial, HX3.out⟩⟩
    · have hjn' : ¬ (j : Int) < (n : Int) := by omega
      gi_wp2_with fail
      go_end0
      have h := HJ.out
      rw [List.take_of_length_le (by rw [HL.out]; omega)] at h
      exact ⟨⟨_, rfl⟩, .inl h⟩
end Go.Proofs.YtkpfeodffhfejaaGreatDoor
