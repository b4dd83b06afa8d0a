/- What a print is written to: buf's Put, Over, Text. Condition: the state of a print lies in its block; the texts' sizes. -/
import Derived.Test.YtnalppgjbllehaaGreatDoorL21
import Derived.Test.YtnalppgjbllehaaGreatDoorL32
import Derived.Lib.AppendStr
import Derived.Lib.BufferRead
namespace Go.Proofs.YtnalppgjbllehaaGreatDoor
set_option linter.unusedVariables false
set_option linter.unusedSimpArgs false
open Go.RowKit

/-- The cells of a State. -/
def stCells (bv : Value) (n depth : Int) (tab av : Value) (next : Int) (re : Bool) : Array Value := #[bv, .int .i64 n, .int .i64 depth, tab, av, .int .i64 next, .bool re]
/-- The first 4096 bytes. -/
def cut4 (t : ByteArray) : ByteArray := t.extract 0 4096
/-- A print under way: out has been put to it. What was there when it began (world WB, blocks below B, the State's own apart) stays. -/
structure StW (WB : World) (sb : Nat) (out : ByteArray) (bv : Value) (depth : Int) (tab av : Value) (next : Int) (re : Bool) (w : World) : Prop where
  blk : w.heap[sb]? = some (.cells (stCells bv out.size depth tab av next re) 47 (0, 0))
  own : w.ownsRow WB.heap.size 5 1 bv (cut4 out).size (Lib.strCells (cut4 out))
  lt : sb < WB.heap.size
  size : WB.heap.size ≤ w.heap.size
  keep : ∀ k, k < WB.heap.size → k ≠ sb → w.heap[k]? = WB.heap[k]?
  os : w.os = WB.os
  tape : w.tape = WB.tape
  output : w.output = WB.output
/-- All but the State and the bytes' row stays. -/
structure Fr (sb : Nat) (bv : Value) (w w' : World) : Prop where
  size : w.heap.size ≤ w'.heap.size
  block : ∀ k, k < w.heap.size → k ≠ sb → bv.ownBlock ≠ some k → w'.heap[k]? = w.heap[k]?
theorem Fr.refl (sb : Nat) (bv : Value) (w : World) : Fr sb bv w w := ⟨Nat.le_refl _, fun _ _ _ _ => rfl⟩
theorem Fr.below {sb : Nat} {bv : Value} {w w1 w2 : World} (h : Fr sb bv w w1) (hb : Below w1.heap.size w1 w2) : Fr sb bv w w2 :=
  ⟨Nat.le_trans h.size hb.size, fun k hk h1 h2 => (hb.block k (Nat.lt_of_lt_of_le hk h.size)).trans (h.block k hk h1 h2)⟩
theorem Fr.put {sb : Nat} {bv : Value} {w w1 : World} (h : Fr sb bv w w1) (j : Nat) (v : Value) : Fr sb bv w (w1.setCell ⟨sb, j, none⟩ v) :=
  ⟨by simpa using h.size, fun k hk h1 h2 => (Below.heap_setCell _ _ _ _ (by show k ≠ sb; exact h1)).trans (h.block k hk h1 h2)⟩
theorem Fr.trans {sb : Nat} {bv : Value} {w w1 w2 : World} (h : Fr sb bv w w1) (h2 : Fr sb bv w1 w2) : Fr sb bv w w2 :=
  ⟨Nat.le_trans h.size h2.size, fun k hk a b => (h2.block k (Nat.lt_of_lt_of_le hk h.size) a b).trans (h.block k hk a b)⟩
theorem byte_info : (Tryz.prog.info? 5).map (fun i => (i.zero, i.size, i.bytes)) = some (some (.int .u8 0), 1, 1) := by kernel_rfl
theorem cut4_size (t : ByteArray) : (cut4 t).size = min t.size 4096 := by unfold cut4; rw [ByteArray.size_extract]; omega
theorem cut4_append (a b : ByteArray) : cut4 (a ++ b) = cut4 a ++ b.extract 0 (4096 - (cut4 a).size) := by
  rw [cut4_size]
  apply ByteArray.ext
  unfold cut4
  rw [ByteArray.data_extract, ByteArray.data_append, ByteArray.data_append, ByteArray.data_extract, ByteArray.data_extract]
  apply Array.ext'
  simp only [Array.toList_extract, Array.toList_append, List.extract_eq_take_drop, List.drop_zero, Nat.sub_zero]
  rw [List.take_append, Array.length_toList]
  have e : a.data.size = a.size := rfl
  rw [e]
  by_cases h : a.size ≤ 4096
  · rw [Nat.min_eq_left h]
  · have h1 : 4096 - a.size = 0 := by omega
    have h2 : 4096 - min a.size 4096 = 0 := by omega
    rw [h1, h2]
theorem extract_all (s : ByteArray) (k : Nat) (h : s.size ≤ k) : s.extract 0 k = s := by
  apply ByteArray.ext
  rw [ByteArray.data_extract]
  apply Array.ext'
  rw [Array.toList_extract, List.extract_eq_take_drop, List.drop_zero, Nat.sub_zero]
  exact List.take_of_length_le (by rw [Array.length_toList]; exact h)
theorem strCells_append (a b : ByteArray) : Lib.strCells (a ++ b) = Lib.strCells a ++ Lib.strCells b := by
  unfold Lib.strCells
  rw [ByteArray.data_append, Array.toList_append, List.map_append]
theorem own_slice {w : World} {B : Nat} {e : TypeId} {s : Nat} {v : Value} {n : Nat} {xs : List Value} (h : w.ownsRow B e s v n xs) : ∃ a c, v = .slice a n c := by
  rcases h.2 with ⟨h, h'⟩ | ⟨g, cap, cur, h, _⟩
  · exact ⟨none, 0, by rw [h, h']⟩
  · exact ⟨_, _, h⟩
/-- Something was put. -/
theorem StW.put {WB : World} {sb : Nat} {out s u : ByteArray} {bv v' : Value} {depth : Int} {tab av : Value} {next : Int} {re : Bool} {w W1 w4 : World}
    (h : StW WB sb out bv depth tab av next re w) (hs : (out ++ s).size = out.size + s.size) (hu : u = s.extract 0 (4096 - (cut4 out).size)) (hW1 : W1 = w.setCell ⟨sb, 1, none⟩ (.int .i64 ((out.size : Int) + (s.size : Int))))
    (ho : w4.ownsRow WB.heap.size 5 1 v' ((cut4 out).size + u.size) (Lib.strCells (cut4 out) ++ Lib.strCells u)) (hg : W1.grownBy w4 bv.ownBlock) :
    StW WB sb (out ++ s) v' depth tab av next re (w4.setCell ⟨sb, 0, none⟩ v') := by
  have hz1 : W1.heap.size = w.heap.size := by rw [hW1]; simp
  have hne : ∀ k, k < WB.heap.size → bv.ownBlock ≠ some k := fun k hk e => by have := (h.own.lt k e).1; omega
  have hb1 : W1.heap[sb]? = some (.cells (stCells bv (out ++ s).size depth tab av next re) 47 (0, 0)) := by
    rw [hW1]
    have := set_block (j := 1) h.blk (.int .i64 ((out.size : Int) + (s.size : Int)))
    rw [this, hs]
    simp [stCells]
  have hk4 : ∀ k, k < WB.heap.size → w4.heap[k]? = W1.heap[k]? := fun k hk => hg.block k (by have := h.size; omega) (fun e => hne k hk e.symm)
  have hb4 : w4.heap[sb]? = some (.cells (stCells bv (out ++ s).size depth tab av next re) 47 (0, 0)) := (hk4 sb h.lt).trans hb1
  refine ⟨?_, ?_, h.lt, ?_, ?_, ?_, ?_, ?_⟩
  · rw [set_block (j := 0) hb4 v']
    simp [stCells]
  · rw [cut4_append, ← hu, strCells_append]
    have hz : (cut4 out ++ u).size = (cut4 out).size + u.size := ByteArray.size_append
    rw [hz]
    refine owns_blockV ho fun k hk => ?_
    rw [Below.heap_setCell _ _ _ _ (by have := (ho.lt k hk).1; have := h.lt; show k ≠ sb; omega)]
  · have := hg.size; have := h.size; simp; omega
  · intro k hk hks
    rw [Below.heap_setCell _ _ _ _ (by show k ≠ sb; exact hks), hk4 k hk, hW1, Below.heap_setCell _ _ _ _ (by show k ≠ sb; exact hks)]
    exact h.keep k hk hks
  · show w4.os = _; rw [hg.os, hW1]; exact h.os
  · show w4.tape = _; rw [hg.tape, hW1]; exact h.tape
  · show w4.output = _; rw [hg.output, hW1]; exact h.output

set_option maxHeartbeats 4000000 in
set_option maxRecDepth 1000000 in
theorem put_any {WB : World} {sb : Nat} {out : ByteArray} {bv : Value} {depth : Int} {tab av : Value} {next : Int} {re : Bool} {w : World} (s : ByteArray)
    (h : StW WB sb out bv depth tab av next re w) (hsz : out.size + s.size ≤ 4611686018427387904) :
    Calls Tryz.prog 21 #[.pointer (some ⟨sb, 0, none⟩), .string s] w (fun e w' => e = .returned (.tuple #[]) ∧ ∃ bv', StW WB sb (out ++ s) bv' depth tab av next re w' ∧ Fr sb bv w w') := by
  have HS := Lib.hid h
  obtain ⟨a, c, rfl⟩ := own_slice h.own
  have c0 : w.cell? ⟨sb, 0, none⟩ = some (.slice a (cut4 out).size c) := cell_of_heap' h.blk 0
  have c1 : w.cell? ⟨sb, 1, none⟩ = some (.int .i64 out.size) := cell_of_heap' h.blk 1
  have z1 : w.frozen? ⟨sb, 1, none⟩ = false := frozen_of_heap' h.blk 1
  have HC := Lib.hid (cut4_size out)
  have hc4 : (cut4 out).size ≤ 4096 := by rw [cut4_size]; omega
  have HCAT : Hid ((out ++ s).size = out.size + s.size) := ByteArray.size_append
  obtain ⟨i5, hi5, hz5, hs5, hb5⟩ := info_parts byte_info
  obtain ⟨n, hn⟩ : ∃ n, (cut4 out).size = n := ⟨_, rfl⟩
  rw [hn] at c0 hc4
  rw [hn] at HS ⊢
  have HN := Lib.hid hn
  clear h hn
  go_enter Tryz.func21, Tryz.ntmps21
  go_upto_region 1 with fail
  have hne : (Value.slice a n c).ownBlock ≠ some sb := fun e => by have := (HS.out.own.lt sb e).1; have := HS.out.lt; omega
  obtain ⟨W1, hW1⟩ : ∃ W1, W1 = w.setCell ⟨sb, 1, none⟩ (.int .i64 ((out.size : Int) + (s.size : Int))) := ⟨_, rfl⟩
  rw [← hW1]
  have HW1 := Lib.hid hW1
  have k0 : W1.cell? ⟨sb, 0, none⟩ = some (.slice a n c) := by rw [hW1]; exact put_other c0 (by decide)
  have z0 : W1.frozen? ⟨sb, 0, none⟩ = false := by rw [hW1]; simpa using frozen_of_heap' HS.out.blk 0
  have hlt1 : sb < W1.heap.size := by rw [hW1]; have := HS.out.lt; have := HS.out.size; simp; omega
  have hbase : WB.heap.size ≤ W1.heap.size := by rw [hW1]; have := HS.out.size; simp; omega
  have HO : Hid (W1.ownsRow WB.heap.size 5 1 (.slice a n c) n (Lib.strCells (cut4 out))) := by
    have h := HS.out.own
    rw [HN.out] at h
    rw [hW1]
    exact Lib.hid (owns_blockV h fun k hk => Below.heap_setCell _ _ _ _ (fun e => hne (by rw [hk]; exact congrArg some e)))
  clear c0 c1 z1 hW1
  by_cases hr : s.size ≤ 4096 - n
  · have hr1 : ¬ (4096 : Int) - (n : Int) < (s.size : Int) := by omega
    go_wp2_with (at_builtin; refine Lib.wpList_append_own_string _ rfl (.tmp 31) (.tmp 32) 42 9 rfl WB.heap.size 5 i5 Tryz.underlying42 Tryz.underlying9 hi5 hz5 hs5 hb5 _ n _ rfl HO.out s rfl ?c1 ?c2 hbase ?_)
    case c1 => unfold maxLen; omega
    case c2 => omega
    intro v' w4 ho hg hiff
    obtain ⟨a', c', rfl⟩ := own_slice ho
    have hbk := hg.block sb hlt1 (fun e => hne e.symm)
    have g0 : w4.cell? ⟨sb, 0, none⟩ = some (.slice a n c) := (World.cell?_of_block (a := ⟨sb, 0, none⟩) hbk).trans k0
    have y0 : w4.frozen? ⟨sb, 0, none⟩ = false := (World.frozen?_of_block (a := ⟨sb, 0, none⟩) hbk).trans z0
    have HFR : Hid (Fr sb (.slice a n c) w (w4.setCell ⟨sb, 0, none⟩ (.slice a' (n + s.size) c'))) := by
      refine Lib.hid (Fr.put ⟨?_, fun k hk h1 h2 => ?_⟩ 0 _)
      · have h := hg.size; rw [HW1.out] at h; simpa using h
      · rw [hg.block k (by rw [HW1.out]; simpa using hk) (fun e => h2 e.symm), HW1.out]
        exact Below.heap_setCell _ _ _ _ (by show k ≠ sb; exact h1)
    have HF : Hid (StW WB sb (out ++ s) (.slice a' (n + s.size) c') depth tab av next re (w4.setCell ⟨sb, 0, none⟩ (.slice a' (n + s.size) c'))) := by
      refine HS.out.put HCAT.out (u := s) ?_ HW1.out ?_ hg
      · rw [HN.out]; exact (extract_all s (4096 - n) hr).symm
      · rw [HN.out]; exact ho
    clear ho hg hiff hbk HO k0 z0
    go_wp2_with fail
    exact ⟨rfl, .tuple #[], by simp [results, Tryz.f21, go_sem], rfl, _, HF.out, HFR.out⟩
  · have hr1 : (4096 : Int) - (n : Int) < (s.size : Int) := by omega
    obtain ⟨m, hm⟩ : ∃ m, 4096 - n = m := ⟨_, rfl⟩
    have hm1 : (4096 : Int) - (n : Int) = (m : Int) := by omega
    have hm2 : m ≤ s.size := by omega
    have hm3 : (s.extract 0 m).size = m := by rw [ByteArray.size_extract]; omega
    have HM := Lib.hid hm
    go_wp2_with (at_builtin; refine Lib.wpList_append_own_string _ rfl (.tmp 31) (.tmp 32) 42 9 rfl WB.heap.size 5 i5 Tryz.underlying42 Tryz.underlying9 hi5 hz5 hs5 hb5 _ n _ rfl HO.out (s.extract 0 m) rfl ?c1 ?c2 hbase ?_)
    case c1 => unfold maxLen; omega
    case c2 => omega
    intro v' w4 ho hg hiff
    obtain ⟨a', c', rfl⟩ := own_slice ho
    have hbk := hg.block sb hlt1 (fun e => hne e.symm)
    have g0 : w4.cell? ⟨sb, 0, none⟩ = some (.slice a n c) := (World.cell?_of_block (a := ⟨sb, 0, none⟩) hbk).trans k0
    have y0 : w4.frozen? ⟨sb, 0, none⟩ = false := (World.frozen?_of_block (a := ⟨sb, 0, none⟩) hbk).trans z0
    have HFR : Hid (Fr sb (.slice a n c) w (w4.setCell ⟨sb, 0, none⟩ (.slice a' (n + m) c'))) := by
      refine Lib.hid (Fr.put ⟨?_, fun k hk h1 h2 => ?_⟩ 0 _)
      · have h := hg.size; rw [HW1.out] at h; simpa using h
      · rw [hg.block k (by rw [HW1.out]; simpa using hk) (fun e => h2 e.symm), HW1.out]
        exact Below.heap_setCell _ _ _ _ (by show k ≠ sb; exact h1)
    have HF : Hid (StW WB sb (out ++ s) (.slice a' (n + m) c') depth tab av next re (w4.setCell ⟨sb, 0, none⟩ (.slice a' (n + m) c'))) := by
      refine HS.out.put HCAT.out (u := (s.extract 0 m)) ?_ HW1.out ?_ hg
      · rw [HN.out]; rw [HM.out]
      · rw [HN.out, hm3]; exact ho
    clear ho hg hiff hbk HO k0 z0
    go_wp2_with fail
    exact ⟨rfl, .tuple #[], by simp [results, Tryz.f21, go_sem], rfl, _, HF.out, HFR.out⟩
end Go.Proofs.YtnalppgjbllehaaGreatDoor

/- What was printed: buf's Over and Text. Condition: the state of a print lies in its block. -/
namespace Go.Proofs.YtnalppgjbllehaaGreatDoor
set_option linter.unusedVariables false
set_option linter.unusedSimpArgs false
open Go.RowKit

def tooLong : ByteArray := ⟨#[37, 33, 40, 84, 79, 79, 76, 79, 78, 71, 41]⟩
/-- What is handed back of all that was put. -/
def outT (t : ByteArray) : ByteArray := if 4096 < t.size then cut4 t ++ tooLong else t
theorem text_of_row {w : World} {B : Nat} {v : Value} {n : Nat} {s : ByteArray} (h : w.ownsRow B 5 1 v n (Lib.strCells s)) : (convert 42 9 v).run Tryz.prog w = .ok (.string s) w := by
  have hl : s.size = n := by have := h.1; rw [Lib.strCells_length] at this; omega
  rcases h.2 with ⟨rfl, h0⟩ | ⟨g, cap, cur, rfl, hbg, hg, hnc, hcm, hcs, htake⟩
  · have hs : s = ⟨#[]⟩ := by
      apply ByteArray.ext
      exact Array.eq_empty_of_size_eq_zero (by show s.size = 0; omega)
    rw [hs]
    exact Lib.run_convert_nil_bytes w 42 9 5 0 Tryz.underlying42 Tryz.underlying5 Tryz.underlying9
  · have hc : ∀ j u, (Lib.strCells s)[j]? = some u → w.cell? ((⟨g, 0, none⟩ : Addr).add j) = some u := h.cells (g := g) rfl
    have := run_convert_bytes_back (P := Tryz.prog) w 42 9 5 ⟨g, 0, none⟩ cap s.data.toList Tryz.underlying42 Tryz.underlying5 Tryz.underlying9 (fun j hj => by
      refine hc j _ ?_
      unfold Lib.strCells
      rw [List.getElem?_map, List.getElem?_eq_getElem hj]
      rfl)
    have e : s.data.toList.length = n := by rw [Array.length_toList]; exact hl
    rw [e] at this
    exact this
set_option maxHeartbeats 4000000 in
set_option maxRecDepth 1000000 in
theorem over_any {WB : World} {sb : Nat} {out : ByteArray} {bv : Value} {depth : Int} {tab av : Value} {next : Int} {re : Bool} {w : World} (h : StW WB sb out bv depth tab av next re w) :
    Calls Tryz.prog 29 #[.pointer (some ⟨sb, 0, none⟩)] w (fun e w' => e = .returned (.bool (decide (4096 < out.size))) ∧ w = w') := by
  have c1 : w.cell? ⟨sb, 1, none⟩ = some (.int .i64 out.size) := cell_of_heap' h.blk 1
  clear h
  by_cases h0 : 4096 < out.size
  · have h1 : (4096 : Int) < (out.size : Int) := by omega
    rw [decide_eq_true h0]
    go_enter Tryz.func29, Tryz.ntmps29
    go_wp2_with fail
    go_ret
    exact ⟨rfl, rfl⟩
  · have h1 : ¬ (4096 : Int) < (out.size : Int) := by omega
    rw [decide_eq_false h0]
    go_enter Tryz.func29, Tryz.ntmps29
    go_wp2_with fail
    go_ret
    exact ⟨rfl, rfl⟩
set_option maxHeartbeats 4000000 in
set_option maxRecDepth 1000000 in
theorem text_any {WB : World} {sb : Nat} {out : ByteArray} {bv : Value} {depth : Int} {tab av : Value} {next : Int} {re : Bool} {w : World} (h : StW WB sb out bv depth tab av next re w) :
    Calls Tryz.prog 15 #[.pointer (some ⟨sb, 0, none⟩)] w (fun e w' => e = .returned (.string (outT out)) ∧ w = w') := by
  have c0 : w.cell? ⟨sb, 0, none⟩ = some bv := cell_of_heap' h.blk 0
  have hcv := text_of_row h.own
  obtain ⟨a, c, rfl⟩ := own_slice h.own
  have hk := cut4_size out
  obtain ⟨n, hn⟩ : ∃ n, (cut4 out).size = n := ⟨_, rfl⟩
  rw [hn] at c0 hcv hk
  have HOV := Lib.hid (over_any h)
  by_cases h0 : 4096 < out.size
  · rw [decide_eq_true h0] at HOV
    have HE : Hid (outT out = cut4 out ++ tooLong) := by show _ = _; unfold outT; rw [if_pos h0]
    have hcat : ¬ 9223372036854775807 < (cut4 out).size + (⟨#[37, 33, 40, 84, 79, 79, 76, 79, 78, 71, 41]⟩ : ByteArray).size := by
      rw [hn]
      show ¬ 9223372036854775807 < n + 11
      omega
    clear h h0 hn hk
    go_enter Tryz.func15, Tryz.ntmps15
    go_wp2_with fail
    refine HOV.out.mono ?_
    rintro e w2 ⟨rfl, rfl⟩
    go_wp2_with fail
    go_ret
    rw [HE.out]
    exact ⟨rfl, rfl⟩
  · rw [decide_eq_false h0] at HOV
    have HE : Hid (outT out = cut4 out) := by show _ = _; unfold outT; rw [if_neg h0]; unfold cut4; exact (extract_all out 4096 (by omega)).symm
    clear h h0 hn hk
    go_enter Tryz.func15, Tryz.ntmps15
    go_wp2_with fail
    refine HOV.out.mono ?_
    rintro e w2 ⟨rfl, rfl⟩
    go_wp2_with fail
    go_ret
    rw [HE.out]
    exact ⟨rfl, rfl⟩
end Go.Proofs.YtnalppgjbllehaaGreatDoor

/- What a star takes: printer's small. Condition: the argument is a value. -/
namespace Go.Proofs.YtnalppgjbllehaaGreatDoor
set_option linter.unusedVariables false
set_option linter.unusedSimpArgs false
open Go.RowKit

/-- A whole number that may be a width. -/
def smallV : V → Int × Bool
  | .leaf (.int b x) => (x, decide (-1000 ≤ x) && decide (x ≤ 1000))
  | .leaf (.uint b x) => (wrap64 x, decide (x ≤ 1000))
  | _ => (0, false)
set_option maxHeartbeats 4000000 in
set_option maxRecDepth 1000000 in
theorem small_int (b : B) (x : Int) (w : World) : Calls Tryz.prog 78 #[(Leaf.int b x).val] w (Ret w (.tuple #[.int .i64 x, .bool (decide (-1000 ≤ x) && decide (x ≤ 1000))])) := by
  unfold Leaf.val
  have t85 := as85
  obtain ⟨r, hr⟩ : ∃ r, (decide (-1000 ≤ x) && decide (x ≤ 1000)) = r := ⟨_, rfl⟩
  rw [hr]
  by_cases h1 : -1000 ≤ x
  · by_cases h2 : x ≤ 1000
    · obtain rfl : r = true := by rw [← hr, decide_eq_true h1, decide_eq_true h2]; rfl
      clear hr
      go_enter Tryz.func78, Tryz.ntmps78
      go_upto_region 4 with fail
      go_region
      go_wp2_with fail
      refine bodyPost_ret (v := .tuple #[.int .i64 x, .bool true]) (by simp [results, Tryz.f78, go_sem]) rfl ?_
      exact ⟨rfl, (Below.new _).drew⟩
    · obtain rfl : r = false := by rw [← hr, decide_eq_true h1, decide_eq_false h2]; rfl
      clear hr
      go_enter Tryz.func78, Tryz.ntmps78
      go_upto_region 4 with fail
      go_region
      go_wp2_with fail
      refine bodyPost_ret (v := .tuple #[.int .i64 x, .bool false]) (by simp [results, Tryz.f78, go_sem]) rfl ?_
      exact ⟨rfl, (Below.new _).drew⟩
  · obtain rfl : r = false := by rw [← hr, decide_eq_false h1]; rfl
    clear hr
    go_enter Tryz.func78, Tryz.ntmps78
    go_upto_region 4 with fail
    go_region
    go_wp2_with fail
    refine bodyPost_ret (v := .tuple #[.int .i64 x, .bool false]) (by simp [results, Tryz.f78, go_sem]) rfl ?_
    exact ⟨rfl, (Below.new _).drew⟩
set_option maxHeartbeats 4000000 in
set_option maxRecDepth 1000000 in
theorem small_uint (b : B) (x : Int) (w : World) : Calls Tryz.prog 78 #[(Leaf.uint b x).val] w (Ret w (.tuple #[.int .i64 (wrap64 x), .bool (decide (x ≤ 1000))])) := by
  unfold Leaf.val
  have t85 := as85
  have t87 := as87
  obtain ⟨r, hr⟩ : ∃ r, (decide (x ≤ 1000)) = r := ⟨_, rfl⟩
  rw [hr]
  by_cases h2 : x ≤ 1000
  · obtain rfl : r = true := by rw [← hr, decide_eq_true h2]
    clear hr
    go_enter Tryz.func78, Tryz.ntmps78
    go_upto_region 7 with fail
    go_region
    go_wp2_with fail
    refine bodyPost_ret (v := .tuple #[.int .i64 (wrap64 x), .bool true]) (by simp [results, Tryz.f78, go_sem]) rfl ?_
    exact ⟨rfl, (Below.new _).drew⟩
  · obtain rfl : r = false := by rw [← hr, decide_eq_false h2]
    clear hr
    go_enter Tryz.func78, Tryz.ntmps78
    go_upto_region 7 with fail
    go_region
    go_wp2_with fail
    refine bodyPost_ret (v := .tuple #[.int .i64 (wrap64 x), .bool false]) (by simp [results, Tryz.f78, go_sem]) rfl ?_
    exact ⟨rfl, (Below.new _).drew⟩
set_option maxHeartbeats 4000000 in
set_option maxRecDepth 1000000 in
theorem small_other (t : TypeId) (y : Value) (h1 : t ≠ 134) (h2 : t ≠ 136) (w : World) : Calls Tryz.prog 78 #[.iface t y] w (Ret w (.tuple #[.int .i64 0, .bool false])) := by
  have t85 := as85
  have t87 := as87
  go_enter Tryz.func78, Tryz.ntmps78
  go_wp2_with fail
  refine bodyPost_ret (v := .tuple #[.int .i64 0, .bool false]) (by simp [results, Tryz.f78, go_sem]) rfl ?_
  exact ⟨rfl, Below.refl _ _⟩
set_option maxHeartbeats 4000000 in
set_option maxRecDepth 1000000 in
theorem small_nil (w : World) : Calls Tryz.prog 78 #[.nilIface] w (Ret w (.tuple #[.int .i64 0, .bool false])) := by
  have t85 := asn85
  have t87 := asn87
  go_enter Tryz.func78, Tryz.ntmps78
  go_wp2_with fail
  refine bodyPost_ret (v := .tuple #[.int .i64 0, .bool false]) (by simp [results, Tryz.f78, go_sem]) rfl ?_
  exact ⟨rfl, Below.refl _ _⟩
theorem small_any {w : World} {v : Value} {x : V} (h : IsV w v x) : Calls Tryz.prog 78 #[v] w (Ret w (.tuple #[.int .i64 (smallV x).1, .bool (smallV x).2])) := by
  cases h with
  | nil => exact small_other _ _ (by decide) (by decide) w
  | nil0 => exact small_nil w
  | leaf l =>
    cases l with
    | int b x => exact small_int b x w
    | uint b x => exact small_uint b x w
    | bool b v => exact small_other _ _ (by decide) (by decide) w
    | float b v n => exact small_other _ _ (by decide) (by decide) w
    | cplx b v u n => exact small_other _ _ (by decide) (by decide) w
    | text b s => exact small_other _ _ (by decide) (by decide) w
    | bytes b s => exact small_other _ _ (by decide) (by decide) w
  | list => exact small_other _ _ (by decide) (by decide) w
  | struct => exact small_other _ _ (by decide) (by decide) w
  | map => exact small_other _ _ (by decide) (by decide) w
  | ptr0 => exact small_other _ _ (by decide) (by decide) w
  | ptr1 => exact small_other _ _ (by decide) (by decide) w
end Go.Proofs.YtnalppgjbllehaaGreatDoor
