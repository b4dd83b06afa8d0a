/- The reference's store, walked: New, Put and Get as functions of the list that lies there. No condition. -/
import Derived.Test.YtdhbnldigbjkkaaStore
import Derived.Deep.QuietTactic
import Derived.BigQuiet
namespace Go.Proofs.Ytdhbnldigbjkkaa
open Go.RowKit Go.Conc


/-- The reference's store. -/
def RefAt (w : World) (r base : Nat) (N made : Int) (l : List Int) : Prop :=
  r < base ∧ base ≤ w.heap.size ∧ ∃ v, w.heap[r]? = some (.cells #[.int .i64 N, .int .i64 made, v] 36 (0, 0)) ∧ w.ownsRow base 3 1 v l.length (l.map (Value.int .i64))

/-- The block that the reference's row lies in. -/
def rowOf (w : World) (r : Nat) : Option Nat :=
  match w.heap[r]? with
  | some (.cells c _ _) => (c.getD 2 undef).ownBlock
  | _ => none
/-- But for r and its row the world is as it was; below 'base' but for r. -/
structure KeepR (r base : Nat) (w w' : World) : Prop where
  os : w'.os = w.os
  tape : w'.tape = w.tape
  output : w'.output = w.output
  size : w.heap.size ≤ w'.heap.size
  block : ∀ k, k < base → k ≠ r → w'.heap[k]? = w.heap[k]?
  far : ∀ k, k < w.heap.size → k ≠ r → some k ≠ rowOf w r → w'.heap[k]? = w.heap[k]?

theorem info3 : (Try.prog.info? 3).map (fun i => (i.zero, i.size, i.bytes)) = some (some (.int .i64 0), 1, 8) := by kernel_rfl

theorem heap3 {w : World} {r : Nat} {N made : Int} {v u : Value} (h : w.heap[r]? = some (.cells #[.int .i64 N, .int .i64 made, v] 36 (0, 0))) :
    (w.setCell ⟨r, 2, none⟩ u).heap[r]? = some (.cells #[.int .i64 N, .int .i64 made, u] 36 (0, 0)) := by
  have hlt := lt_of_block h
  have h' : w.heap[r] = .cells #[.int .i64 N, .int .i64 made, v] 36 (0, 0) := by simpa [Array.getElem?_eq_getElem hlt] using h
  show (w.heap.modify r _)[r]? = _
  rw [Array.getElem?_eq_getElem (by simpa using hlt), Array.getElem_modify_self, h']
  rfl

theorem ref_put_full {w : World} {r base : Nat} {N made : Int} {l : List Int} (x : Int) (h : RefAt w r base N made l) (hN : N ≤ l.length) :
    Calls Try.prog 14 #[.pointer (some ⟨r, 0, none⟩), .int .i64 x] w fun e w' => e = .returned (.bool false) ∧ RefAt w' r base N made l ∧ KeepR r base w w' := by
  have hR := h
  obtain ⟨hrb, hbw, v, hr, hv⟩ := h
  have hc0 : w.cell? ⟨r, 0, none⟩ = some (.int .i64 N) := by simp [World.cell?, hr]
  have hc2 : w.cell? ⟨r, 2, none⟩ = some v := by simp [World.cell?, hr]
  have hsl : ∃ a cap, v = .slice a l.length cap := by
    obtain ⟨_, ⟨rfl, h0⟩ | ⟨g, cap, cur, rfl, _⟩⟩ := hv
    · exact ⟨none, 0, by rw [h0]⟩
    · exact ⟨_, _, rfl⟩
  obtain ⟨a, cap, rfl⟩ := hsl
  have hd : decide (N ≤ (l.length : Int)) = true := by simpa using hN
  have HR := Lib.hid hR
  clear hR hv hr hrb hbw
  go_enter Try.func14, Try.ntmps14
  go_wp2_with fail
  go_quiet (fail)
  go_wp2
  go_ret
  exact ⟨rfl, HR.out, ⟨rfl, rfl, rfl, Nat.le_refl _, fun _ _ _ => rfl, fun _ _ _ _ => rfl⟩⟩

set_option maxHeartbeats 400000 in
theorem ref_put_room {w : World} {r base : Nat} {N made : Int} {l : List Int} (x : Int) (h : RefAt w r base N made l) (hN : l.length < N) (hl : l.length ≤ 1000) :
    Calls Try.prog 14 #[.pointer (some ⟨r, 0, none⟩), .int .i64 x] w fun e w' => e = .returned (.bool true) ∧ RefAt w' r base N made (l ++ [x]) ∧ KeepR r base w w' := by
  obtain ⟨i0, hi, hz0, hz1, hz2⟩ := info_parts info3
  obtain ⟨hrb, hbw, v, hr, hv⟩ := h
  have hc0 : w.cell? ⟨r, 0, none⟩ = some (.int .i64 N) := by simp [World.cell?, hr]
  have hc2 : w.cell? ⟨r, 2, none⟩ = some v := by simp [World.cell?, hr]
  have hf2 : w.frozen? ⟨r, 2, none⟩ = false := by simp [World.frozen?, hr]
  have hsl : ∃ a cap, v = .slice a l.length cap := by
    obtain ⟨_, ⟨rfl, h0⟩ | ⟨g, cap, cur, rfl, _⟩⟩ := hv
    · exact ⟨none, 0, by rw [h0]⟩
    · exact ⟨_, _, rfl⟩
  obtain ⟨a, cap, rfl⟩ := hsl
  have hd : decide (N ≤ (l.length : Int)) = false := by simpa using hN
  have HR := Lib.hid hr
  have HV := Lib.hid hv
  clear hv hr
  go_enter Try.func14, Try.ntmps14
  go_wp2_with fail
  go_quiet (fail)
  obtain ⟨w1, hw1⟩ : ∃ w1, w1 = w.drewN nq := ⟨_, rfl⟩
  rw [← hw1]
  have hb1 : base ≤ w1.heap.size := by rw [hw1]; exact hbw
  have HRow : Hid (rowOf w r = (Value.slice a l.length cap).ownBlock) := by show rowOf w r = _; unfold rowOf; rw [HR.out]; rfl
  have hd2 : w1.cell? ⟨r, 2, none⟩ = some (.slice a l.length cap) := by rw [hw1]; exact hc2
  have hg2 : w1.frozen? ⟨r, 2, none⟩ = false := by rw [hw1]; exact hf2
  have HR1 : Hid (w1.heap[r]? = some (.cells #[.int .i64 N, .int .i64 made, .slice a l.length cap] 36 (0, 0))) := by rw [hw1]; exact HR.out
  have hv1 : w1.ownsRow base 3 1 (.slice a l.length cap) l.length (l.map (Value.int .i64)) := by rw [hw1]; exact HV.out
  have HK : Hid (KeepR r base w w1) := by rw [hw1]; exact ⟨rfl, rfl, rfl, Nat.le_refl _, fun _ _ _ => rfl, fun _ _ _ _ => rfl⟩
  clear hw1 hc0 hc2 hf2 HR HV hbw
  have hown := hv1.alloc (.cells #[.int .i64 x] 3)
  have hrs : r < w1.heap.size := by omega
  have hown' := Lib.hid hown
  clear hown hv1
  go_wp2_with (at_builtin; refine wpList_append_own _ rfl _ _ 34 rfl base 3 i0 (.int .i64 0) 1 8 Try.underlying34 hi hz0 hz1 hz2 rfl (by decide) _ _ _ rfl hown'.out ⟨w1.heap.size, 0, none⟩ 1 1 [.int .i64 x] rfl rfl ?c1 ?c2 ?c3 ?c4 ?c5 ?_)
  case c1 =>
    intro j u hj
    cases j with
    | zero =>
      simp only [List.getElem?_cons_zero, Option.some.injEq] at hj
      subst hj
      exact World.cell?_alloc_new _ _ _ _
    | succ j => simp at hj
  case c2 => simp [Value.oneCell']
  case c3 => unfold maxLen; omega
  case c4 => omega
  case c5 => simp; omega
  intro v' w2 hown2 hg2' _
  have hr2 : w2.heap[r]? = some (.cells #[.int .i64 N, .int .i64 made, .slice a l.length cap] 36 (0, 0)) := by
    rw [hg2'.block r (by simp; omega) ?_, Below.heap_alloc _ _ _ hrs]
    · exact HR1.out
    · have := hown'.out
      obtain ⟨_, ⟨h1, _⟩ | ⟨g, cap', cur, h1, hbg, _⟩⟩ := this
      · rw [h1]; simp [Value.ownBlock]
      · rw [h1]; simp [Value.ownBlock]; omega
  have hs2 : base ≤ w2.heap.size := by have := hg2'.size; simp at this; omega
  have hrs2 : r < w2.heap.size := by omega
  have hf : w2.frozen? ⟨r, 2, none⟩ = false := by simp [World.frozen?, hr2]
  have hc : w2.cell? ⟨r, 2, none⟩ = some (.slice a l.length cap) := by simp [World.cell?, hr2]
  have HO := Lib.hid hown2
  have HG := Lib.hid hg2'
  have HR2 := Lib.hid hr2
  clear hown2 hg2' hr2 hd2 hg2
  obtain ⟨_, ⟨h1, h2⟩ | ⟨g, cap', cur, h1, hbg, hgh, hcc, hcm, hsz, htk⟩⟩ := HO.out
  · omega
  subst h1
  clear hgh htk
  go_wp2
  go_ret
  refine ⟨rfl, ⟨hrb, by rw [size_setCell]; exact hs2, _, heap3 HR2.out, ?_⟩, ?_⟩
  · have := HO.out
    simp only [List.map_append, List.map_cons, List.map_nil, List.length_append, List.length_cons, List.length_nil]
    exact ownsRow_setCell_below this (by simpa using hrb) _
  · have k := HK.out
    refine ⟨HG.out.os.trans k.os, HG.out.tape.trans k.tape, HG.out.output.trans k.output, ?_, fun q hq hqr => ?_, fun q hq hqr hrow => ?_⟩
    · rw [size_setCell]; have := HG.out.size; simp at this; have := k.size; omega
    · rw [Below.heap_setCell _ _ _ _ (by simpa using hqr), HG.out.block q (by simp; omega) ?_, Below.heap_alloc _ _ _ (by omega)]
      · exact k.block q hq hqr
      · obtain ⟨_, ⟨h1, _⟩ | ⟨g, cap', cur, h1, hbg, _⟩⟩ := hown'.out
        · rw [h1]; simp [Value.ownBlock]
        · rw [h1]; simp [Value.ownBlock]; omega
    · have hq1 : q < w1.heap.size := Nat.lt_of_lt_of_le hq k.size
      rw [Below.heap_setCell _ _ _ _ (by simpa using hqr), HG.out.block q (by simp; omega) (by rw [← HRow.out]; exact hrow), Below.heap_alloc _ _ _ hq1]
      exact k.far q hq hqr hrow

theorem ref_new (n : Int) (w : World) : Calls Try.prog 11 #[.int .i64 n] w fun e w' => e = .returned (.pointer (some ⟨w.heap.size, 0, none⟩)) ∧ w' = w.alloc (.cells #[.int .i64 (room n), .int .i64 0, .slice none 0 0] 36) := by
  by_cases h1 : n < 0
  · have hr : room n = 0 := by unfold room; omega
    rw [hr]
    go_enter Try.func11, Try.ntmps11
    go_wp2
    go_ret
    exact ⟨rfl, rfl⟩
  · by_cases h2 : 64 < n
    · have hr : room n = 64 := by unfold room; omega
      rw [hr]
      go_enter Try.func11, Try.ntmps11
      go_wp2
      go_ret
      exact ⟨rfl, rfl⟩
    · have hr : ((room n : Nat) : Int) = n := by unfold room; omega
      rw [hr]
      clear hr
      go_enter Try.func11, Try.ntmps11
      go_wp2
      go_ret
      exact ⟨rfl, rfl⟩

theorem heap3m {w : World} {r : Nat} {N made m : Int} {v : Value} (h : w.heap[r]? = some (.cells #[.int .i64 N, .int .i64 made, v] 36 (0, 0))) :
    (w.setCell ⟨r, 1, none⟩ (.int .i64 m)).heap[r]? = some (.cells #[.int .i64 N, .int .i64 m, v] 36 (0, 0)) := by
  have hlt := lt_of_block h
  have h' : w.heap[r] = .cells #[.int .i64 N, .int .i64 made, v] 36 (0, 0) := by simpa [Array.getElem?_eq_getElem hlt] using h
  show (w.heap.modify r _)[r]? = _
  rw [Array.getElem?_eq_getElem (by simpa using hlt), Array.getElem_modify_self, h']
  rfl

theorem ref_get_none {w : World} {r base : Nat} {N made : Int} (h : RefAt w r base N made []) (h0 : 0 ≤ made) (h1 : made ≤ 1000) :
    Calls Try.prog 16 #[.pointer (some ⟨r, 0, none⟩)] w fun e w' => e = .returned (.tuple #[.int .i64 0, .bool false]) ∧ RefAt w' r base N (made + 1) [] ∧ KeepR r base w w' := by
  obtain ⟨hrb, hbw, v, hr, hv⟩ := h
  have hc1 : w.cell? ⟨r, 1, none⟩ = some (.int .i64 made) := by simp [World.cell?, hr]
  have hc2 : w.cell? ⟨r, 2, none⟩ = some v := by simp [World.cell?, hr]
  have hf : w.frozen? ⟨r, 1, none⟩ = false := by simp [World.frozen?, hr]
  have hsl : ∃ a cap, v = .slice a 0 cap := by
    obtain ⟨_, ⟨rfl, h0⟩ | ⟨g, cap, cur, rfl, _⟩⟩ := hv
    · exact ⟨none, 0, rfl⟩
    · exact ⟨_, _, rfl⟩
  obtain ⟨a, cap, rfl⟩ := hsl
  have HR := Lib.hid hr
  have HV := Lib.hid hv
  clear hv hr
  go_enter Try.func16, Try.ntmps16
  go_wp2
  go_ret2
  refine ⟨rfl, ⟨hrb, by rw [size_setCell]; exact hbw, _, heap3m HR.out, ownsRow_setCell_below HV.out (by simpa using hrb) _⟩, ⟨rfl, rfl, rfl, Nat.le_of_eq (size_setCell _ _ _).symm, fun q _ hq => Below.heap_setCell _ _ _ _ (by simpa using hq), fun q _ hq _ => Below.heap_setCell _ _ _ _ (by simpa using hq)⟩⟩

set_option maxHeartbeats 400000 in
theorem ref_get_some {w : World} {r base : Nat} {N made x : Int} {l : List Int} (h : RefAt w r base N made (x :: l)) (hl : l.length ≤ 1000) :
    Calls Try.prog 16 #[.pointer (some ⟨r, 0, none⟩)] w fun e w' => e = .returned (.tuple #[.int .i64 x, .bool true]) ∧ RefAt w' r base N made l ∧ KeepR r base w w' := by
  obtain ⟨i0, hi, hz0, hz1, hz2⟩ := info_parts info3
  obtain ⟨hrb, hbw, v, hr, hv⟩ := h
  have hc2 : w.cell? ⟨r, 2, none⟩ = some v := by simp [World.cell?, hr]
  have hf : w.frozen? ⟨r, 2, none⟩ = false := by simp [World.frozen?, hr]
  have hv' := hv
  obtain ⟨hlen, ⟨rfl, h0⟩ | ⟨g, cap, cur, rfl, hbg, hgh, hcc, hcm, hsz, htk⟩⟩ := hv'
  · simp at h0
  have hcur : ∀ j u, ((x :: l).map (Value.int .i64))[j]? = some u → w.cell? ⟨g, j, none⟩ = some u := by
    intro j u hj
    rw [← htk] at hj
    have : cur[j]? = some u := by
      rw [List.getElem?_take] at hj
      split at hj
      · simpa using hj
      · cases hj
    simp [World.cell?, hgh, this]
  have hx0 : w.cell? ⟨g, 0, none⟩ = some (.int .i64 x) := hcur 0 _ rfl
  simp only [List.length_cons] at hcc hc2
  unfold maxLen at hcm
  have hgw : g < w.heap.size := lt_of_block hgh
  have hrw : r < w.heap.size := by omega
  have hnil : ∀ (u : List Int), (w.alloc (.cells #[] 3)).ownsRow base 3 1 (.slice (some ⟨w.heap.size, 0, none⟩) 0 0) 0 [] := by
    intro _
    refine ⟨rfl, .inr ⟨w.heap.size, 0, #[], rfl, hbw, heap_alloc_new w _, by omega, by omega, rfl, rfl⟩⟩
  have HN := Lib.hid (hnil [])
  have HR := Lib.hid hr
  have HV := Lib.hid hv
  have HC := Lib.hid hcur
  have HCC := Lib.hid hcc
  clear hv hr hcur hgh htk hlen hnil hcc
  have fin : ∀ (v' : Value) (w2 : World), w2.ownsRow base 3 1 v' l.length (l.map (Value.int .i64)) → (w.alloc (.cells #[] 3)).grownBy w2 (some w.heap.size) →
      w2.heap[r]? = some (.cells #[.int .i64 N, .int .i64 made, .slice (some ⟨g, 0, none⟩) (l.length + 1) cap] 36 (0, 0)) ∧ r < w2.heap.size ∧ base ≤ w2.heap.size ∧ KeepR r base w w2 := by
    intro v' w2 ho hg
    have hs := hg.size
    simp only [World.size_alloc] at hs
    refine ⟨?_, by omega, by omega, ⟨hg.os, hg.tape, hg.output, by omega, fun q hq hqr => ?_, fun q hq hqr _ => ?_⟩⟩
    · rw [hg.block r (by simp; omega) (by simp; omega), Below.heap_alloc _ _ _ hrw]; exact HR.out
    · rw [hg.block q (by simp; omega) (by simp; omega), Below.heap_alloc _ _ _ (by omega)]
    · rw [hg.block q (by simp; omega) (by simp; omega), Below.heap_alloc _ _ _ hq]
  have HF := Lib.hid fin
  clear fin
  by_cases hcap : cap = 1
  · subst hcap
    obtain rfl : l = [] := by have := HCC.out; cases l with | nil => rfl | cons a b => simp at this
    go_enter Try.func16, Try.ntmps16
    go_wp2_with (at_builtin; refine wpList_append_own _ rfl _ _ 34 rfl base 3 i0 (.int .i64 0) 1 8 Try.underlying34 hi hz0 hz1 hz2 rfl (by decide) _ _ _ rfl HN.out ⟨g, 0, none⟩ 0 _ [] rfl rfl ?c1 ?c2 ?c3 ?c4 ?c5 ?_)
    case c1 => intro j u hj; simp at hj
    case c2 => intro u hu; cases hu
    case c3 => unfold maxLen; omega
    case c4 => omega
    case c5 => simp; omega
    intro v' w2 hown2 hg2 hne
    obtain ⟨h1, h2, h3, h4⟩ := HF.out v' w2 hown2 hg2
    have hs2 : w2.frozen? ⟨r, 2, none⟩ = false := by simp [World.frozen?, h1]
    have hs3 : w2.cell? ⟨r, 2, none⟩ = some (.slice (some ⟨g, 0, none⟩) (0 + 1) 1) := by simp [World.cell?, h1]
    have HO := Lib.hid hown2
    have H1 := Lib.hid h1
    have H4 := Lib.hid h4
    clear hown2 h1 h4 hg2 hc2 hf hx0
    obtain ⟨_, ⟨e1, _⟩ | ⟨g', cap', cur', e1, hrest⟩⟩ := HO.out
    · exact absurd e1 hne
    subst e1
    clear hrest hne
    go_wp2
    go_ret2
    exact ⟨rfl, ⟨hrb, by rw [size_setCell]; exact h3, _, heap3 H1.out, ownsRow_setCell_below HO.out (by simpa using hrb) _⟩,
      ⟨H4.out.os, H4.out.tape, H4.out.output, by rw [size_setCell]; exact H4.out.size, fun q hq hqr => (Below.heap_setCell _ _ _ _ (by simpa using hqr)).trans (H4.out.block q hq hqr), fun q hq hqr hrow => (Below.heap_setCell _ _ _ _ (by simpa using hqr)).trans (H4.out.far q hq hqr hrow)⟩⟩
  · go_enter Try.func16, Try.ntmps16
    go_wp2_with (at_builtin; refine wpList_append_own _ rfl _ _ 34 rfl base 3 i0 (.int .i64 0) 1 8 Try.underlying34 hi hz0 hz1 hz2 rfl (by decide) _ _ _ rfl HN.out ⟨g, 1, none⟩ l.length _ (l.map (Value.int .i64)) rfl ?c0 ?c1 ?c2 ?c3 ?c4 ?c5 ?_)
    case c0 => simp
    case c1 =>
      intro j u hj
      have := HC.out (j + 1) u (by simpa using hj)
      have e : (⟨g, 1, none⟩ : Addr).add j = ⟨g, j + 1, none⟩ := by
        simp only [Addr.add]
        split
        · rename_i h; simp only [h]
        · rw [Nat.add_comm]
      rw [e, World.cell?_alloc_lt _ _ _ hgw]
      exact this
    case c2 => intro u hu; simp at hu; obtain ⟨z, _, rfl⟩ := hu; rfl
    case c3 => unfold maxLen; omega
    case c4 => omega
    case c5 => simp; omega
    intro v' w2 hown2 hg2 hne
    obtain ⟨h1, h2, h3, h4⟩ := HF.out v' w2 hown2 hg2
    have hs2 : w2.frozen? ⟨r, 2, none⟩ = false := by simp [World.frozen?, h1]
    have hs3 : w2.cell? ⟨r, 2, none⟩ = some (.slice (some ⟨g, 0, none⟩) (l.length + 1) cap) := by simp [World.cell?, h1]
    have HO := Lib.hid hown2
    have H1 := Lib.hid h1
    have H4 := Lib.hid h4
    clear hown2 h1 h4 hg2 hc2 hf hx0
    obtain ⟨_, ⟨e1, _⟩ | ⟨g', cap', cur', e1, hrest⟩⟩ := HO.out
    · exact absurd e1 hne
    subst e1
    clear hrest hne
    go_wp2
    go_ret2
    exact ⟨rfl, ⟨hrb, by rw [size_setCell]; exact h3, _, heap3 H1.out, ownsRow_setCell_below HO.out (by simpa using hrb) _⟩,
      ⟨H4.out.os, H4.out.tape, H4.out.output, by rw [size_setCell]; exact H4.out.size, fun q hq hqr => (Below.heap_setCell _ _ _ _ (by simpa using hqr)).trans (H4.out.block q hq hqr), fun q hq hqr hrow => (Below.heap_setCell _ _ _ _ (by simpa using hqr)).trans (H4.out.far q hq hqr hrow)⟩⟩

end Go.Proofs.Ytdhbnldigbjkkaa
