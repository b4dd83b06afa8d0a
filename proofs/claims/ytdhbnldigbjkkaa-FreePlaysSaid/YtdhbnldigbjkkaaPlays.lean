/- FreePlays, walked: it returns true and leaves what was there alone. Condition: the slice's cells hold the calls. -/
import Derived.Test.YtdhbnldigbjkkaaInts
import Derived.Test.YtdhbnldigbjkkaaRef
import Derived.Deep.RegionHeld3
namespace Go.Proofs.Ytdhbnldigbjkkaa
open Go.RowKit Go.Conc

theorem RefAt.keepS {w w' : World} {r base : Nat} {N made : Int} {l : List Int} {S : List Nat} (h : RefAt w r base N made l) (hk : KeepS S w w') (hS : ∀ k ∈ S, k < base ∧ k ≠ r) : RefAt w' r base N made l := by
  obtain ⟨h1, h2, v, h3, h4, h5⟩ := h
  refine ⟨h1, Nat.le_trans h2 hk.size, v, hk.old h3 (fun hh => (hS r hh).2 rfl), h4, ?_⟩
  rcases h5 with h5 | ⟨g, cap, cur, e, hb, hg, rest⟩
  · exact .inl h5
  · exact .inr ⟨g, cap, cur, e, hb, hk.old hg (fun hh => by have := (hS g hh).1; omega), rest⟩

theorem KeepR.old {r base : Nat} {w w' : World} (h : KeepR r base w w') {k : Nat} {o : Obj} (hk : w.heap[k]? = some o) (h1 : k < base) (h2 : k ≠ r) : w'.heap[k]? = some o := (h.block k h1 h2).trans hk
theorem KeepR.lie {r base : Nat} {w w' : World} (h : KeepR r base w w') {T : TypeId} {b c cap : Nat} {buf : Array Value} {more : Value} {made : Int} (hl : Lie T w b c cap buf more made) (hb : b < base) (hc : c < base) (hbr : b ≠ r) (hcr : c ≠ r) :
    Lie T w' b c cap buf more made := by
  obtain ⟨h1, s, q, h2⟩ := hl
  exact ⟨h.old h1 hb hbr, s, q, h.old h2 hc hcr⟩
theorem KeepR.below {r base B : Nat} {w0 w w' : World} (h : KeepR r base w w') (hB : Below B w0 w) (hr : B ≤ r) (hb : B ≤ base) : Below B w0 w' :=
  hB.trans ⟨h.os, h.tape, h.output, h.size, fun k hk => h.block k (by omega) (by omega)⟩

/-- Where the four blocks lie. -/
def Lay (B L b c r base : Nat) : Prop := B ≤ L ∧ B ≤ b ∧ B ≤ c ∧ B ≤ r ∧ L < base ∧ b < base ∧ c < base ∧ r < base ∧ L ≠ r ∧ b ≠ r ∧ c ≠ r ∧ L ≠ b ∧ L ≠ c

def Play (B L b c r base N i : Nat) (w0 w : World) : Prop :=
  ∃ (l : List Int) (M : Int), w.heap[L]? = some (.cells #[.int .i64 M] 3 (0, 0)) ∧ Lie 58 w b c N (ints l) (.func (.func 10) #[] #[.pointer (some ⟨L, 0, none⟩)]) M ∧ RefAt w r base N M l ∧
    0 ≤ M ∧ M ≤ i ∧ l.length ≤ N ∧ Below B w0 w ∧ B ≤ w.heap.size

theorem Play.drewN {B L b c r base N i : Nat} {w0 w : World} (h : Play B L b c r base N i w0 w) (k : Nat) : Play B L b c r base N i w0 (w.drewN k) := by
  obtain ⟨l, M, h1, h2, h3, h4, h5, h6, h7, h8⟩ := h
  exact ⟨l, M, h1, h2, h3, h4, h5, h6, ⟨h7.os, h7.tape, h7.output, h7.size, h7.block⟩, h8⟩

/-- Behind a call on the store and one on the reference. -/
theorem play_both {B L b c r base N i : Nat} {w0 w w1 w2 : World} {l' : List Int} {M' : Int} (hA : Lay B L b c r base) (hL : w1.heap[L]? = some (.cells #[.int .i64 M'] 3 (0, 0)))
    (hB : Below B w0 w) (hz : B ≤ w.heap.size) (h1 : Lie 58 w1 b c N (ints l') (.func (.func 10) #[] #[.pointer (some ⟨L, 0, none⟩)]) M') (hk : KeepS [L, b, c] w w1) (h2 : RefAt w2 r base N M' l') (hk2 : KeepR r base w1 w2)
    (hm : 0 ≤ M') (hm1 : M' ≤ i) (hln : l'.length ≤ N) : Play B L b c r base N i w0 w2 := by
  obtain ⟨a1, a2, a3, a4, a5, a6, a7, a8, a9, a10, a11, a12, a13⟩ := hA
  refine ⟨l', M', hk2.old hL a5 a9, hk2.lie h1 a6 a7 a10 a11, h2, hm, hm1, hln, hk2.below (hk.below hB (by simp; omega) hz) a4 (by omega), Nat.le_trans hz (Nat.le_trans hk.size hk2.size)⟩

def PlayGet (L b c N : Nat) (l : List Int) (M : Int) (w : World) (e : Ending) (w' : World) : Prop :=
  e = .returned (.int .i64 (l.headD (-(M + 1)))) ∧ (∃ M' : Int, M' = (if l = [] then M + 1 else M) ∧ w'.heap[L]? = some (.cells #[.int .i64 M'] 3 (0, 0)) ∧ Lie 58 w' b c N (ints l.tail) (.func (.func 10) #[] #[.pointer (some ⟨L, 0, none⟩)]) M') ∧ KeepS [L, b, c] w w'

theorem play_get {w : World} {L b c N : Nat} {l : List Int} {M : Int} (hL : w.heap[L]? = some (.cells #[.int .i64 M] 3 (0, 0))) (h : Lie 58 w b c N (ints l) (.func (.func 10) #[] #[.pointer (some ⟨L, 0, none⟩)]) M) (h0 : 0 ≤ M) (h1 : M ≤ 1000) :
    Calls Try.prog 15 #[.pointer (some ⟨b, 0, none⟩)] w (PlayGet L b c N l M w) := by
  cases l with
  | nil =>
    refine (get_made (.inr rfl) hL h h0 h1 h0 h1).mono ?_
    rintro e w' ⟨rfl, h2, h3, h4⟩
    exact ⟨rfl, ⟨_, rfl, h3, h2⟩, h4⟩
  | cons x l =>
    have hn := h.neCell hL
    refine (getI_some (x := .int .i64 x) h (by rw [ints_size]; simp) (ints_cons x l).1).mono ?_
    rintro e w' ⟨rfl, hl, hk⟩
    rw [(ints_cons x l).2] at hl
    exact ⟨rfl, ⟨M, by simp, hk.toS.old hL (by simp [hn.1, hn.2]), hl⟩, hk.toS.mono (by simp)⟩

theorem KeepR.drew {r base : Nat} {w w' : World} (h : KeepR r base w w') : KeepR r base w w' := h

theorem rowOf_keep {w w' : World} {r : Nat} (h : w'.heap[r]? = w.heap[r]?) : rowOf w' r = rowOf w r := by unfold rowOf; rw [h]
theorem RefAt.row {w : World} {r base : Nat} {N made : Int} {l : List Int} (h : RefAt w r base N made l) {k : Nat} (hk : rowOf w r = some k) : k < w.heap.size := by
  obtain ⟨h1, h2, v, h3, h4, h5⟩ := h
  unfold rowOf at hk
  rw [h3] at hk
  rcases h5 with ⟨rfl, _⟩ | ⟨g, cap, cur, rfl, hb, hg, rest⟩
  · simp [Value.ownBlock] at hk
  · simp [Value.ownBlock] at hk
    subst hk
    exact lt_of_block hg
theorem KeepR.at {r base : Nat} {w w' : World} (h : KeepR r base w w') {a : Addr} {v : Value} (hv : w.cell? a = some v) (h1 : a.block ≠ r) (h2 : rowOf w r ≠ some a.block) : w'.cell? a = some v := by
  have hlt := World.block_lt_of_cell? w _ hv
  rw [World.cell?_of_block (w := w) (h.far a.block hlt h1 (fun e => h2 e.symm))]; exact hv

theorem row_new {w w6 : World} {o : Obj} {r base b c : Nat} {N made : Int} {l : List Int} (hR : RefAt w r base N made l) (hk : Keep b c (w.alloc o).drew w6) (h1 : r ≠ b) (h2 : r ≠ c) : rowOf w6 r ≠ some w.heap.size := by
  intro e
  have hrw : r < w.heap.size := by have := hR.1; have := hR.2.1; omega
  have hz : r < (w.alloc o).drew.heap.size := by show r < (w.heap.push o).size; simp; omega
  rw [rowOf_keep (hk.block r hz h1 h2), rowOf_keep (w := w) (w' := (w.alloc o).drew) (Below.heap_alloc w o _ hrw)] at e
  exact absurd (hR.row e) (Nat.lt_irrefl _)

/-- The reference's Put. -/
def RefPut (r base N : Nat) (l : List Int) (x M : Int) (w : World) (e : Ending) (w' : World) : Prop :=
  e = .returned (.bool (decide (l.length < N))) ∧ RefAt w' r base N M (if l.length < N then l ++ [x] else l) ∧ KeepR r base w w'
theorem ref_put {w : World} {r base N : Nat} {M : Int} {l : List Int} (x : Int) (h : RefAt w r base N M l) (hl : l.length ≤ 1000) :
    Calls Try.prog 14 #[.pointer (some ⟨r, 0, none⟩), .int .i64 x] w (RefPut r base N l x M w) := by
  by_cases hr : l.length < N
  · refine (ref_put_room x h (by omega) hl).mono ?_
    rintro e w' ⟨rfl, h1, h2⟩
    exact ⟨by simp [hr], by rw [if_pos hr]; exact h1, h2⟩
  · refine (ref_put_full x h (by omega)).mono ?_
    rintro e w' ⟨rfl, h1, h2⟩
    exact ⟨by simp [hr], by rw [if_neg hr]; exact h1, h2⟩
theorem len_quiet {w : World} {b c N : Nat} {l : List Int} {more : Value} {M : Int} (h : Lie 58 w b c N (ints l) more M) (k : Nat) :
    Calls Try.prog 17 #[.pointer (some ⟨b, 0, none⟩)] (w.drewN k) fun e w' => e = .returned (.int .i64 l.length) ∧ w' = w.drewN k :=
  (lenI_any (w := w.drewN k) h).mono fun _ _ ⟨a, b⟩ => ⟨by rw [a, ints_size], b.symm⟩
theorem made_quiet {w : World} {b c N : Nat} {l : List Int} {more : Value} {M : Int} (h : Lie 58 w b c N (ints l) more M) (k : Nat) :
    Calls Try.prog 18 #[.pointer (some ⟨b, 0, none⟩)] (w.drewN k) fun e w' => e = .returned (.int .i64 M) ∧ w' = w.drewN k :=
  (madeI_any (w := w.drewN k) h).mono fun _ _ ⟨a, b⟩ => ⟨a, b.symm⟩

set_option maxHeartbeats 4000000 in
theorem plays_core (a : Option Addr) (A off len cap n : Nat) (N0 : Int) (os : Nat → Bool × Int) (w : World)
    (ha : 0 < n → a = some ⟨A, off, none⟩) (hcell : ∀ i, i < n → w.cell? ⟨A, off + i * 2, none⟩ = some (.bool (os i).1) ∧ w.cell? ⟨A, off + i * 2 + 1, none⟩ = some (.int .i64 (os i).2)) (hn : n ≤ 300)
    (hfew : ∀ w, Calls Try.prog 12 #[.slice a len cap] w fun e w' => e = .returned (.slice a n cap) ∧ w = w') :
    Calls Try.prog 3 #[.int .i64 N0, .slice a len cap] w fun e w' => e = .returned (.bool true) ∧ Below w.heap.size w w' := by
  have HC := Lib.hid hcell
  have HAA := Lib.hid ha
  have HF := Lib.hid hfew
  have hN64 : room N0 ≤ 64 := by unfold room; omega
  clear hcell ha hfew
  go_enter Try.func3, Try.ntmps3
  go_wp2_with fail
  have hL0 : (w.alloc (.cells #[.int .i64 0] 3)).heap[w.heap.size]? = some (.cells #[.int .i64 0] 3 (0, 0)) := heap_alloc_new w _
  have hB0 : Below w.heap.size w (w.alloc (.cells #[.int .i64 0] 3)) := Below.one _
  have hz0 : w.heap.size < (w.alloc (.cells #[.int .i64 0] 3)).heap.size := by simp
  generalize w.alloc (.cells #[.int .i64 0] 3) = w0 at hL0 hB0 hz0 ⊢
  refine (newI_any N0 _ _ (.inr ⟨10, _, rfl, rfl⟩) w0).mono ?_
  rintro e w1 ⟨b, c, rfl, hl, hb1, hc1, hb2, hc2, hB1⟩
  have hL1 := (hB1.block _ hz0).trans hL0
  have HBB1 := Lib.hid (hB0.trans (hB1.mono (Nat.le_of_lt hz0)))
  have hn := Lib.hid (hl.neCell hL1)
  have Hl := Lib.hid hl
  have HL1 := Lib.hid hL1
  have hz1 := hB1.size
  clear hl hL0 hB0 hB1 hL1
  go_wp2_with fail
  refine (ref_new N0 w1).mono ?_
  rintro e w2 ⟨rfl, hw2⟩
  have h0 : Play w.heap.size w.heap.size b c w1.heap.size (w1.heap.size + 1) (room N0) 0 w w2 := by
    rw [hw2]
    refine ⟨[], 0, ?_, Hl.out.alloc _, ⟨by omega, by simp, _, heap_alloc_new w1 _, rfl, .inl ⟨rfl, rfl⟩⟩, by omega, by omega, by simp, HBB1.out.alloc (by omega) _, by simp; omega⟩
    rw [Below.heap_alloc _ _ _ (by omega)]; exact HL1.out
  have hLay : Lay w.heap.size w.heap.size b c w1.heap.size (w1.heap.size + 1) := by
    obtain ⟨hn1, hn2⟩ := hn.out
    refine ⟨?_, ?_, ?_, ?_, ?_, ?_, ?_, ?_, ?_, ?_, ?_, ?_, ?_⟩ <;> omega
  have H0 := Lib.hid h0
  have HA := Lib.hid hLay
  obtain ⟨r, hr⟩ : ∃ r, r = w1.heap.size := ⟨_, rfl⟩
  obtain ⟨N, hNN⟩ : ∃ N, N = room N0 := ⟨_, rfl⟩
  rw [← hr] at H0 HA ⊢
  rw [← hNN] at H0 hN64
  clear hw2 h0 hLay hr hNN Hl HL1 HBB1 hn hb1 hc1 hb2 hc2 hz1 hz0
  go_wp2_with fail
  refine (HF.out _).mono ?_
  rintro e w4 ⟨rfl, rfl⟩
  go_wp2_with fail
  go_loopw [4, 9, 10, 11, 12, 23] (fun _ _ _ _ _ k w1 => ∃ i : Nat, i ≤ n ∧ k = .int .i64 i ∧ Play w.heap.size w.heap.size b c r (r + 1) N i w w1) (fun _ _ _ _ _ k _ => n - (intOf k).toNat)
  case atStart => exact ⟨0, by omega, rfl, H0.out⟩
  case round =>
    clear H0
    obtain ⟨i, hi, rfl, l, M, hL, hl, hR, hM0, hM1, hlN, hB, hz⟩ := hrel
    have HB := Lib.hid hB
    have HL := Lib.hid hL
    have Hl := Lib.hid hl
    have HR := Lib.hid hR
    have Hln := Lib.hid hlN
    clear hB hL hl hR hlN
    by_cases hin : i < n
    · obtain rfl := HAA.out (by omega)
      have hci := below_cell HB.out (HC.out i hin).1
      have hci2 := below_cell HB.out (HC.out i hin).2
      rcases hO : os i with ⟨p, x⟩
      rw [hO] at hci hci2
      dsimp only at hci hci2
      clear hO
      cases p
      · go_wp2_with fail
        refine (play_get (by rw [Below.heap_alloc _ _ _ (lt_of_block HL.out)]; exact HL.out) (Hl.out.alloc _) hM0 (by omega)).mono ?_
        rintro e w6 ⟨rfl, ⟨M', hM', hL6, hl6⟩, hk6⟩
        have HL6 := Lib.hid hL6
        have Hl6 := Lib.hid hl6
        have HK6 := Lib.hid hk6
        have HR6 : Hid (RefAt w6 r (r + 1) N M l) := HR.out.keepS ((KeepS.ofBelow (Below.one _)).trans hk6) (by
          obtain ⟨a1, a2, a3, a4, a5, a6, a7, a8, a9, a10, a11, a12, a13⟩ := HA.out
          intro k hk; simp at hk; rcases hk with rfl | rfl | rfl <;> constructor <;> omega)
        have HK := Lib.hid ((KeepS.ofBelow (S := [w.heap.size, b, c]) (Below.one (w := wr) (.cells #[.bool false, .int .i64 x] 30))).trans hk6)
        clear hL6 hl6 hk6 HL Hl HR HK6
        cases l with
        | nil =>
          simp only [List.headD_nil, if_pos] at hM' ⊢
          go_wp2_with fail
          refine (ref_get_none HR6.out hM0 (by omega)).mono ?_
          rintro e wX ⟨rfl, hR7, hk7⟩
          have hP : Hid (Play w.heap.size w.heap.size b c r (r + 1) N (i + 1) w wX) := play_both (M' := M + 1) (l' := []) HA.out (by rw [← hM']; exact HL6.out) HB.out hz (by rw [← hM']; exact Hl6.out) HK.out hR7 hk7 (by omega) (by omega) (by simp)
          have hm1 : wX.cell? ⟨r, 1, none⟩ = some (.int .i64 (M + 1)) := by
            obtain ⟨_, _, v, hr, hv⟩ := hR7
            simp [World.cell?, hr]
          clear hR7 hk7 HR6 HK HL6 Hl6 hM'
          go_wp2_with fail
          clear hm1
          obtain ⟨l', M', hL', hl', hR', hM0', hM1', hlN', hB', hz'⟩ := hP.out
          have hcL := cell_of_one hL'
          obtain ⟨_, _, v, hr, hv⟩ := id hR'
          have hc1 : wX.cell? ⟨r, 1, none⟩ = some (.int .i64 M') := by simp [World.cell?, hr]
          have hc2 : wX.cell? ⟨r, 2, none⟩ = some v := by simp [World.cell?, hr]
          have hsl : ∃ a cap, v = .slice a l'.length cap := by
            obtain ⟨_, ⟨rfl, h0⟩ | ⟨g, cap, cur, rfl, _⟩⟩ := hv
            · exact ⟨none, 0, by rw [h0]⟩
            · exact ⟨_, _, rfl⟩
          obtain ⟨a, capv, rfl⟩ := hsl
          have Hl' := Lib.hid hl'
          clear hL' hl' hR' hM0' hM1' hlN' hB' hz' hr hv
          go_wp2_with fail
          go_quiet ((first | (go_at_call 17; exact Calls.quiet_of_same (len_quiet Hl'.out _)) | (go_at_call 18; exact Calls.quiet_of_same (made_quiet Hl'.out _))))
          have hQ0 : Play w.heap.size w.heap.size b c r (r + 1) N (i + 1) w (wX.drewN nq) := hP.out.drewN nq
          have hQ := Lib.hid hQ0
          clear hQ0 hP Hl' hcL hc1 hc2
          go_wp2_with fail
          go_roundw
          case rel => exact ⟨i + 1, by omega, by go_num, hQ.out⟩
          case measure => simp [intOf]; omega
        | cons y l =>
          simp only [List.headD_cons, if_neg (List.cons_ne_nil y l), List.tail_cons] at hM' Hl6 ⊢
          go_wp2_with fail
          refine (ref_get_some HR6.out (by have := Hln.out; simp at this; omega)).mono ?_
          rintro e wX ⟨rfl, hR7, hk7⟩
          have hP : Hid (Play w.heap.size w.heap.size b c r (r + 1) N (i + 1) w wX) := play_both (M' := M) (l' := l) HA.out (by rw [← hM']; exact HL6.out) HB.out hz (by rw [← hM']; exact Hl6.out) HK.out hR7 hk7 (by omega) (by omega) (by have := Hln.out; simp at this; omega)
          clear hR7 hk7 HR6 HK HL6 Hl6 hM'
          obtain ⟨l', M', hL', hl', hR', hM0', hM1', hlN', hB', hz'⟩ := hP.out
          have hcL := cell_of_one hL'
          obtain ⟨_, _, v, hr, hv⟩ := id hR'
          have hc1 : wX.cell? ⟨r, 1, none⟩ = some (.int .i64 M') := by simp [World.cell?, hr]
          have hc2 : wX.cell? ⟨r, 2, none⟩ = some v := by simp [World.cell?, hr]
          have hsl : ∃ a cap, v = .slice a l'.length cap := by
            obtain ⟨_, ⟨rfl, h0⟩ | ⟨g, cap, cur, rfl, _⟩⟩ := hv
            · exact ⟨none, 0, by rw [h0]⟩
            · exact ⟨_, _, rfl⟩
          obtain ⟨a, capv, rfl⟩ := hsl
          have Hl' := Lib.hid hl'
          clear hL' hl' hR' hM0' hM1' hlN' hB' hz' hr hv
          go_wp2_with fail
          go_quiet ((first | (go_at_call 17; exact Calls.quiet_of_same (len_quiet Hl'.out _)) | (go_at_call 18; exact Calls.quiet_of_same (made_quiet Hl'.out _))))
          have hQ0 : Play w.heap.size w.heap.size b c r (r + 1) N (i + 1) w (wX.drewN nq) := hP.out.drewN nq
          have hQ := Lib.hid hQ0
          clear hQ0 hP Hl' hcL hc1 hc2
          go_wp2_with fail
          go_roundw
          case rel => exact ⟨i + 1, by omega, by go_num, hQ.out⟩
          case measure => simp [intOf]; omega
      · go_wp2_with fail
        obtain ⟨a1, a2, a3, a4, a5, a6, a7, a8, a9, a10, a11, a12, a13⟩ := HA.out
        have hcx : (wr.alloc (.cells #[.bool true, .int .i64 x] 30)).cell? ⟨wr.heap.size, 1, none⟩ = some (.int .i64 x) := by simp
        have HHl : Hid (Lie 58 (wr.alloc (.cells #[.bool true, .int .i64 x] 30)).drew b c N (ints l) (.func (.func 10) #[] #[.pointer (some ⟨w.heap.size, 0, none⟩)]) M) := (Hl.out.alloc _).drew
        have HHR : Hid (RefAt (wr.alloc (.cells #[.bool true, .int .i64 x] 30)).drew r (r + 1) N M l) := HR.out.keepS (S := []) (KeepS.ofBelow (Below.one _).drew) (by simp)
        have hrw : r < wr.heap.size := by have := HR.out.2.1; omega
        have hbw := Hl.out.blt
        have hcw := Hl.out.clt
        go_region_held3 (fun w' => w'.cell? ⟨wr.heap.size, 1, none⟩ = some (.int .i64 x)) (first | go_keep | exact Keep.at HK1.out (by simp) (by simp; omega) (by simp; omega) | exact KeepR.at HK3.out (by assumption) (by simp; omega) HRW6.out) (first
          | (go_at_call 13; (with_reducible refine (put_plain (b := b) x HHl.out).mono ?_); rintro e w6 ⟨rfl, hp1, hk1⟩; have HP1 := Lib.hid hp1; have HK1 := Lib.hid hk1; have HRW6 := Lib.hid (row_new HR.out hk1 (fun e => a10 e.symm) (fun e => a11 e.symm)); clear hp1 hk1)
          | (go_at_call 14; (with_reducible refine (ref_put (r := r) x (HHR.out.keepS HK1.out.toS (by intro k hk; simp at hk; rcases hk with rfl | rfl <;> constructor <;> omega)) (by have := Hln.out; omega)).mono ?_); rintro e w7 ⟨rfl, hp3, hk3⟩; have HP3 := Lib.hid hp3; have HK3 := Lib.hid hk3; clear hp3 hk3))
        obtain ⟨wX, hwX⟩ : ∃ wX, wX = w7 := ⟨_, rfl⟩
        rw [← hwX]
        have hP : Hid (Play w.heap.size w.heap.size b c r (r + 1) N (i + 1) w wX) := by
          rw [hwX]
          have hLL : w6.heap[w.heap.size]? = some (.cells #[.int .i64 M] 3 (0, 0)) := HK1.out.toS.old (by show (wr.alloc _).heap[w.heap.size]? = _; rw [Below.heap_alloc _ _ _ (lt_of_block HL.out)]; exact HL.out) (by simp; omega)
          exact play_both (M' := M) HA.out hLL HB.out hz HP1.out ((KeepS.ofBelow (Below.one _).drew).trans (HK1.out.toS.mono (by simp))) HP3.out HK3.out hM0 (by omega) (by have := Hln.out; split <;> simp <;> omega)
        clear hwX HP1 HP3 HK1 HK3 HHl HHR HL Hl HR hcx HRW6
        obtain ⟨l', M', hL', hl', hR', hM0', hM1', hlN', hB', hz'⟩ := hP.out
        have hcL := cell_of_one hL'
        obtain ⟨_, _, v, hr, hv⟩ := id hR'
        have hc1 : wX.cell? ⟨r, 1, none⟩ = some (.int .i64 M') := by simp [World.cell?, hr]
        have hc2 : wX.cell? ⟨r, 2, none⟩ = some v := by simp [World.cell?, hr]
        have hsl : ∃ a cap, v = .slice a l'.length cap := by
          obtain ⟨_, ⟨rfl, h0⟩ | ⟨g, cap, cur, rfl, _⟩⟩ := hv
          · exact ⟨none, 0, by rw [h0]⟩
          · exact ⟨_, _, rfl⟩
        obtain ⟨a, capv, rfl⟩ := hsl
        have Hl' := Lib.hid hl'
        clear hL' hl' hR' hM0' hM1' hlN' hB' hz' hr hv
        go_wp2_with fail
        go_quiet ((first | (go_at_call 17; exact Calls.quiet_of_same (len_quiet Hl'.out _)) | (go_at_call 18; exact Calls.quiet_of_same (made_quiet Hl'.out _))))
        have hQ0 : Play w.heap.size w.heap.size b c r (r + 1) N (i + 1) w (wX.drewN nq) := hP.out.drewN nq
        have hQ := Lib.hid hQ0
        clear hQ0 hP Hl' hcL hc1 hc2
        go_wp2_with fail
        go_roundw
        case rel => exact ⟨i + 1, by omega, by go_num, hQ.out⟩
        case measure => simp [intOf]; omega
    · obtain rfl : i = n := by omega
      clear hin hi
      go_wp2_with fail
      refine (lives_any _).mono ?_
      rintro e w7 ⟨rfl, hB7⟩
      have H7 := Lib.hid (HB.out.trans (hB7.mono hz))
      clear hB7
      go_wp2_with fail
      go_ret
      exact ⟨rfl, H7.out⟩
end Go.Proofs.Ytdhbnldigbjkkaa
