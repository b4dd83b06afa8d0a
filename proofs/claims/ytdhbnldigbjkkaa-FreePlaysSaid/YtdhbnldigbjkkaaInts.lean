/- Stores of whole numbers: Put and Get as functions of the list that lies there. No condition. -/
import Derived.Test.YtdhbnldigbjkkaaLives
namespace Go.Proofs.Ytdhbnldigbjkkaa
open Go.RowKit Go.Conc

theorem below_cell {w w1 : World} (hb : Below w.heap.size w w1) {a : Addr} {v : Value} (h : w.cell? a = some v) : w1.cell? a = some v := by
  have hlt : a.block < w.heap.size := by
    rcases Nat.lt_or_ge a.block w.heap.size with h1 | h1
    · exact h1
    · simp [World.cell?, Array.getElem?_eq_none h1] at h
  rw [hb.cell hlt]; exact h

def ints (l : List Int) : Array Value := (l.map fun x => Value.int .i64 x).toArray
theorem ints_push (l : List Int) (x : Int) : (ints l).push (.int .i64 x) = ints (l ++ [x]) := by simp [ints]
theorem ints_size (l : List Int) : (ints l).size = l.length := by simp [ints]
theorem ints_cons (x : Int) (l : List Int) : (ints (x :: l)).getD 0 undef = .int .i64 x ∧ (ints (x :: l)).extract 1 (ints (x :: l)).size = ints l := by
  constructor
  · simp [ints]
  · rw [ints_size]; simp [ints, List.take_of_length_le]

/-- Get of an int store without a maker. -/
def GetPost (b c cap : Nat) (l : List Int) (made : Int) (w : World) (e : Ending) (w' : World) : Prop :=
  e = .returned (.int .i64 (l.headD 0)) ∧ Lie 58 w' b c cap (ints l.tail) (.func (.func 30) #[] #[]) (if l = [] then made + 1 else made) ∧ Keep b c w w'

theorem get_plain {w : World} {b c cap : Nat} {l : List Int} {made : Int} (h : Lie 58 w b c cap (ints l) (.func (.func 30) #[] #[]) made) (h0 : 0 ≤ made) (h1 : made ≤ 1000) :
    Calls Try.prog 15 #[.pointer (some ⟨b, 0, none⟩)] w (GetPost b c cap l made w) := by
  cases l with
  | nil =>
    refine getI_none h h0 h1 (fun W => cf30 _ _) (fun w1 h1 h2 => (zeroI_any w1).mono ?_)
    rintro e w' ⟨rfl, rfl⟩
    exact ⟨_, rfl, rfl, h1, h2⟩
  | cons x l =>
    refine (getI_some (x := .int .i64 x) h (by rw [ints_size]; simp) (ints_cons x l).1).mono ?_
    rintro e w' ⟨rfl, hl, hk⟩
    rw [(ints_cons x l).2] at hl
    exact ⟨rfl, by simpa using hl, hk⟩

/-- Put of an int store. -/
def PutPost (b c cap : Nat) (l : List Int) (x made : Int) (more : Value) (w : World) (e : Ending) (w' : World) : Prop :=
  e = .returned (.bool (decide (l.length < cap))) ∧ Lie 58 w' b c cap (ints (if l.length < cap then l ++ [x] else l)) more made ∧ Keep b c w w'

theorem put_plain {w : World} {b c cap : Nat} {l : List Int} {more : Value} {made : Int} (x : Int) (h : Lie 58 w b c cap (ints l) more made) :
    Calls Try.prog 13 #[.pointer (some ⟨b, 0, none⟩), .int .i64 x] w (PutPost b c cap l x made more w) := by
  by_cases hr : l.length < cap
  · refine (putI_room x h (by rw [ints_size]; exact hr)).mono ?_
    rintro e w' ⟨rfl, hl, hk⟩
    rw [ints_push] at hl
    exact ⟨by simp [hr], by rw [if_pos hr]; exact hl, hk⟩
  · refine (putI_full x h (by rw [ints_size]; omega)).mono ?_
    rintro e w' ⟨rfl, rfl⟩
    exact ⟨by simp [hr], by rw [if_neg hr]; exact h, Keep.refl _ _ _⟩

/-- Three stores, none of whose blocks is another's; the first and the third alike. -/
def Apart (B b1 c1 b2 c2 b3 c3 : Nat) : Prop := B ≤ b1 ∧ B ≤ c1 ∧ B ≤ b2 ∧ B ≤ c2 ∧ B ≤ b3 ∧ B ≤ c3 ∧ b1 < b2 ∧ c1 < b2 ∧ b1 < c2 ∧ c1 < c2 ∧ b2 < b3 ∧ c2 < b3 ∧ b2 < c3 ∧ c2 < c3
def Three (B b1 c1 b2 c2 b3 c3 i : Nat) (w0 w : World) : Prop :=
  (∃ l made l2 made2, Lie 58 w b1 c1 8 (ints l) (.func (.func 30) #[] #[]) made ∧ Lie 58 w b3 c3 8 (ints l) (.func (.func 30) #[] #[]) made ∧
    Lie 58 w b2 c2 8 (ints l2) (.func (.func 30) #[] #[]) made2 ∧ 0 ≤ made ∧ made ≤ i ∧ 0 ≤ made2 ∧ made2 ≤ i) ∧ Below B w0 w ∧ B ≤ w.heap.size

theorem Lie.drew {T : TypeId} {w : World} {b c cap : Nat} {buf : Array Value} {more : Value} {made : Int} (h : Lie T w b c cap buf more made) : Lie T w.drew b c cap buf more made := h

theorem Keep.at {b c : Nat} {w w' : World} (h : Keep b c w w') {a : Addr} {v : Value} (hv : w.cell? a = some v) (h1 : a.block ≠ b) (h2 : a.block ≠ c) : w'.cell? a = some v := by
  have hlt := World.block_lt_of_cell? w _ hv
  rw [World.cell?_of_block (w := w) (h.block a.block hlt h1 h2)]; exact hv

theorem few_short (a : Option Addr) (len cap : Nat) (w : World) (h : len ≤ 300) : Calls Try.prog 12 #[.slice a len cap] w fun e w' => e = .returned (.slice a len cap) ∧ w = w' := by
  have h1 : ¬ (300 : Int) < (len : Int) := by omega
  go_enter Try.func12, Try.ntmps12
  go_wp2
  go_ret
  exact ⟨rfl, rfl⟩
theorem few_long (a : Addr) (len cap : Nat) (w : World) (h : 300 < len) (hc : len ≤ cap) (hl : cap ≤ 9223372036854775807) : Calls Try.prog 12 #[.slice (some a) len cap] w fun e w' => e = .returned (.slice (some a) 300 cap) ∧ w = w' := by
  have h1 : (300 : Int) < (len : Int) := by omega
  have h2 : (300 : Int) ≤ (cap : Int) := by omega
  go_enter Try.func12, Try.ntmps12
  go_wp2
  go_ret
  exact ⟨rfl, rfl⟩

/-- Behind a call on the first store and one on the third. -/
theorem three_next {B b1 c1 b2 c2 b3 c3 : Nat} {w0 w w1 w3 : World} {q1 q2 q3 : Array Value} {m1 m2 m3 : Int} {f1 f2 f3 : Value} (hA : Apart B b1 c1 b2 c2 b3 c3) (h2 : Lie 58 w b2 c2 8 q2 f2 m2) (hB : Below B w0 w) (hz : B ≤ w.heap.size)
    (hp1 : Lie 58 w1 b1 c1 8 q1 f1 m1) (hk1 : Keep b1 c1 w w1) (hp3 : Lie 58 w3 b3 c3 8 q3 f3 m3) (hk3 : Keep b3 c3 w1 w3) :
    Lie 58 w3 b1 c1 8 q1 f1 m1 ∧ Lie 58 w3 b2 c2 8 q2 f2 m2 ∧ Lie 58 w3 b3 c3 8 q3 f3 m3 ∧ Below B w0 w3 ∧ B ≤ w3.heap.size := by
  obtain ⟨h01, h02, h03, h04, h05, h06, h07, h08, h09, h10, h11, h12, h13, h14⟩ := hA
  have hz1 := Nat.le_trans hz hk1.size
  refine ⟨hp1.keepS hk3.toS (by simp; omega) (by simp; omega), (h2.keepS hk1.toS (by simp; omega) (by simp; omega)).keepS hk3.toS (by simp; omega) (by simp; omega), hp3, ?_, Nat.le_trans hz1 hk3.size⟩
  exact hk3.toS.below (hk1.toS.below hB (by simp; omega) hz) (by simp; omega) hz1
/-- Behind a call on the second store. -/
theorem three_mid {B b1 c1 b2 c2 b3 c3 : Nat} {w0 w w2 : World} {q1 q2 q3 : Array Value} {m1 m2 m3 : Int} {f1 f2 f3 : Value} (hA : Apart B b1 c1 b2 c2 b3 c3)
    (h1 : Lie 58 w b1 c1 8 q1 f1 m1) (h3 : Lie 58 w b3 c3 8 q3 f3 m3) (hB : Below B w0 w) (hz : B ≤ w.heap.size) (hp2 : Lie 58 w2 b2 c2 8 q2 f2 m2) (hk2 : Keep b2 c2 w w2) :
    Lie 58 w2 b1 c1 8 q1 f1 m1 ∧ Lie 58 w2 b2 c2 8 q2 f2 m2 ∧ Lie 58 w2 b3 c3 8 q3 f3 m3 ∧ Below B w0 w2 ∧ B ≤ w2.heap.size := by
  obtain ⟨h01, h02, h03, h04, h05, h06, h07, h08, h09, h10, h11, h12, h13, h14⟩ := hA
  refine ⟨h1.keepS hk2.toS (by simp; omega) (by simp; omega), hp2, h3.keepS hk2.toS (by simp; omega) (by simp; omega), ?_, Nat.le_trans hz hk2.size⟩
  exact hk2.toS.below hB (by simp; omega) hz

end Go.Proofs.Ytdhbnldigbjkkaa
