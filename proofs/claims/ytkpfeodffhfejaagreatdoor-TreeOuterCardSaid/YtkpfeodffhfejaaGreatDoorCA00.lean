/- Runes of a text: how many there are, the first of them: buf's Count and Cut. No condition but the texts' sizes. -/
import Derived.Test.YtkpfeodffhfejaaGreatDoorRows
import Derived.WalkKit
import Derived.WalkLawsBesides
import Derived.WalkSpells
import Derived.Lib.Walk
import Derived.Lib.RuneCount
import Derived.Laws.RangeString
import Derived.Laws.RangeAny
import Derived.LoopTactic
import Derived.Lib.Hide
import Derived.ProofKit
import Derived.OpenShut
import Derived.SizedLaws
namespace Go.Proofs.YtkpfeodffhfejaaGreatDoor
set_option linter.unusedVariables false
set_option linter.unusedSimpArgs false
open Go.RowKit

/-- What a call hands back that makes memory of its own alone. -/
def Ret (w : World) (v : Value) (e : Ending) (w' : World) : Prop := e = .returned v ∧ Below w.heap.size w w'
theorem _root_.Go.RowKit.Below.next {w w1 w2 : World} (h : Below w.heap.size w w1) (h2 : Below w1.heap.size w1 w2) : Below w.heap.size w w2 := h.trans (h2.mono h.size)
theorem _root_.Go.RowKit.Below.push {w w1 : World} (h : Below w.heap.size w w1) (o : Obj) : Below w.heap.size w (w1.alloc o) := h.alloc h.size o
theorem _root_.Go.RowKit.Below.new {w : World} (o : Obj) : Below w.heap.size w (w.alloc o) := (Below.refl _ _).alloc (Nat.le_refl _) _
theorem cell_below {w w' : World} (hb : Below w.heap.size w w') {a : Addr} {v : Value} (h : w.cell? a = some v) : w'.cell? a = some v := by
  rw [hb.cell (World.block_lt_of_cell? w _ h)]; exact h
theorem iter_below (w : World) (s : ByteArray) (pos : Nat) : Below w.heap.size w (w.iter s pos) := Below.new _

set_option maxHeartbeats 4000000 in
set_option maxRecDepth 1000000 in
theorem count_any (s : ByteArray) (w : World) (hs : s.size ≤ 140737488355328) :
    Calls Tryz.prog 66 #[.string s] w (Ret w (.int .i64 (Lib.runeCount s))) := by
  go_enter Tryz.func66, Tryz.ntmps66
  go_wp2
  go_loopw [3] (fun n w' => ∃ (pos b acc : Nat), w' = w.iter s pos ∧ n = .int .i64 acc ∧ acc + Lib.runeCountFrom s b pos = Lib.runeCount s ∧ s.size ≤ pos + b ∧ acc ≤ pos) (fun _ w' => s.size - w'.iterPos w.heap.size)
  case atStart => exact ⟨0, s.size, 0, rfl, rfl, by simp [Lib.runeCount], by omega, Nat.le_refl _⟩
  case round =>
    obtain ⟨pos, b, acc, rfl, rfl, hc, hb, ha⟩ := hrel
    by_cases hp : pos < s.size
    · have hnx : ∀ ty, (Instr.next (.pointer (some ⟨w.heap.size, 0, none⟩)) true ty).run Tryz.prog (w.iter s pos) = _ := fun ty => run_next_any w s pos ty hp
      have hwd := Lib.decode_width_pos s pos hp
      go_wp2
      go_roundw
      case rel =>
        cases b with
        | zero => omega
        | succ b =>
          refine ⟨pos + (Utf8.decode s pos).2, b, acc + 1, rfl, by go_num, ?_, by omega, by omega⟩
          rw [← hc]
          simp [Lib.runeCountFrom, hp]
          omega
      case measure =>
        simp
        omega
    · have hnx : ∀ ty, (Instr.next (.pointer (some ⟨w.heap.size, 0, none⟩)) true ty).run Tryz.prog (w.iter s pos) = _ := fun ty => run_next_end w s pos ty hp
      go_wp2
      go_ret
      rw [Lib.runeCountFrom_end s b pos hp, Nat.add_zero] at hc
      subst hc
      exact ⟨rfl, iter_below _ _ _⟩
/-- Where the n-th rune from a place on begins. -/
def runeAt (s : ByteArray) : Nat → Nat → Nat → Nat
  | 0, _, pos => pos
  | fuel + 1, n, pos => if n = 0 then pos else if pos < s.size then runeAt s fuel (n - 1) (pos + (Utf8.decode s pos).2) else pos
/-- The first n runes. -/
def cutB (s : ByteArray) (n : Int) : ByteArray := if n < 0 then s else s.extract 0 (min s.size (runeAt s s.size n.toNat 0))
theorem Exit_skip : True := trivial
set_option maxHeartbeats 4000000 in
set_option maxRecDepth 1000000 in
theorem cut_neg (s : ByteArray) (n : Int) (w : World) (hn : n < 0) :
    Calls Tryz.prog 43 #[.string s, .int .i64 n] w (Ret w (.string s)) := by
  go_enter Tryz.func43, Tryz.ntmps43
  go_wp2
  go_ret
  exact ⟨rfl, Below.refl _ _⟩
theorem runeAt_end (s : ByteArray) (fuel n pos : Nat) (h : ¬ pos < s.size) : runeAt s fuel n pos = pos := by
  cases fuel
  · rfl
  · simp only [runeAt]
    split
    · rfl
    · rfl
theorem runeAt_zero (s : ByteArray) (fuel pos : Nat) : runeAt s fuel 0 pos = pos := by
  cases fuel
  · rfl
  · simp [runeAt]
set_option maxHeartbeats 4000000 in
set_option maxRecDepth 1000000 in
theorem cut_pos (s : ByteArray) (n : Nat) (w : World) (hs : s.size ≤ 140737488355328) (hn : n ≤ 9223372036854775807) :
    Calls Tryz.prog 43 #[.string s, .int .i64 (n : Int)] w (Ret w (.string (cutB s n))) := by
  have hcut : cutB s n = s.extract 0 (min s.size (runeAt s s.size n 0)) := by unfold cutB; rw [if_neg (by omega)]; rfl
  rw [hcut]
  have H0 := Lib.hid hcut
  clear hcut H0
  go_enter Tryz.func43, Tryz.ntmps43
  go_wp2
  go_loopw [1, 5] (fun nn _ w' => ∃ (pos b m : Nat), w' = w.iter s pos ∧ nn = .int .i64 m ∧ Hid (runeAt s b m pos = runeAt s s.size n 0) ∧ s.size ≤ pos + b ∧ m ≤ n) (fun _ _ w' => s.size - w'.iterPos w.heap.size)
  case atStart => exact ⟨0, s.size, n, rfl, rfl, rfl, by omega, Nat.le_refl _⟩
  case round =>
    obtain ⟨pos, b, m, rfl, rfl, hc, hb, hm⟩ := hrel
    by_cases hp : pos < s.size
    · have hnx : ∀ ty, (Instr.next (.pointer (some ⟨w.heap.size, 0, none⟩)) true ty).run Tryz.prog (w.iter s pos) = _ := fun ty => run_next_any w s pos ty hp
      have hwd := Lib.decode_width_pos s pos hp
      by_cases hm0 : m = 0
      · subst hm0
        go_wp2
        go_ret
        rw [runeAt_zero] at hc
        refine ⟨?_, iter_below _ _ _⟩
        rw [← hc.out, Nat.min_eq_right (by omega)]
        rfl
      · have e0 : ((m : Int) == 0) = false := by simp [hm0]
        go_wp2
        go_roundw
        case rel =>
          cases b with
          | zero => omega
          | succ b =>
            refine ⟨pos + (Utf8.decode s pos).2, b, m - 1, rfl, ?_, ?_, by omega, by omega⟩
            · congr 1; omega
            · have := hc.out
              simp only [runeAt, hm0, if_false, hp, if_true] at this
              exact this
        case measure =>
          simp
          omega
    · have hnx : ∀ ty, (Instr.next (.pointer (some ⟨w.heap.size, 0, none⟩)) true ty).run Tryz.prog (w.iter s pos) = _ := fun ty => run_next_end w s pos ty hp
      go_wp2
      go_ret
      have := hc.out
      rw [runeAt_end s b m pos hp] at this
      refine ⟨?_, iter_below _ _ _⟩
      rw [← this, Nat.min_eq_left (by omega)]
      simp
theorem cut_any (s : ByteArray) (n : Int) (w : World) (hs : s.size ≤ 140737488355328) (hn : n ≤ 9223372036854775807) :
    Calls Tryz.prog 43 #[.string s, .int .i64 n] w (Ret w (.string (cutB s n))) := by
  by_cases h : n < 0
  · have : cutB s n = s := by unfold cutB; rw [if_pos h]
    rw [this]
    exact cut_neg s n w h
  · obtain ⟨m, rfl⟩ : ∃ m : Nat, n = m := ⟨n.toNat, by omega⟩
    exact cut_pos s m w hs (by omega)
end Go.Proofs.YtkpfeodffhfejaaGreatDoor

/- Descriptors and values of the program in memory, and as plain Lean data; what stays of them in a later world. No condition. -/
namespace Go.Proofs.YtkpfeodffhfejaaGreatDoor
set_option linter.unusedVariables false
set_option maxRecDepth 1000000
open Go.RowKit

/-- A descriptor. -/
inductive D : Type where
  | mk (kind : Int) (type : ByteArray) (bits imag : Int) (text : ByteArray) (names : List ByteArray) (parts : List D) (hook : Int)

namespace D
def kind : D → Int | mk k _ _ _ _ _ _ _ => k
def type : D → ByteArray | mk _ t _ _ _ _ _ _ => t
def bits : D → Int | mk _ _ b _ _ _ _ _ => b
def imag : D → Int | mk _ _ _ i _ _ _ _ => i
def text : D → ByteArray | mk _ _ _ _ t _ _ _ => t
def names : D → List ByteArray | mk _ _ _ _ _ n _ _ => n
def parts : D → List D | mk _ _ _ _ _ _ p _ => p
def hook : D → Int | mk _ _ _ _ _ _ _ h => h
theorem eta (d : D) : d = mk d.kind d.type d.bits d.imag d.text d.names d.parts d.hook := by cases d; rfl

mutual
theorem induct_d {P : D → Prop} (h : ∀ d : D, (∀ x ∈ d.parts, P x) → P d) : ∀ d, P d
  | mk k t b i x n p h' => h _ (induct_l h p)
theorem induct_l {P : D → Prop} (h : ∀ d : D, (∀ x ∈ d.parts, P x) → P d) : ∀ l : List D, ∀ x ∈ l, P x
  | [], _, hx => by cases hx
  | y :: l, x, hx => by
    rcases List.mem_cons.1 hx with e | hx
    · rw [e]; exact induct_d h y
    · exact induct_l h l x hx
end
end D

/-- What a text, or a slice, holds at most. -/
def cap47 : Nat := 140737488355328

/-- A number of 64 bits without a sign; an int. -/
def U64 (x : Int) : Prop := 0 ≤ x ∧ x < 18446744073709551616
def I64 (x : Int) : Prop := -9223372036854775808 ≤ x ∧ x < 9223372036854775808

/-- The eight cells of a descriptor that lies in a row, as its value. -/
def rowD (w : World) (b o : Nat) : Value :=
  .agg #[(w.cell? ⟨b, o, none⟩).getD undef, (w.cell? ⟨b, o + 1, none⟩).getD undef, (w.cell? ⟨b, o + 2, none⟩).getD undef, (w.cell? ⟨b, o + 3, none⟩).getD undef,
    (w.cell? ⟨b, o + 4, none⟩).getD undef, (w.cell? ⟨b, o + 5, none⟩).getD undef, (w.cell? ⟨b, o + 6, none⟩).getD undef, (w.cell? ⟨b, o + 7, none⟩).getD undef]

/-- A descriptor's value, its two slices open. -/
def aggD (d : D) (a5 : Option Addr) (c5 : Nat) (a6 : Option Addr) (c6 : Nat) : Value :=
  .agg #[.int .i64 d.kind, .string d.type, .int .u64 d.bits, .int .u64 d.imag, .string d.text, .slice a5 d.names.length c5, .slice a6 d.parts.length c6, .int .i64 d.hook]

/-- A slice of texts. -/
def NamesAt (w : World) (a : Option Addr) (c : Nat) (l : List ByteArray) : Prop :=
  l.length ≤ c ∧ l.length ≤ cap47 ∧ ∃ b o, (0 < l.length → a = some ⟨b, o, none⟩) ∧ (∀ i (h : i < l.length), w.cell? ⟨b, o + i, none⟩ = some (.string l[i])) ∧ ∀ x ∈ l, x.size ≤ cap47

/-- The value v is the descriptor d, in world w. -/
inductive IsD (w : World) : Value → D → Prop where
  | mk (d : D) (a5 : Option Addr) (c5 : Nat) (a6 : Option Addr) (c6 b6 o6 : Nat) (hk : I64 d.kind) (hb : U64 d.bits) (hi : U64 d.imag) (hh : I64 d.hook) (ht : d.type.size ≤ cap47) (hx : d.text.size ≤ cap47)
      (hn : NamesAt w a5 c5 d.names) (h1 : d.parts.length ≤ c6) (h2 : d.parts.length ≤ cap47) (h3 : 0 < d.parts.length → a6 = some ⟨b6, o6, none⟩)
      (hp : ∀ i (h : i < d.parts.length), IsD w (rowD w b6 (o6 + i * 8)) d.parts[i]) : IsD w (aggD d a5 c5 a6 c6) d

theorem NamesAt.below {w w' : World} (hb : Below w.heap.size w w') {a : Option Addr} {c : Nat} {l : List ByteArray} (h : NamesAt w a c l) : NamesAt w' a c l := by
  obtain ⟨h1, h2, b, o, h3, h4, h5⟩ := h
  exact ⟨h1, h2, b, o, h3, fun i hi => cell_below hb (h4 i hi), h5⟩

/-- The cells of a descriptor that lies in a row. -/
structure RowD (w : World) (b o : Nat) (d : D) (a5 : Option Addr) (c5 : Nat) (a6 : Option Addr) (c6 : Nat) : Prop where
  k0 : w.cell? ⟨b, o, none⟩ = some (.int .i64 d.kind)
  k1 : w.cell? ⟨b, o + 1, none⟩ = some (.string d.type)
  k2 : w.cell? ⟨b, o + 2, none⟩ = some (.int .u64 d.bits)
  k3 : w.cell? ⟨b, o + 3, none⟩ = some (.int .u64 d.imag)
  k4 : w.cell? ⟨b, o + 4, none⟩ = some (.string d.text)
  k5 : w.cell? ⟨b, o + 5, none⟩ = some (.slice a5 d.names.length c5)
  k6 : w.cell? ⟨b, o + 6, none⟩ = some (.slice a6 d.parts.length c6)
  k7 : w.cell? ⟨b, o + 7, none⟩ = some (.int .i64 d.hook)

theorem of_getD {o : Option Value} {v : Value} (h : o.getD undef = v) (hv : v ≠ undef) : o = some v := by
  cases o with
  | none => exact absurd h.symm hv
  | some x => simpa using h

theorem IsD.row {w : World} {b o : Nat} {d : D} (h : IsD w (rowD w b o) d) : ∃ a5 c5 a6 c6, RowD w b o d a5 c5 a6 c6 ∧ IsD w (aggD d a5 c5 a6 c6) d := by
  generalize hv : rowD w b o = v at h
  cases h with
  | mk _ a5 c5 a6 c6 b6 o6 hk hb hi hh ht hx hn h1 h2 h3 hp =>
    refine ⟨a5, c5, a6, c6, ?_, .mk _ a5 c5 a6 c6 b6 o6 hk hb hi hh ht hx hn h1 h2 h3 hp⟩
    simp only [rowD, aggD, Value.agg.injEq, Array.mk.injEq, List.cons.injEq, and_true] at hv
    obtain ⟨e0, e1, e2, e3, e4, e5, e6, e7⟩ := hv
    exact ⟨of_getD e0 (by simp [undef]), of_getD e1 (by simp [undef]), of_getD e2 (by simp [undef]), of_getD e3 (by simp [undef]), of_getD e4 (by simp [undef]), of_getD e5 (by simp [undef]), of_getD e6 (by simp [undef]), of_getD e7 (by simp [undef])⟩

theorem RowD.eq {w : World} {b o : Nat} {d : D} {a5 : Option Addr} {c5 : Nat} {a6 : Option Addr} {c6 : Nat} (h : RowD w b o d a5 c5 a6 c6) : rowD w b o = aggD d a5 c5 a6 c6 := by
  simp [rowD, aggD, h.k0, h.k1, h.k2, h.k3, h.k4, h.k5, h.k6, h.k7]
theorem RowD.below {w w' : World} (hb : Below w.heap.size w w') {b o : Nat} {d : D} {a5 : Option Addr} {c5 : Nat} {a6 : Option Addr} {c6 : Nat} (h : RowD w b o d a5 c5 a6 c6) : RowD w' b o d a5 c5 a6 c6 :=
  ⟨cell_below hb h.k0, cell_below hb h.k1, cell_below hb h.k2, cell_below hb h.k3, cell_below hb h.k4, cell_below hb h.k5, cell_below hb h.k6, cell_below hb h.k7⟩

theorem IsD.later {w w' : World} (hb : Below w.heap.size w w') {v : Value} {d : D} (h : IsD w v d) : IsD w' v d := by
  induction h with
  | mk d a5 c5 a6 c6 b6 o6 hk hbb hi hh ht hx hn h1 h2 h3 hp ih =>
    refine .mk d a5 c5 a6 c6 b6 o6 hk hbb hi hh ht hx (hn.below hb) h1 h2 h3 fun i hi => ?_
    obtain ⟨p5, q5, p6, q6, hr, _⟩ := (hp i hi).row
    have := ih i hi
    rw [hr.eq] at this
    rw [(hr.below hb).eq]; exact this

/-- A descriptor's value taken apart. -/
theorem IsD.cases' {w : World} {v : Value} {d : D} (h : IsD w v d) : ∃ a5 c5 a6 c6 b6 o6, v = aggD d a5 c5 a6 c6 ∧ I64 d.kind ∧ U64 d.bits ∧ U64 d.imag ∧ I64 d.hook ∧ d.type.size ≤ cap47 ∧ d.text.size ≤ cap47 ∧
    NamesAt w a5 c5 d.names ∧ d.parts.length ≤ c6 ∧ d.parts.length ≤ cap47 ∧ (0 < d.parts.length → a6 = some ⟨b6, o6, none⟩) ∧ ∀ i (h : i < d.parts.length), IsD w (rowD w b6 (o6 + i * 8)) d.parts[i] := by
  cases h with
  | mk _ a5 c5 a6 c6 b6 o6 hk hb hi hh ht hx hn h1 h2 h3 hp => exact ⟨a5, c5, a6, c6, b6, o6, rfl, hk, hb, hi, hh, ht, hx, hn, h1, h2, h3, hp⟩
/-- A slice of descriptors. -/
def PartsAt (w : World) (a : Option Addr) (c : Nat) (l : List D) : Prop :=
  l.length ≤ c ∧ l.length ≤ cap47 ∧ ∃ b o, (0 < l.length → a = some ⟨b, o, none⟩) ∧ ∀ i (h : i < l.length), IsD w (rowD w b (o + i * 8)) l[i]
theorem PartsAt.below {w w' : World} (hb : Below w.heap.size w w') {a : Option Addr} {c : Nat} {l : List D} (h : PartsAt w a c l) : PartsAt w' a c l := by
  obtain ⟨h1, h2, b, o, h3, h4⟩ := h
  refine ⟨h1, h2, b, o, h3, fun i hi => ?_⟩
  obtain ⟨p5, q5, p6, q6, hr, hd⟩ := (h4 i hi).row
  rw [(hr.below hb).eq]; exact hd.later hb
theorem IsD.open {w : World} {v : Value} {d : D} (h : IsD w v d) : ∃ a5 c5 a6 c6, v = aggD d a5 c5 a6 c6 ∧ I64 d.kind ∧ U64 d.bits ∧ U64 d.imag ∧ d.type.size ≤ cap47 ∧ d.text.size ≤ cap47 ∧ NamesAt w a5 c5 d.names ∧ PartsAt w a6 c6 d.parts := by
  obtain ⟨a5, c5, a6, c6, b6, o6, h0, hk, hb, hi, hh, ht, hx, hn, h1, h2, h3, hp⟩ := h.cases'
  exact ⟨a5, c5, a6, c6, h0, hk, hb, hi, ht, hx, hn, h1, h2, b6, o6, h3, hp⟩
theorem PartsAt.nil (w : World) : PartsAt w none 0 [] := ⟨Nat.le_refl _, by simp, 0, 0, fun h => by simp at h, fun i h => by simp at h⟩
end Go.Proofs.YtkpfeodffhfejaaGreatDoor
