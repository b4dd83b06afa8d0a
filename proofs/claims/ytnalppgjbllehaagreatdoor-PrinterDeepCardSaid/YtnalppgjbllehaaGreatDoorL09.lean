/- Descriptors and values of the program in memory, and as plain Lean data; what stays of them in a later world. No condition. -/
import Derived.Test.YtnalppgjbllehaaGreatDoorL00
import Derived.WalkKit
import Derived.WalkLawsBesides
import Derived.WalkSpells
import Derived.ProofKit
import Derived.OpenShut
import Derived.SizedLaws
import Derived.Lib.Hide
namespace Go.Proofs.YtnalppgjbllehaaGreatDoor
set_option linter.unusedVariables false
set_option maxRecDepth 1000000
open Go.RowKit

/-- A descriptor. -/
inductive D : Type where
  | mk (kind : Int) (type : ByteArray) (bits imag : Int) (text : ByteArray) (names : List ByteArray) (parts : List D) (hook : Int)

namespace D
def kind : D → Int | mk k _ _ _ _ _ _ _ => k
def type : D → ByteArray | mk _ t _ _ _ _ _ _ => t
def bits : D → Int | mk _ _ b _ _ _ _ _ => b
def imag : D → Int | mk _ _ _ i _ _ _ _ => i
def text : D → ByteArray | mk _ _ _ _ t _ _ _ => t
def names : D → List ByteArray | mk _ _ _ _ _ n _ _ => n
def parts : D → List D | mk _ _ _ _ _ _ p _ => p
def hook : D → Int | mk _ _ _ _ _ _ _ h => h
theorem eta (d : D) : d = mk d.kind d.type d.bits d.imag d.text d.names d.parts d.hook := by cases d; rfl

mutual
theorem induct_d {P : D → Prop} (h : ∀ d : D, (∀ x ∈ d.parts, P x) → P d) : ∀ d, P d
  | mk k t b i x n p h' => h _ (induct_l h p)
theorem induct_l {P : D → Prop} (h : ∀ d : D, (∀ x ∈ d.parts, P x) → P d) : ∀ l : List D, ∀ x ∈ l, P x
  | [], _, hx => by cases hx
  | y :: l, x, hx => by
    rcases List.mem_cons.1 hx with e | hx
    · rw [e]; exact induct_d h y
    · exact induct_l h l x hx
end
end D

/-- What a text, or a slice, holds at most. -/
def cap47 : Nat := 140737488355328

/-- A number of 64 bits without a sign; an int. -/
def U64 (x : Int) : Prop := 0 ≤ x ∧ x < 18446744073709551616
def I64 (x : Int) : Prop := -9223372036854775808 ≤ x ∧ x < 9223372036854775808

/-- The eight cells of a descriptor that lies in a row, as its value. -/
def rowD (w : World) (b o : Nat) : Value :=
  .agg #[(w.cell? ⟨b, o, none⟩).getD undef, (w.cell? ⟨b, o + 1, none⟩).getD undef, (w.cell? ⟨b, o + 2, none⟩).getD undef, (w.cell? ⟨b, o + 3, none⟩).getD undef,
    (w.cell? ⟨b, o + 4, none⟩).getD undef, (w.cell? ⟨b, o + 5, none⟩).getD undef, (w.cell? ⟨b, o + 6, none⟩).getD undef, (w.cell? ⟨b, o + 7, none⟩).getD undef]

/-- A descriptor's value, its two slices open. -/
def aggD (d : D) (a5 : Option Addr) (c5 : Nat) (a6 : Option Addr) (c6 : Nat) : Value :=
  .agg #[.int .i64 d.kind, .string d.type, .int .u64 d.bits, .int .u64 d.imag, .string d.text, .slice a5 d.names.length c5, .slice a6 d.parts.length c6, .int .i64 d.hook]

/-- A slice of texts. -/
def NamesAt (w : World) (a : Option Addr) (c : Nat) (l : List ByteArray) : Prop :=
  l.length ≤ c ∧ l.length ≤ cap47 ∧ ∃ b o, (0 < l.length → a = some ⟨b, o, none⟩) ∧ (∀ i (h : i < l.length), w.cell? ⟨b, o + i, none⟩ = some (.string l[i])) ∧ ∀ x ∈ l, x.size ≤ cap47

/-- The value v is the descriptor d, in world w. -/
inductive IsD (w : World) : Value → D → Prop where
  | mk (d : D) (a5 : Option Addr) (c5 : Nat) (a6 : Option Addr) (c6 b6 o6 : Nat) (hk : I64 d.kind) (hb : U64 d.bits) (hi : U64 d.imag) (hh : I64 d.hook) (ht : d.type.size ≤ cap47) (hx : d.text.size ≤ cap47)
      (hn : NamesAt w a5 c5 d.names) (h1 : d.parts.length ≤ c6) (h2 : d.parts.length ≤ cap47) (h3 : 0 < d.parts.length → a6 = some ⟨b6, o6, none⟩)
      (hp : ∀ i (h : i < d.parts.length), IsD w (rowD w b6 (o6 + i * 8)) d.parts[i]) : IsD w (aggD d a5 c5 a6 c6) d

theorem NamesAt.below {w w' : World} (hb : Below w.heap.size w w') {a : Option Addr} {c : Nat} {l : List ByteArray} (h : NamesAt w a c l) : NamesAt w' a c l := by
  obtain ⟨h1, h2, b, o, h3, h4, h5⟩ := h
  exact ⟨h1, h2, b, o, h3, fun i hi => cell_below hb (h4 i hi), h5⟩

/-- The cells of a descriptor that lies in a row. -/
structure RowD (w : World) (b o : Nat) (d : D) (a5 : Option Addr) (c5 : Nat) (a6 : Option Addr) (c6 : Nat) : Prop where
  k0 : w.cell? ⟨b, o, none⟩ = some (.int .i64 d.kind)
  k1 : w.cell? ⟨b, o + 1, none⟩ = some (.string d.type)
  k2 : w.cell? ⟨b, o + 2, none⟩ = some (.int .u64 d.bits)
  k3 : w.cell? ⟨b, o + 3, none⟩ = some (.int .u64 d.imag)
  k4 : w.cell? ⟨b, o + 4, none⟩ = some (.string d.text)
  k5 : w.cell? ⟨b, o + 5, none⟩ = some (.slice a5 d.names.length c5)
  k6 : w.cell? ⟨b, o + 6, none⟩ = some (.slice a6 d.parts.length c6)
  k7 : w.cell? ⟨b, o + 7, none⟩ = some (.int .i64 d.hook)

theorem of_getD {o : Option Value} {v : Value} (h : o.getD undef = v) (hv : v ≠ undef) : o = some v := by
  cases o with
  | none => exact absurd h.symm hv
  | some x => simpa using h

theorem IsD.row {w : World} {b o : Nat} {d : D} (h : IsD w (rowD w b o) d) : ∃ a5 c5 a6 c6, RowD w b o d a5 c5 a6 c6 ∧ IsD w (aggD d a5 c5 a6 c6) d := by
  generalize hv : rowD w b o = v at h
  cases h with
  | mk _ a5 c5 a6 c6 b6 o6 hk hb hi hh ht hx hn h1 h2 h3 hp =>
    refine ⟨a5, c5, a6, c6, ?_, .mk _ a5 c5 a6 c6 b6 o6 hk hb hi hh ht hx hn h1 h2 h3 hp⟩
    simp only [rowD, aggD, Value.agg.injEq, Array.mk.injEq, List.cons.injEq, and_true] at hv
    obtain ⟨e0, e1, e2, e3, e4, e5, e6, e7⟩ := hv
    exact ⟨of_getD e0 (by simp [undef]), of_getD e1 (by simp [undef]), of_getD e2 (by simp [undef]), of_getD e3 (by simp [undef]), of_getD e4 (by simp [undef]), of_getD e5 (by simp [undef]), of_getD e6 (by simp [undef]), of_getD e7 (by simp [undef])⟩

theorem RowD.eq {w : World} {b o : Nat} {d : D} {a5 : Option Addr} {c5 : Nat} {a6 : Option Addr} {c6 : Nat} (h : RowD w b o d a5 c5 a6 c6) : rowD w b o = aggD d a5 c5 a6 c6 := by
  simp [rowD, aggD, h.k0, h.k1, h.k2, h.k3, h.k4, h.k5, h.k6, h.k7]
theorem RowD.below {w w' : World} (hb : Below w.heap.size w w') {b o : Nat} {d : D} {a5 : Option Addr} {c5 : Nat} {a6 : Option Addr} {c6 : Nat} (h : RowD w b o d a5 c5 a6 c6) : RowD w' b o d a5 c5 a6 c6 :=
  ⟨cell_below hb h.k0, cell_below hb h.k1, cell_below hb h.k2, cell_below hb h.k3, cell_below hb h.k4, cell_below hb h.k5, cell_below hb h.k6, cell_below hb h.k7⟩

theorem IsD.later {w w' : World} (hb : Below w.heap.size w w') {v : Value} {d : D} (h : IsD w v d) : IsD w' v d := by
  induction h with
  | mk d a5 c5 a6 c6 b6 o6 hk hbb hi hh ht hx hn h1 h2 h3 hp ih =>
    refine .mk d a5 c5 a6 c6 b6 o6 hk hbb hi hh ht hx (hn.below hb) h1 h2 h3 fun i hi => ?_
    obtain ⟨p5, q5, p6, q6, hr, _⟩ := (hp i hi).row
    have := ih i hi
    rw [hr.eq] at this
    rw [(hr.below hb).eq]; exact this

/-- A descriptor's value taken apart. -/
theorem IsD.cases' {w : World} {v : Value} {d : D} (h : IsD w v d) : ∃ a5 c5 a6 c6 b6 o6, v = aggD d a5 c5 a6 c6 ∧ I64 d.kind ∧ U64 d.bits ∧ U64 d.imag ∧ I64 d.hook ∧ d.type.size ≤ cap47 ∧ d.text.size ≤ cap47 ∧
    NamesAt w a5 c5 d.names ∧ d.parts.length ≤ c6 ∧ d.parts.length ≤ cap47 ∧ (0 < d.parts.length → a6 = some ⟨b6, o6, none⟩) ∧ ∀ i (h : i < d.parts.length), IsD w (rowD w b6 (o6 + i * 8)) d.parts[i] := by
  cases h with
  | mk _ a5 c5 a6 c6 b6 o6 hk hb hi hh ht hx hn h1 h2 h3 hp => exact ⟨a5, c5, a6, c6, b6, o6, rfl, hk, hb, hi, hh, ht, hx, hn, h1, h2, h3, hp⟩
/-- A slice of descriptors. -/
def PartsAt (w : World) (a : Option Addr) (c : Nat) (l : List D) : Prop :=
  l.length ≤ c ∧ l.length ≤ cap47 ∧ ∃ b o, (0 < l.length → a = some ⟨b, o, none⟩) ∧ ∀ i (h : i < l.length), IsD w (rowD w b (o + i * 8)) l[i]
theorem PartsAt.below {w w' : World} (hb : Below w.heap.size w w') {a : Option Addr} {c : Nat} {l : List D} (h : PartsAt w a c l) : PartsAt w' a c l := by
  obtain ⟨h1, h2, b, o, h3, h4⟩ := h
  refine ⟨h1, h2, b, o, h3, fun i hi => ?_⟩
  obtain ⟨p5, q5, p6, q6, hr, hd⟩ := (h4 i hi).row
  rw [(hr.below hb).eq]; exact hd.later hb
theorem IsD.open {w : World} {v : Value} {d : D} (h : IsD w v d) : ∃ a5 c5 a6 c6, v = aggD d a5 c5 a6 c6 ∧ I64 d.kind ∧ U64 d.bits ∧ U64 d.imag ∧ d.type.size ≤ cap47 ∧ d.text.size ≤ cap47 ∧ NamesAt w a5 c5 d.names ∧ PartsAt w a6 c6 d.parts := by
  obtain ⟨a5, c5, a6, c6, b6, o6, h0, hk, hb, hi, hh, ht, hx, hn, h1, h2, h3, hp⟩ := h.cases'
  exact ⟨a5, c5, a6, c6, h0, hk, hb, hi, ht, hx, hn, h1, h2, b6, o6, h3, hp⟩
theorem PartsAt.nil (w : World) : PartsAt w none 0 [] := ⟨Nat.le_refl _, by simp, 0, 0, fun h => by simp at h, fun i h => by simp at h⟩
end Go.Proofs.YtnalppgjbllehaaGreatDoor
