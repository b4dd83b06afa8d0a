/- The descriptor of a value, as plain Lean data; descriptors in blocks of their own. No condition. -/
import Derived.Test.YtkpfeodffhfejaaGreatDoorCA05
namespace Go.Proofs.YtkpfeodffhfejaaGreatDoor
set_option linter.unusedVariables false
set_option maxRecDepth 1000000
open Go.RowKit

def zeroD : D := .mk 0 ⟨#[]⟩ 0 0 ⟨#[]⟩ [] [] 0
def u64of (x : Int) : Int := x % 18446744073709551616
def rawLeaf : Leaf → D
  | .bool b v => .mk b.kind b.name (if v then 1 else 0) 0 ⟨#[]⟩ [] [] b.hook
  | .int b x => .mk b.kind b.name (u64of x) 0 ⟨#[]⟩ [] [] b.hook
  | .uint b x => .mk b.kind b.name x 0 ⟨#[]⟩ [] [] b.hook
  | .float b x _ => .mk b.kind b.name x 0 ⟨#[]⟩ [] [] b.hook
  | .cplx b x y _ => .mk b.kind b.name x y ⟨#[]⟩ [] [] b.hook
  | .text b s => .mk b.kind b.name 0 0 s [] [] b.hook
  | .bytes b s => .mk b.kind b.name 0 0 s [] [] b.hook
mutual
def rawV : V → D
  | .nil => zeroD
  | .leaf l => rawLeaf l
  | .great _ b addr names l => .mk b.kind b.name addr 0 ⟨#[]⟩ names (rawL l) b.hook
def rawL : List V → List D
  | [] => []
  | x :: l => rawV x :: rawL l
end
theorem rawL_length : ∀ l : List V, (rawL l).length = l.length
  | [] => rfl
  | x :: l => by simp [rawL, rawL_length l]
theorem rawL_get : ∀ (l : List V) (i : Nat) (h : i < l.length) (h' : i < (rawL l).length), (rawL l)[i] = rawV l[i]
  | x :: l, 0, h, h' => by simp [rawL]
  | x :: l, i + 1, h, h' => by simp only [rawL, List.getElem_cons_succ]; exact rawL_get l i (by simpa using h) (by simpa [rawL] using h')
theorem rawL_snoc : ∀ (l : List V) (x : V), rawL (l ++ [x]) = rawL l ++ [rawV x]
  | [], x => by simp [rawL]
  | y :: l, x => by simp [rawL, rawL_snoc l x]

def B.Rng (b : B) : Prop := I64 b.kind ∧ I64 b.hook ∧ b.name.size ≤ cap47
def Leaf.Rng : Leaf → Prop
  | .bool b _ => b.Rng
  | .int b x => b.Rng ∧ I64 x
  | .uint b x => b.Rng ∧ U64 x
  | .float b x _ => b.Rng ∧ U64 x
  | .cplx b x y _ => b.Rng ∧ U64 x ∧ U64 y
  | .text b s => b.Rng ∧ s.size ≤ cap47
  | .bytes b s => b.Rng ∧ s.size ≤ cap47
/-- All numbers are in their range. -/
inductive VR : V → Prop where
  | nil : VR .nil
  | leaf (l : Leaf) (h : l.Rng) : VR (.leaf l)
  | great (t : Tag) (b : B) (addr : Int) (names : List ByteArray) (l : List V) (hb : b.Rng) (ha : U64 addr) (hn : ∀ x ∈ names, x.size ≤ cap47) (hl : ∀ x ∈ l, VR x) : VR (.great t b addr names l)

/-- The value v is the descriptor d, all of it in blocks of S that may be written; nothing is shared. -/
inductive IsDF (w : World) : (Nat → Prop) → Value → D → Prop where
  | mk (S : Nat → Prop) (d : D) (a5 : Option Addr) (c5 : Nat) (a6 : Option Addr) (c6 b5 o5 b6 o6 : Nat) (P : Nat → Nat → Prop) (hk : I64 d.kind) (hb : U64 d.bits) (hi : U64 d.imag) (hh : I64 d.hook) (ht : d.type.size ≤ cap47) (hx : d.text.size ≤ cap47)
      (n1 : d.names.length ≤ c5) (n2 : d.names.length ≤ cap47) (n3 : 0 < d.names.length → a5 = some ⟨b5, o5, none⟩ ∧ S b5)
      (n4 : ∀ i (h : i < d.names.length), w.cell? ⟨b5, o5 + i, none⟩ = some (.string d.names[i]) ∧ w.frozen? ⟨b5, o5 + i, none⟩ = false) (n5 : ∀ x ∈ d.names, x.size ≤ cap47)
      (p1 : d.parts.length ≤ c6) (p2 : d.parts.length ≤ cap47) (p3 : 0 < d.parts.length → a6 = some ⟨b6, o6, none⟩ ∧ S b6)
      (p4 : ∀ i, i < d.parts.length → ∀ j, j < 8 → w.frozen? ⟨b6, o6 + i * 8 + j, none⟩ = false)
      (p5 : ∀ i (h : i < d.parts.length), IsDF w (P i) (rowD w b6 (o6 + i * 8)) d.parts[i])
      (p6 : ∀ i, i < d.parts.length → ∀ k, P i k → S k ∧ k ≠ b6 ∧ (0 < d.names.length → k ≠ b5)) (p7 : ∀ i j k, i ≠ j → P i k → ¬ P j k) (p8 : 0 < d.parts.length → 0 < d.names.length → b5 ≠ b6) : IsDF w S (aggD d a5 c5 a6 c6) d

theorem IsDF.isD {w : World} {S : Nat → Prop} {v : Value} {d : D} (h : IsDF w S v d) : IsD w v d := by
  induction h with
  | mk S d a5 c5 a6 c6 b5 o5 b6 o6 P hk hb hi hh ht hx n1 n2 n3 n4 n5 p1 p2 p3 p4 p5 p6 p7 p8 ih =>
    exact .mk d a5 c5 a6 c6 b6 o6 hk hb hi hh ht hx ⟨n1, n2, b5, o5, fun h => (n3 h).1, fun i h => (n4 i h).1, n5⟩ p1 p2 (fun h => (p3 h).1) ih
theorem IsDF.mono {w : World} {S S' : Nat → Prop} {v : Value} {d : D} (hs : ∀ k, S k → S' k) (h : IsDF w S v d) : IsDF w S' v d := by
  cases h with
  | mk S d a5 c5 a6 c6 b5 o5 b6 o6 P hk hb hi hh ht hx n1 n2 n3 n4 n5 p1 p2 p3 p4 p5 p6 p7 p8 =>
    exact .mk S' d a5 c5 a6 c6 b5 o5 b6 o6 P hk hb hi hh ht hx n1 n2 (fun h => ⟨(n3 h).1, hs _ (n3 h).2⟩) n4 n5 p1 p2 (fun h => ⟨(p3 h).1, hs _ (p3 h).2⟩) p4 p5
      (fun i h k hk => ⟨hs k (p6 i h k hk).1, (p6 i h k hk).2⟩) p7 p8
theorem IsDF.clip {w : World} {S : Nat → Prop} {v : Value} {d : D} (h : IsDF w S v d) : IsDF w (fun k => S k ∧ k < w.heap.size) v d := by
  have lt : ∀ {b o : Nat} {u : Value}, w.cell? ⟨b, o, none⟩ = some u → b < w.heap.size := fun h => World.block_lt_of_cell? w _ h
  induction h with
  | mk S d a5 c5 a6 c6 b5 o5 b6 o6 P hk hb hi hh ht hx n1 n2 n3 n4 n5 p1 p2 p3 p4 p5 p6 p7 p8 ih =>
    refine .mk _ d a5 c5 a6 c6 b5 o5 b6 o6 (fun i k => P i k ∧ k < w.heap.size) hk hb hi hh ht hx n1 n2 (fun h => ⟨(n3 h).1, (n3 h).2, lt (n4 0 h).1⟩) n4 n5 p1 p2 (fun h => ⟨(p3 h).1, (p3 h).2, ?_⟩) p4 ih
      (fun i h k hk => ⟨⟨(p6 i h k hk.1).1, hk.2⟩, (p6 i h k hk.1).2⟩) (fun i j k hij h1 h2 => p7 i j k hij h1.1 h2.1) p8
    obtain ⟨_, _, _, _, hr, _⟩ := (p5 0 h).isD.row
    exact lt hr.k0
theorem frozen_blk {w w' : World} {b o : Nat} (hb : w'.heap[b]? = w.heap[b]?) : w'.frozen? ⟨b, o, none⟩ = w.frozen? ⟨b, o, none⟩ := World.frozen?_of_block (a := ⟨b, o, none⟩) hb
/-- The same blocks read the same. -/
theorem IsDF.keep {w w' : World} {S : Nat → Prop} {v : Value} {d : D} (h : IsDF w S v d) (hs : ∀ k, k < w.heap.size → S k → w'.heap[k]? = w.heap[k]?) : IsDF w' S v d := by
  have lt : ∀ {b o : Nat} {u : Value}, w.cell? ⟨b, o, none⟩ = some u → b < w.heap.size := fun h => World.block_lt_of_cell? w _ h
  induction h with
  | mk S d a5 c5 a6 c6 b5 o5 b6 o6 P hk hb hi hh ht hx n1 n2 n3 n4 n5 p1 p2 p3 p4 p5 p6 p7 p8 ih =>
    have q5 : 0 < d.names.length → w'.heap[b5]? = w.heap[b5]? := fun h => hs _ (lt (n4 0 h).1) (n3 h).2
    have q6 : 0 < d.parts.length → w'.heap[b6]? = w.heap[b6]? := fun h => by
      obtain ⟨_, _, _, _, hr, _⟩ := (p5 0 h).isD.row
      exact hs _ (lt hr.k0) (p3 h).2
    refine .mk S d a5 c5 a6 c6 b5 o5 b6 o6 P hk hb hi hh ht hx n1 n2 n3 (fun i h => ⟨cell_block (q5 (by omega)) (n4 i h).1, ?_⟩) n5 p1 p2 p3 (fun i h j hj => ?_) (fun i h => ?_) p6 p7 p8
    · rw [frozen_blk (q5 (by omega))]; exact (n4 i h).2
    · rw [frozen_blk (q6 (by omega))]; exact p4 i h j hj
    · obtain ⟨x5, y5, x6, y6, hr, _⟩ := (p5 i h).isD.row
      have hq := q6 (by omega)
      have hr' : RowD w' b6 (o6 + i * 8) d.parts[i] x5 y5 x6 y6 := ⟨cell_block hq hr.k0, cell_block hq hr.k1, cell_block hq hr.k2, cell_block hq hr.k3, cell_block hq hr.k4, cell_block hq hr.k5, cell_block hq hr.k6, cell_block hq hr.k7⟩
      have := ih i h (fun k hk hP => hs k hk (p6 i h k hP).1)
      rw [hr.eq] at this
      rw [hr'.eq]; exact this
theorem IsDF.later {w w' : World} {S : Nat → Prop} {v : Value} {d : D} (h : IsDF w S v d) (hb : Below w.heap.size w w') : IsDF w' S v d := h.keep fun k hk _ => hb.block k hk
/-- A descriptor without parts and names. -/
theorem IsDF.bare {w : World} {S : Nat → Prop} {k : Int} {t : ByteArray} {b i : Int} {x : ByteArray} {h : Int} (hk : I64 k) (hb : U64 b) (hi : U64 i) (hh : I64 h) (ht : t.size ≤ cap47) (hx : x.size ≤ cap47) :
    IsDF w S (.agg #[.int .i64 k, .string t, .int .u64 b, .int .u64 i, .string x, .slice none 0 0, .slice none 0 0, .int .i64 h]) (.mk k t b i x [] [] h) :=
  .mk S (.mk k t b i x [] [] h) none 0 none 0 0 0 0 0 (fun _ _ => False) hk hb hi hh ht hx (Nat.le_refl _) (by simp [D.names]) (fun h => by simp [D.names] at h) (fun i h => by simp [D.names] at h) (fun x h => by simp [D.names] at h)
    (Nat.le_refl _) (by simp [D.parts]) (fun h => by simp [D.parts] at h) (fun i h => by simp [D.parts] at h) (fun i h => by simp [D.parts] at h) (fun i h => by simp [D.parts] at h) (fun _ _ _ _ h => h.elim) (fun h => by simp [D.parts] at h)
/-- What raw hands back. -/
def RawPost (w : World) (x : V) (e : Ending) (w' : World) : Prop := Below w.heap.size w w' ∧ ∃ v, e = .returned v ∧ IsDF w' (w.heap.size ≤ ·) v (rawV x)
end Go.Proofs.YtkpfeodffhfejaaGreatDoor
