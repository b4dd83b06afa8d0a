/- The order of keys, without Go: a lexicographic comparison. No condition. -/
import Derived.Test.YthpgnhmikffcpaaS2
namespace Go.Proofs.Ythpgnhmikffcpaa
set_option linter.unusedVariables false
open Go.RowKit

/-- A comparison: of whatever two things one comes first, or both are alike. -/
structure TotCmp {α : Type} (c : α → α → Int) : Prop where
  anti : ∀ x y, c y x = - c x y
  trans : ∀ x y z, c x y ≤ 0 → c y z ≤ 0 → c x z ≤ 0
theorem TotCmp.self {α : Type} {c : α → α → Int} (h : TotCmp c) (x : α) : c x x = 0 := by have := h.anti x x; omega
theorem TotCmp.zero {α : Type} {c : α → α → Int} (h : TotCmp c) {x y z : α} (h1 : c x y ≤ 0) (h2 : c y z ≤ 0) (h3 : c x z = 0) : c x y = 0 ∧ c y z = 0 := by
  have a1 := h.anti x z
  have a2 := h.trans y z x h2 (by omega)
  have a3 := h.anti x y
  have b2 := h.trans z x y (by omega) h1
  have b3 := h.anti y z
  omega
def lexC {α : Type} (c d : α → α → Int) (x y : α) : Int := if c x y = 0 then d x y else c x y
theorem TotCmp.lex {α : Type} {c d : α → α → Int} (h : TotCmp c) (k : TotCmp d) : TotCmp (lexC c d) where
  anti x y := by
    have a := h.anti x y
    have b := k.anti x y
    unfold lexC
    split <;> split <;> omega
  trans x y z := by
    have a := h.trans x y z
    have b := k.trans x y z
    have e := h.zero (x := x) (y := y) (z := z)
    unfold lexC
    intro h1 h2
    have c1 : c x y ≤ 0 := by split at h1 <;> omega
    have c2 : c y z ≤ 0 := by split at h2 <;> omega
    split
    · rename_i c3
      have := e c1 c2 c3
      rw [if_pos this.1] at h1
      rw [if_pos this.2] at h2
      exact b h1 h2
    · exact a c1 c2
theorem TotCmp.pull {α β : Type} {c : α → α → Int} (h : TotCmp c) (f : β → α) : TotCmp fun x y => c (f x) (f y) := ⟨fun x y => h.anti _ _, fun x y z => h.trans _ _ _⟩
theorem totI : TotCmp cmpI := by
  constructor
  · intro x y; unfold cmpI; split <;> split <;> omega
  · intro x y z; unfold cmpI; split <;> split <;> split <;> omega
theorem compareBytes_anti : ∀ a b, Lib.compareBytes b a = - Lib.compareBytes a b
  | [], [] => rfl
  | [], _ :: _ => rfl
  | _ :: _, [] => rfl
  | x :: l, y :: m => by
    unfold Lib.compareBytes
    have := compareBytes_anti l m
    simp only [UInt8.lt_iff_toNat_lt]
    split <;> split <;> first | omega | (split <;> omega)
theorem compareBytes_trans : ∀ a b c, Lib.compareBytes a b ≤ 0 → Lib.compareBytes b c ≤ 0 → Lib.compareBytes a c ≤ 0
  | [], [], _ => fun _ h => h
  | [], _ :: _, [] => fun _ _ => by simp [Lib.compareBytes]
  | [], _ :: _, _ :: _ => fun _ _ => by simp [Lib.compareBytes]
  | _ :: _, [], _ => fun h _ => by simp [Lib.compareBytes] at h
  | x :: l, y :: m, [] => fun _ h => by simp [Lib.compareBytes] at h
  | x :: l, y :: m, z :: n => by
    unfold Lib.compareBytes
    have := compareBytes_trans l m n
    simp only [UInt8.lt_iff_toNat_lt]
    intro h1 h2
    split
    · omega
    · split
      · rename_i h3 h4
        split at h1
        · split at h2
          · omega
          · split at h2 <;> omega
        · split at h1
          · omega
          · split at h2
            · omega
            · split at h2 <;> omega
      · rename_i h3 h4
        split at h1
        · split at h2
          · omega
          · split at h2 <;> omega
        · split at h1
          · omega
          · split at h2
            · omega
            · split at h2
              · omega
              · exact this h1 h2
theorem totB : TotCmp Lib.compareBytes := ⟨compareBytes_anti, compareBytes_trans⟩
theorem totS : TotCmp cmpS := totB.pull fun x : ByteArray => x.data.toList
theorem compareBytes_zero : ∀ a b, Lib.compareBytes a b = 0 → a = b
  | [], [] => fun _ => rfl
  | [], _ :: _ => fun h => by simp [Lib.compareBytes] at h
  | _ :: _, [] => fun h => by simp [Lib.compareBytes] at h
  | x :: l, y :: m => by
    unfold Lib.compareBytes
    intro h
    split at h
    · omega
    · split at h
      · omega
      · rename_i h1 h2
        have : x = y := by
          apply UInt8.toNat_inj.1
          simp only [UInt8.lt_iff_toNat_lt] at h1 h2
          omega
        rw [this, compareBytes_zero l m h]
theorem compareBytes_range : ∀ a b, Lib.compareBytes a b = -1 ∨ Lib.compareBytes a b = 0 ∨ Lib.compareBytes a b = 1
  | [], [] => by simp [Lib.compareBytes]
  | [], _ :: _ => by simp [Lib.compareBytes]
  | _ :: _, [] => by simp [Lib.compareBytes]
  | x :: l, y :: m => by
    unfold Lib.compareBytes
    split
    · omega
    · split
      · omega
      · exact compareBytes_range l m
theorem cmpS_zero {a b : ByteArray} : cmpS a b = 0 ↔ a = b := by
  constructor
  · intro h
    have := compareBytes_zero _ _ h
    apply ByteArray.ext
    apply Array.toList_inj.1
    exact this
  · rintro rfl; exact totS.self _
theorem cmpI_zero {a b : Int} : cmpI a b = 0 ↔ a = b := by unfold cmpI; split <;> (try split) <;> omega
theorem cmpI_range (a b : Int) : cmpI a b = -1 ∨ cmpI a b = 0 ∨ cmpI a b = 1 := by unfold cmpI; split <;> (try split) <;> omega
theorem cmpS_range (a b : ByteArray) : cmpS a b = -1 ∨ cmpS a b = 0 ∨ cmpS a b = 1 := compareBytes_range _ _
theorem lexC_zero {α : Type} {c d : α → α → Int} {x y : α} : lexC c d x y = 0 ↔ c x y = 0 ∧ d x y = 0 := by unfold lexC; split <;> simp_all

def Leaf.num : Leaf → Int
  | .bool _ v => if v then 1 else 0
  | .int _ x | .uint _ x => x
  | _ => 0
def Leaf.txt : Leaf → ByteArray
  | .text _ s => s
  | _ => ⟨#[]⟩
/-- May it be a key? -/
def Leaf.keyed : Leaf → Bool
  | .bool _ _ | .int _ _ | .uint _ _ | .text _ _ => true
  | _ => false
def Leaf.nam (l : Leaf) : ByteArray := if l.keyed then l.base.name else ⟨#[]⟩
def cmpK : Leaf → Leaf → Int := lexC (fun x y => cmpI x.base.kind y.base.kind) (lexC (fun x y => cmpI x.num y.num) (lexC (fun x y => cmpS x.txt y.txt) fun x y => cmpS x.nam y.nam))
theorem totK : TotCmp cmpK := (totI.pull fun x : Leaf => x.base.kind).lex ((totI.pull Leaf.num).lex ((totS.pull Leaf.txt).lex (totS.pull Leaf.nam)))
theorem cmpS_self (a : ByteArray) : cmpS a a = 0 := totS.self a
theorem cmpI_self (a : Int) : cmpI a a = 0 := totI.self a
theorem ordL_eq {x y : Leaf} (hx : (V.leaf x).ok) (hy : (V.leaf y).ok) : ordL x y = cmpK x y := by
  unfold ordL ordV cmpK lexC
  by_cases hk : x.base.kind = y.base.kind
  · have hk' : ¬ (V.leaf x).base.kind ≠ (V.leaf y).base.kind := fun h => h hk
    rw [if_neg hk', if_pos (cmpI_zero.2 hk)]
    cases x <;> cases y <;> simp only [V.ok, Leaf.base] at hx hy hk <;> (first | (exfalso; omega) | skip) <;>
      simp [Leaf.num, Leaf.txt, Leaf.nam, Leaf.keyed, andThenName, V.base, Leaf.base, cmpS_self, cmpI_self]
    rename_i p a q b
    cases a <;> cases b <;> simp [cmpI]
  · have hk' : (V.leaf x).base.kind ≠ (V.leaf y).base.kind := hk
    rw [if_pos hk', if_neg (fun h => hk (cmpI_zero.1 h))]; rfl

/-- The entries' order. -/
def ltE (x y : Ent) : Prop := cmpK x.k y.k < 0
theorem ordE : Ordr ltE where
  asym a b h := by have := totK.anti a.k b.k; unfold ltE at *; omega
  trans a b c h1 h2 := by
    have := totK.trans a.k b.k c.k
    have a1 := totK.anti a.k b.k
    have a2 := totK.anti b.k c.k
    have a3 := totK.anti a.k c.k
    unfold ltE at *; omega
end Go.Proofs.Ythpgnhmikffcpaa
