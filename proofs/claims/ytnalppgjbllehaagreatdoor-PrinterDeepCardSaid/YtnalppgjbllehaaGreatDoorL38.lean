/- The pieces of a format, one by one: the world on the way through printer's Format. -/
import Derived.Test.YtnalppgjbllehaaGreatDoorL36
import Derived.Test.YtnalppgjbllehaaGreatDoorL37
import Derived.Deep.MidRow
import Derived.Test.YtnalppgjbllehaaGreatDoorL35
namespace Go.Proofs.YtnalppgjbllehaaGreatDoor
set_option linter.unusedVariables false
set_option linter.unusedSimpArgs false
open Go.RowKit

theorem pieceCells_len (p : PieceD) : (pieceCells p).toList.length = 20 := rfl
theorem flatP_get : ∀ (l : List PieceD) (i : Nat) (h : i < l.length) (j : Nat), j < 20 → (flatP l)[i * 20 + j]? = (pieceCells l[i])[j]?
  | p :: l, 0, _, j, hj => by
    rw [flatP, Nat.zero_mul, Nat.zero_add, List.getElem?_append_left (by rw [pieceCells_len]; exact hj), Array.getElem?_toList]
    rfl
  | p :: l, i + 1, h, j, hj => by
    rw [flatP, List.getElem?_append_right (by rw [pieceCells_len]; omega), pieceCells_len]
    have e : (i + 1) * 20 + j - 20 = i * 20 + j := by omega
    rw [e, flatP_get l i (by simpa using h) j hj]
    rfl
theorem row_piece {w : World} {B g c : Nat} {l : List PieceD} (h : w.ownsRow B 67 20 (.slice (some ⟨g, 0, none⟩) l.length c) l.length (flatP l)) (i : Nat) (hi : i < l.length) : w.rangeAt g (i * 20) (pieceCells l[i]).toList := by
  intro j v hj
  have hl : j < 20 := by
    have := (List.getElem?_eq_some_iff.1 hj).1
    rwa [pieceCells_len] at this
  have hc := h.cells (g := g) rfl (i * 20 + j) v (by rw [flatP_get l i hi j hl, ← Array.getElem?_toList]; exact hj)
  rw [Addr.add_mid] at hc
  simpa using hc
theorem own_base {w : World} {B B' : Nat} {e : TypeId} {s : Nat} {v : Value} {n : Nat} {xs : List Value} (h : w.ownsRow B e s v n xs) (hB : B' ≤ B) : w.ownsRow B' e s v n xs := by
  obtain ⟨h1, h2 | ⟨g, cap, cur, e1, e2, e3⟩⟩ := h
  · exact ⟨h1, .inl h2⟩
  · exact ⟨h1, .inr ⟨g, cap, cur, e1, Nat.le_trans hB e2, e3⟩⟩
theorem own_ke {w w' : World} {sb B : Nat} {e : TypeId} {s : Nat} {v : Value} {n : Nat} {xs : List Value} (h : w.ownsRow B e s v n xs) (hk : Ke sb w w') (he : e ≠ 5) (hsb : sb < B) : w'.ownsRow B e s v n xs := by
  obtain ⟨h1, h2 | ⟨g, cap, cur, e1, e2, e3, e4⟩⟩ := h
  · exact ⟨h1, .inl h2⟩
  · exact ⟨h1, .inr ⟨g, cap, cur, e1, e2, hk.block (by omega) he e3, e4⟩⟩
structure ShSize (sh : V → SpecD → Option ByteArray) : Prop where
  size : ∀ {x : V} {f : SpecD} {s : ByteArray}, sh x f = some s → s.size ≤ 1000000000
theorem dirP_bounds {sh : V → SpecD → Option ByteArray} {xs : List V} {p : PieceD} {s s' : PrS} (hz : ShSize sh) (hl : xs.length ≤ 16) (hp : GoodP p) (h0 : 0 ≤ s.next) (h1 : s.next ≤ 1000000000) (h : dirP sh xs p s = some s') :
    (0 ≤ s'.next ∧ s'.next ≤ 1000000000) ∧ s'.out.size ≤ s.out.size + 1100000000 := by
  have hw : badWidthB.size ≤ 100 := by decide
  have hpp : badPrecB.size ≤ 100 := by decide
  have n1 := numberD_next xs s.next s.re p.wid (-1000) hl h0 h1 hp.1
  have a1 : (0 ≤ (dirW1 xs p s).2.next ∧ (dirW1 xs p s).2.next ≤ 1000000000) ∧ (dirW1 xs p s).2.out.size ≤ s.out.size + 100 := by
    unfold dirW1
    generalize numberD xs s.next s.re p.wid (-1000) = n at n1 ⊢
    by_cases hok : n.ok = true
    · simp only [if_pos hok]; exact ⟨n1, by omega⟩
    · simp only [if_neg hok]
      by_cases hk : p.wid.kind = 0
      · simp only [if_pos hk]; exact ⟨n1, by omega⟩
      · simp only [if_neg hk]; exact ⟨n1, by rw [ByteArray.size_append]; omega⟩
  unfold dirP at h
  generalize dirW1 xs p s = y1 at a1 h
  have n2 := numberD_next xs y1.2.next y1.2.re p.prec 0 hl a1.1.1 a1.1.2 hp.2.1
  have a2 : (0 ≤ (dirW2 xs p y1).2.next ∧ (dirW2 xs p y1).2.next ≤ 1000000000) ∧ (dirW2 xs p y1).2.out.size ≤ y1.2.out.size + 100 := by
    unfold dirW2
    generalize numberD xs y1.2.next y1.2.re p.prec 0 = n at n2 ⊢
    by_cases hok : n.ok = true
    · simp only [if_pos hok]; exact ⟨n2, by omega⟩
    · simp only [if_neg hok]
      by_cases hk : p.prec.kind = 0
      · simp only [if_pos hk]; exact ⟨n2, by omega⟩
      · simp only [if_neg hk]; exact ⟨n2, by rw [ByteArray.size_append]; omega⟩
  generalize dirW2 xs p y1 = y2 at a2 h
  have hm := badM_size y2.1.verb
  have hi := badI_size y2.1.verb
  have n3 := takeD_next xs.length y2.2.next y2.2.re p.arg hl a2.1.1 a2.1.2 hp.2.2
  unfold dirW3 at h
  by_cases hv : y2.1.verb = 37
  · rw [if_pos hv] at h
    obtain rfl := Option.some.inj h
    refine ⟨a2.1, ?_⟩
    show (y2.2.out ++ _ : ByteArray).size ≤ _
    rw [ByteArray.size_append]
    show y2.2.out.size + 1 ≤ _
    omega
  rw [if_neg hv] at h
  by_cases hc : p.arg.kind = 0 ∧ (xs.length : Int) ≤ y2.2.next
  · rw [if_pos hc] at h
    obtain rfl := Option.some.inj h
    refine ⟨a2.1, ?_⟩
    show (y2.2.out ++ _ : ByteArray).size ≤ _
    rw [ByteArray.size_append]
    omega
  rw [if_neg hc] at h
  generalize takeD xs.length y2.2.next y2.2.re p.arg = tk at n3 h
  obtain ⟨tix, tn, tr⟩ := tk
  cases tix with
  | none =>
    obtain rfl := Option.some.inj h
    refine ⟨n3, ?_⟩
    show (y2.2.out ++ _ : ByteArray).size ≤ _
    rw [ByteArray.size_append]
    omega
  | some i =>
    have h' : Option.map (fun q => (⟨y2.2.out ++ q, tn, tr⟩ : PrS)) (sh (xs.getD i .nil) y2.1) = some s' := h
    cases hq : sh (xs.getD i .nil) y2.1 with
    | none => rw [hq] at h'; cases h'
    | some q =>
      rw [hq] at h'
      obtain rfl := Option.some.inj h'
      have := hz.size hq
      refine ⟨n3, ?_⟩
      show (y2.2.out ++ _ : ByteArray).size ≤ _
      rw [ByteArray.size_append]
      omega
theorem stepP_bounds {sh : V → SpecD → Option ByteArray} {xs : List V} {p : PieceD} {s s' : PrS} (hz : ShSize sh) (hl : xs.length ≤ 16) (hp : PieceOk 1000001 p) (h0 : 0 ≤ s.next) (h1 : s.next ≤ 1000000000) (h : stepP sh xs p s = some s') :
    (0 ≤ s'.next ∧ s'.next ≤ 1000000000) ∧ s'.out.size ≤ s.out.size + 1100000000 := by
  unfold stepP at h
  by_cases hk : p.kind = 0
  · rw [if_pos hk] at h
    obtain rfl := Option.some.inj h
    have := hp.text
    refine ⟨⟨h0, h1⟩, ?_⟩
    show (s.out ++ p.text).size ≤ _
    rw [ByteArray.size_append]
    omega
  rw [if_neg hk] at h
  by_cases hk1 : p.kind = 1
  · rw [if_pos hk1] at h
    exact dirP_bounds hz hl hp.good h0 h1 h
  · rw [if_neg hk1] at h; cases h

/-- The world on the way through the pieces l of a format; what is printed in the end is s1. -/
structure FW (WB : World) (sb : Nat) (depth : Int) (tab av : Value) (w : World) (sh : V → SpecD → Option ByteArray) (xs : List V) (l : List PieceD) (pv : Value) (o0 : Nat) (s1 : PrS) (i : Nat) (s : PrS) (W : World) : Prop where
  st : ∃ bv, StW WB sb s.out bv depth tab av s.next s.re W
  row : W.ownsRow WB.heap.size 67 20 pv l.length (flatP l)
  ke : Ke sb w W
  run : runP sh xs (l.drop i) s = some s1
  n0 : 0 ≤ s.next
  n1 : s.next ≤ 1000000000
  out : s.out.size ≤ o0 + i * 1100000000
theorem FW.step {WB : World} {sb : Nat} {depth : Int} {tab av : Value} {w : World} {sh : V → SpecD → Option ByteArray} {xs : List V} {l : List PieceD} {pv : Value} {o0 : Nat} {s1 : PrS} {i : Nat} {s s' : PrS} {W W' : World}
    (h : FW WB sb depth tab av w sh xs l pv o0 s1 i s W) (hi : i < l.length) (hs : stepP sh xs l[i] s = some s') (hz : ShSize sh) (hl : xs.length ≤ 16) (hp : PieceOk 1000001 l[i])
    (hst : ∃ bv, StW WB sb s'.out bv depth tab av s'.next s'.re W') (hk : Ke sb W W') (hsb : sb < WB.heap.size) : FW WB sb depth tab av w sh xs l pv o0 s1 (i + 1) s' W' := by
  obtain ⟨⟨b1, b2⟩, b3⟩ := stepP_bounds hz hl hp h.n0 h.n1 hs
  refine ⟨hst, own_ke h.row hk (by decide) hsb, h.ke.trans hk, ?_, b1, b2, ?_⟩
  · have hr := h.run
    rw [List.drop_eq_getElem_cons hi, runP, hs] at hr
    exact hr
  · have := h.out
    omega
theorem FW.some_step {WB : World} {sb : Nat} {depth : Int} {tab av : Value} {w : World} {sh : V → SpecD → Option ByteArray} {xs : List V} {l : List PieceD} {pv : Value} {o0 : Nat} {s1 : PrS} {i : Nat} {s : PrS} {W : World}
    (h : FW WB sb depth tab av w sh xs l pv o0 s1 i s W) (hi : i < l.length) : ∃ s', stepP sh xs l[i] s = some s' := by
  have hr := h.run
  rw [List.drop_eq_getElem_cons hi, runP] at hr
  cases hq : stepP sh xs l[i] s with
  | none => rw [hq] at hr; cases hr
  | some s' => exact ⟨s', rfl⟩
theorem FW.done {WB : World} {sb : Nat} {depth : Int} {tab av : Value} {w : World} {sh : V → SpecD → Option ByteArray} {xs : List V} {l : List PieceD} {pv : Value} {o0 : Nat} {s1 : PrS} {s : PrS} {W : World}
    (h : FW WB sb depth tab av w sh xs l pv o0 s1 l.length s W) : s = s1 := by
  have hr := h.run
  rw [List.drop_length] at hr
  exact Option.some.inj hr
end Go.Proofs.YtnalppgjbllehaaGreatDoor

/- The rows of types and values that Format makes of the arguments that are left: the world on the way. -/
namespace Go.Proofs.YtnalppgjbllehaaGreatDoor
set_option linter.unusedVariables false
set_option linter.unusedSimpArgs false
open Go.RowKit

theorem StW.grow {WB : World} {sb : Nat} {out : ByteArray} {bv : Value} {depth : Int} {tab av : Value} {next : Int} {re : Bool} {W W' : World} {B n : Nat} {tv : Value} {xs : List Value} {e : TypeId} (h : StW WB sb out bv depth tab av next re W)
    (hg : W.grownBy W' tv.ownBlock) (ho : W.ownsRow B e 1 tv n xs) (he : e ≠ 5) (hB : WB.heap.size ≤ B) : StW WB sb out bv depth tab av next re W' := by
  have hz := h.size
  have hlt := h.lt
  have ht : ∀ k, k < WB.heap.size → some k ≠ tv.ownBlock := fun k hk e => by have := (ho.lt k e.symm).1; omega
  refine ⟨(hg.block sb (by omega) (ht sb hlt)).trans h.blk, ?_, hlt, by have := hg.size; omega, fun k hk hks => (hg.block k (by omega) (ht k hk)).trans (h.keep k hk hks), hg.os.trans h.os, hg.tape.trans h.tape, hg.output.trans h.output⟩
  refine owns_blockV h.own fun g hgg => hg.block g (h.own.lt g hgg).2 fun e2 => ?_
  rcases ho.2 with ⟨rfl, _⟩ | ⟨g2, cap, cur, rfl, _, hg2, _⟩
  · cases e2
  · injection e2 with e2
    subst e2
    exact own_type h.own he hg2 hgg
structure EW (WB : World) (sb : Nat) (o1 : ByteArray) (bv : Value) (depth : Int) (tab av : Value) (n1 : Int) (w : World) (B : Nat) (ts vs : List ByteArray) (jt jv : Nat) (tv vv : Value) (W : World) : Prop where
  st : StW WB sb o1 bv depth tab av n1 false W
  ke : Ke sb w W
  t : W.ownsRow B 9 1 tv jt ((ts.take jt).map Value.string)
  v : W.ownsRow B 9 1 vv jv ((vs.take jv).map Value.string)
  sep : ∀ g, tv.ownBlock = some g → vv.ownBlock ≠ some g
  lo : B ≤ W.heap.size
  lw : w.heap.size ≤ B
  lb : WB.heap.size ≤ B
section
variable {WB : World} {sb : Nat} {o1 : ByteArray} {bv : Value} {depth : Int} {tab av : Value} {n1 : Int} {w : World} {B : Nat} {ts vs : List ByteArray} {jt jv : Nat} {tv vv v' : Value} {W W' : World}
theorem EW.later (h : EW WB sb o1 bv depth tab av n1 w B ts vs jt jv tv vv W) (hb : Below W.heap.size W W') : EW WB sb o1 bv depth tab av n1 w B ts vs jt jv tv vv W' :=
  ⟨h.st.later hb, h.ke.below hb, owns_laterV h.t hb, owns_laterV h.v hb, h.sep, Nat.le_trans h.lo hb.size, h.lw, h.lb⟩
theorem ke_grow {n : Nat} {xs : List Value} {tv : Value} (h : Ke sb w W) (hg : W.grownBy W' tv.ownBlock) (ho : W.ownsRow B 9 1 tv n xs) (hB : w.heap.size ≤ B) : Ke sb w W' :=
  ⟨Nat.le_trans h.size hg.size, fun {k cs T fr} h1 hT hk => by
    have hk2 := h.block h1 hT hk
    rw [hg.block k (lt_of_some hk2) (fun e => by have := (ho.lt k e.symm).1; have := lt_of_some hk; omega)]
    exact hk2⟩
theorem EW.growT (h : EW WB sb o1 bv depth tab av n1 w B ts vs jt jv tv vv W) (hj : jt < ts.length) (ho : W'.ownsRow B 9 1 v' (jt + 1) ((ts.take jt).map Value.string ++ [.string ts[jt]])) (hg : W.grownBy W' tv.ownBlock) (hl : Last v' tv W.heap.size) :
    EW WB sb o1 bv depth tab av n1 w B ts vs (jt + 1) jv v' vv W' := by
  refine ⟨h.st.grow hg h.t (by decide) h.lb, ke_grow h.ke hg h.t h.lw, ?_, owns_blockV h.v fun g hgg => hg.block g (h.v.lt g hgg).2 fun e => h.sep g e.symm hgg, ?_, Nat.le_trans h.lo hg.size, h.lw, h.lb⟩
  · rw [List.take_succ_eq_append_getElem hj, List.map_append]
    exact ho
  · intro g e1 e2
    obtain ⟨g2, e3, e4 | e4⟩ := hl
    · rw [e3] at e1
      injection e1 with e1
      subst e1
      exact h.sep _ e4 e2
    · rw [e3] at e1
      injection e1 with e1
      have := (h.v.lt g e2).2
      omega
theorem EW.growV (h : EW WB sb o1 bv depth tab av n1 w B ts vs jt jv tv vv W) (hj : jv < vs.length) (ho : W'.ownsRow B 9 1 v' (jv + 1) ((vs.take jv).map Value.string ++ [.string vs[jv]])) (hg : W.grownBy W' vv.ownBlock) (hl : Last v' vv W.heap.size) :
    EW WB sb o1 bv depth tab av n1 w B ts vs jt (jv + 1) tv v' W' := by
  refine ⟨h.st.grow hg h.v (by decide) h.lb, ke_grow h.ke hg h.v h.lw, owns_blockV h.t fun g hgg => hg.block g (h.t.lt g hgg).2 fun e => h.sep g hgg e.symm, ?_, ?_, Nat.le_trans h.lo hg.size, h.lw, h.lb⟩
  · rw [List.take_succ_eq_append_getElem hj, List.map_append]
    exact ho
  · intro g e1 e2
    obtain ⟨g2, e3, e4 | e4⟩ := hl
    · rw [e3] at e2
      injection e2 with e2
      subst e2
      exact h.sep _ e1 e4
    · rw [e3] at e2
      injection e2 with e2
      have := (h.t.lt g e1).2
      omega
end
theorem valsP_len {sh : V → SpecD → Option ByteArray} : ∀ {l : List V} {vs : List ByteArray}, valsP sh l = some vs → vs.length = l.length
  | [], vs, h => by obtain rfl := Option.some.inj h; rfl
  | x :: l, vs, h => by
    rw [valsP] at h
    cases h1 : sh x bareD with
    | none => rw [h1] at h; cases h
    | some a =>
      cases h2 : valsP sh l with
      | none => rw [h1, h2] at h; cases h
      | some r =>
        rw [h1, h2] at h
        obtain rfl := Option.some.inj h
        show r.length + 1 = l.length + 1
        rw [valsP_len h2]
theorem valsP_get {sh : V → SpecD → Option ByteArray} : ∀ {l : List V} {vs : List ByteArray}, valsP sh l = some vs → ∀ (i : Nat) (h1 : i < l.length) (h2 : i < vs.length), sh l[i] bareD = some vs[i]
  | [], vs, h, i, h1, _ => absurd h1 (Nat.not_lt_zero i)
  | x :: l, vs, h, i, h1, h2 => by
    rw [valsP] at h
    cases e1 : sh x bareD with
    | none => rw [e1] at h; cases h
    | some a =>
      cases e2 : valsP sh l with
      | none => rw [e1, e2] at h; cases h
      | some r =>
        rw [e1, e2] at h
        obtain rfl := Option.some.inj h
        cases i with
        | zero => exact e1
        | succ i => exact valsP_get e2 i (by simpa using h1) (by simpa using h2)
end Go.Proofs.YtnalppgjbllehaaGreatDoor

/- How long the text of arguments that are left is at most. -/
namespace Go.Proofs.YtnalppgjbllehaaGreatDoor
set_option linter.unusedVariables false
open Go.RowKit

theorem sum_le : ∀ (l : List Nat) (b : Nat), (∀ x ∈ l, x ≤ b) → l.sum ≤ l.length * b
  | [], b, _ => Nat.le_of_eq (Nat.zero_mul b).symm
  | x :: l, b, h => by
    have h1 := h x (List.mem_cons_self ..)
    have h2 := sum_le l b fun y hy => h y (List.mem_cons_of_mem _ hy)
    rw [List.sum_cons, List.length_cons, Nat.add_mul, Nat.one_mul]
    omega
theorem pair_sum {l m : List ByteArray} (hm : m.length = l.length) (A : Nat) (hl : ∀ x ∈ l, x.size ≤ A) (hmm : ∀ x ∈ m, x.size ≤ A) (hn : l.length ≤ 16) : ((pairB l m).map (·.size)).sum ≤ 16 * (A + A + 1) := by
  have hlen := pairB_len l m hm
  have h : ((pairB l m).map (·.size)).sum ≤ ((pairB l m).map (·.size)).length * (A + A + 1) := by
    refine sum_le _ _ fun x hx => ?_
    obtain ⟨y, hy, rfl⟩ := List.mem_map.1 hx
    obtain ⟨i, hi, rfl⟩ := List.getElem_of_mem hy
    have h1 : i < l.length := by omega
    have h2 : i < m.length := by omega
    rw [pairB_get l m i h1 h2 hi]
    have a1 := hl l[i] (List.getElem_mem h1)
    have a2 := hmm m[i] (List.getElem_mem h2)
    rw [ByteArray.size_append, ByteArray.size_append]
    show l[i].size + 1 + m[i].size ≤ _
    omega
  rw [List.length_map, hlen] at h
  exact Nat.le_trans h (Nat.mul_le_mul_right _ hn)
theorem extraB_size {l m : List ByteArray} (hm : m.length = l.length) (A : Nat) (hl : ∀ x ∈ l, x.size ≤ A) (hmm : ∀ x ∈ m, x.size ≤ A) (hn : l.length ≤ 16) : (extraB l m).size ≤ 16 * (A + A + 1) + 100 := by
  have h1 := pair_sum hm A hl hmm hn
  have h2 := joinB_size (pairB l m) ⟨#[44, 32]⟩
  have h3 := joinB_size [⟨#[69, 88, 84, 82, 65, 32]⟩, joinB (pairB l m) ⟨#[44, 32]⟩] ⟨#[]⟩
  rw [pairB_len l m hm] at h2
  unfold extraB
  rw [insideB_size]
  have e1 : (⟨#[44, 32]⟩ : ByteArray).size = 2 := rfl
  have e2 : (⟨#[]⟩ : ByteArray).size = 0 := rfl
  have e3 : (⟨#[69, 88, 84, 82, 65, 32]⟩ : ByteArray).size = 6 := rfl
  rw [e1] at h2
  simp only [List.map_cons, List.map_nil, List.sum_cons, List.sum_nil, e2, e3, Nat.mul_zero] at h3
  omega
end Go.Proofs.YtnalppgjbllehaaGreatDoor
