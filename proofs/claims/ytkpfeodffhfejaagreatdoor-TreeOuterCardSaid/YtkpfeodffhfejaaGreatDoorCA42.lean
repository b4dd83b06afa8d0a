/- Texts behind one another with something between (plain); tree's sharp, and what group writes at each item. Condition: the texts' sizes. -/
import Derived.Test.YtkpfeodffhfejaaGreatDoorCA38
import Derived.Test.YtkpfeodffhfejaaGreatDoorCA41
import Derived.Test.YtkpfeodffhfejaaGreatDoorCA12
import Derived.RangeFuncNested
import Derived.RangeFuncBound
import Derived.RangeFuncCalls
import Derived.RangeFuncLeaves
import Derived.RangeFuncFrom
namespace Go.Proofs.YtkpfeodffhfejaaGreatDoor
set_option linter.unusedVariables false
set_option linter.unusedSimpArgs false
open Go.RowKit

def tailS (sep : ByteArray) : List ByteArray → ByteArray
  | [] => ⟨#[]⟩
  | x :: l => sep ++ (x ++ tailS sep l)
/-- Texts with something between. -/
def joinS (sep : ByteArray) : List ByteArray → ByteArray
  | [] => ⟨#[]⟩
  | x :: l => x ++ tailS sep l
theorem bytes_app (a b : ByteArray) : (a ++ b).data.toList = a.data.toList ++ b.data.toList := by rw [ByteArray.data_append, Array.toList_append]
theorem bytes_ext {a b : ByteArray} (h : a.data.toList = b.data.toList) : a = b := ByteArray.ext (Array.toList_inj.1 h)
theorem app_assoc (a b c : ByteArray) : a ++ b ++ c = a ++ (b ++ c) := by
  apply bytes_ext
  simp only [bytes_app, List.append_assoc]
theorem nil_app (a : ByteArray) : (⟨#[]⟩ : ByteArray) ++ a = a := by
  apply bytes_ext
  rw [bytes_app]
  rfl
theorem app_nil (a : ByteArray) : a ++ (⟨#[]⟩ : ByteArray) = a := by
  apply bytes_ext
  rw [bytes_app]
  simp
theorem tailS_snoc (sep x : ByteArray) : ∀ l : List ByteArray, tailS sep (l ++ [x]) = tailS sep l ++ (sep ++ x)
  | [] => by
    show sep ++ (x ++ ⟨#[]⟩) = ⟨#[]⟩ ++ (sep ++ x)
    rw [app_nil, nil_app]
  | y :: l => by
    show sep ++ (y ++ tailS sep (l ++ [x])) = sep ++ (y ++ tailS sep l) ++ (sep ++ x)
    rw [tailS_snoc sep x l, app_assoc, app_assoc]
theorem joinS_snoc (sep x : ByteArray) (l : List ByteArray) (h : l ≠ []) : joinS sep (l ++ [x]) = joinS sep l ++ (sep ++ x) := by
  cases l with
  | nil => exact absurd rfl h
  | cons y l =>
    show y ++ tailS sep (l ++ [x]) = y ++ tailS sep l ++ (sep ++ x)
    rw [tailS_snoc, app_assoc]
theorem size_app (a b : ByteArray) : (a ++ b).size = a.size + b.size := ByteArray.size_append
theorem joinS_le (sep : ByteArray) (a b : List ByteArray) : (joinS sep a).size ≤ (joinS sep (a ++ b)).size := by
  induction b generalizing a with
  | nil => rw [List.append_nil]; exact Nat.le_refl _
  | cons x b ih =>
    have h := ih (a ++ [x])
    rw [List.append_assoc, List.singleton_append] at h
    refine Nat.le_trans ?_ h
    cases a with
    | nil => exact Nat.zero_le _
    | cons y a => rw [joinS_snoc sep x (y :: a) (by simp), size_app]; omega
theorem joinS_item (sep x : ByteArray) (a b : List ByteArray) : x.size ≤ (joinS sep (a ++ x :: b)).size := by
  have h := joinS_le sep (a ++ [x]) b
  rw [List.append_assoc, List.singleton_append] at h
  refine Nat.le_trans ?_ h
  cases a with
  | nil => show x.size ≤ (x ++ ⟨#[]⟩).size; rw [app_nil]; exact Nat.le_refl _
  | cons y a => rw [joinS_snoc sep x (y :: a) (by simp), size_app, size_app]; omega

def tsharpB (f : SpecD) : Bool := decide (f.verb = 118) && f.sharp
set_option maxHeartbeats 4000000 in
set_option maxRecDepth 1000000 in
theorem tsharp_is (f : SpecD) (k : Value) (w : World) : Calls Tryz.prog 104 #[.agg #[.bool f.plus, .bool f.minus, .bool f.sharp, .bool f.space, .bool f.zero, .int .i64 f.wid, .int .i64 f.prec, .int .i32 f.verb, k]] w (Ret w (.bool (tsharpB f))) := by
  have HB := Lib.hid (Below.new (w := w) (.cells #[.bool f.plus, .bool f.minus, .bool f.sharp, .bool f.space, .bool f.zero, .int .i64 f.wid, .int .i64 f.prec, .int .i32 f.verb, k] 57))
  obtain ⟨r, hr⟩ : ∃ r, tsharpB f = r := ⟨_, rfl⟩
  rw [hr]
  by_cases hv : f.verb = 118
  · have hv' : (f.verb == 118) = true := by rw [hv]; rfl
    obtain rfl : f.sharp = r := by rw [← hr]; unfold tsharpB; rw [hv]; rfl
    clear hr hv
    go_enter Tryz.func104, Tryz.ntmps104
    go_wp2_with fail
    go_ret
    exact ⟨rfl, HB.out⟩
  · have hv' : (f.verb == 118) = false := by simpa using hv
    obtain rfl : false = r := by rw [← hr]; unfold tsharpB; simp [hv]
    clear hr hv
    go_enter Tryz.func104, Tryz.ntmps104
    go_wp2_with fail
    go_ret
    exact ⟨rfl, HB.out⟩
end Go.Proofs.YtkpfeodffhfejaaGreatDoor

/- What group writes at each item: the closure in tree's group. Condition: the texts' sizes. -/
namespace Go.Proofs.YtkpfeodffhfejaaGreatDoor
set_option linter.unusedVariables false
set_option linter.unusedSimpArgs false
open Go.RowKit

/-- A group under way: what stands in the builder, whether an item is the first, what stands between. -/
structure GW (B b fb sb : Nat) (sep front : ByteArray) (pre : List ByteArray) (W : World) : Prop where
  bld : Lib.IsBuilder 175 5 B b (Lib.strCells (front ++ joinS sep pre)) W
  fst : W.heap[fb]? = some (.cells #[.bool pre.isEmpty] 4 (0, 0))
  btw : W.heap[sb]? = some (.cells #[.string sep] 9 (0, 0))
  nf : fb ≠ b
  ns : sb ≠ b
  nn : fb ≠ sb
  lf : B ≤ fb
  hB : B ≤ W.heap.size
theorem IsBuilder_same {T e : TypeId} {B b : Nat} {bs : List Value} {w w' : World} (h : Lib.IsBuilder T e B b bs w) (hs : ∀ (k : Nat) (cs : Array Value) (t : TypeId) (fr : Nat × Nat), w.heap[k]? = some (.cells cs t fr) → w'.heap[k]? = w.heap[k]?) : Lib.IsBuilder T e B b bs w' := by
  have key : ∀ p, Lib.BuilderAt T e B b p bs w → Lib.BuilderAt T e B b p bs w' := by
    rintro p ⟨h1, v, h2, h3, h4⟩
    exact ⟨h1, v, (hs b _ _ _ h2).trans h2, owns_blockV h3 fun k hk => by
      obtain ⟨c, fz, hc⟩ := ownsRow_kind h3 k hk
      exact hs k _ _ _ hc, h4⟩
  exact h.elim (fun x => .inl (key _ x)) (fun x => .inr (key _ x))
theorem GW.same {B b fb sb : Nat} {sep front : ByteArray} {pre : List ByteArray} {w w' : World} (h : GW B b fb sb sep front pre w) (hs : ∀ (k : Nat) (cs : Array Value) (t : TypeId) (fr : Nat × Nat), w.heap[k]? = some (.cells cs t fr) → w'.heap[k]? = w.heap[k]?) (hz : w.heap.size ≤ w'.heap.size) : GW B b fb sb sep front pre w' :=
  ⟨IsBuilder_same h.bld hs, (hs _ _ _ _ h.fst).trans h.fst, (hs _ _ _ _ h.btw).trans h.btw, h.nf, h.ns, h.nn, h.lf, Nat.le_trans h.hB hz⟩
theorem GW.below {B b fb sb : Nat} {sep front : ByteArray} {pre : List ByteArray} {w w' : World} (h : GW B b fb sb sep front pre w) (hb : Below w.heap.size w w') : GW B b fb sb sep front pre w' :=
  h.same (fun k _ _ _ hk => hb.block _ (lt_of_some hk)) hb.size
theorem keeps_others {e : TypeId} {b : Nat} {w w' : World} {cs : Array Value} {t : TypeId} {fr : Nat × Nat} (h : Lib.OthersKept e (some b) w w') (hb : w.heap[b]? = some (.cells cs t fr)) (hz : w.heap.size ≤ w'.heap.size) : KeepsOthers w w' :=
  ⟨hz, fun k o hk ho => h k o hk (fun e => by injection e with e; subst e; rw [hb] at hk; injection hk with hk; subst hk; cases ho) (fun c fz e => by subst e; cases ho)⟩
theorem IsBuilder_block {T e : TypeId} {B b : Nat} {bs : List Value} {w : World} (h : Lib.IsBuilder T e B b bs w) : ∃ cs t fr, w.heap[b]? = some (.cells cs t fr) := by
  rcases h with ⟨_, v, h2, _⟩ | ⟨_, v, h2, _⟩
  · exact ⟨_, _, _, h2⟩
  · exact ⟨_, _, _, h2⟩
/-- A text is written into the builder: the rest of the group stays. -/
theorem GW.put {B b fb sb : Nat} {sep front : ByteArray} {pre : List ByteArray} {w w' : World} {x : ByteArray} (h : GW B b fb sb sep front pre w) (hbl : Lib.BuilderAt 175 5 B b (.pointer (some ⟨b, 0, none⟩)) (Lib.strCells (front ++ joinS sep pre) ++ Lib.strCells x) w') (hb : Below B w w') (hk : Lib.OthersKept 5 (some b) w w') :
    Lib.IsBuilder 175 5 B b (Lib.strCells (front ++ joinS sep pre ++ x)) w' ∧ w'.heap[fb]? = some (.cells #[.bool pre.isEmpty] 4 (0, 0)) ∧ w'.heap[sb]? = some (.cells #[.string sep] 9 (0, 0)) ∧ KeepsOthers w w' := by
  obtain ⟨cs, t, fr, hbk⟩ := IsBuilder_block h.bld
  refine ⟨.inr ?_, ?_, ?_, keeps_others hk hbk hb.size⟩
  · have e : Lib.strCells (front ++ joinS sep pre ++ x) = Lib.strCells (front ++ joinS sep pre) ++ Lib.strCells x := by
      unfold Lib.strCells
      rw [bytes_app, List.map_append]
    rw [e]
    exact hbl
  · exact hk fb _ h.fst (fun e => h.nf (by injection e)) (fun c fz e => by injection e with _ e; cases e)
  · exact hk sb _ h.btw (fun e => h.ns (by injection e)) (fun c fz e => by injection e with _ e; cases e)
end Go.Proofs.YtkpfeodffhfejaaGreatDoor

/- An item is written behind the others: the closure in tree's group. Condition: the texts' sizes. -/
namespace Go.Proofs.YtkpfeodffhfejaaGreatDoor
set_option linter.unusedVariables false
set_option linter.unusedSimpArgs false
open Go.RowKit

theorem strCells_len (s : ByteArray) : (Lib.strCells s).length = s.size := Lib.strCells_length s
/-- All rows stay but two, and rows of bytes. -/
def GK (b fb : Nat) (w w' : World) : Prop := ∀ (k : Nat) (cs : Array Value) (t : TypeId) (fr : Nat × Nat), k ≠ b → k ≠ fb → t ≠ 5 → w.heap[k]? = some (.cells cs t fr) → w'.heap[k]? = some (.cells cs t fr)
theorem GK.trans {b fb : Nat} {a c d : World} (h : GK b fb a c) (h2 : GK b fb c d) : GK b fb a d := fun k cs t fr h1 h3 h4 h5 => h2 k cs t fr h1 h3 h4 (h k cs t fr h1 h3 h4 h5)
theorem GK.put {b fb : Nat} {w w' : World} (h : Lib.OthersKept 5 (some b) w w') : GK b fb w w' := fun k cs t fr h1 h3 h4 h5 => h k _ h5 (fun e => h1 (by injection e)) (fun c fz e => h4 (by injection e))
theorem GK.cell (b fb : Nat) (w : World) (v : Value) : GK b fb w (w.setCell ⟨fb, 0, none⟩ v) := fun k cs t fr h1 h3 h4 h5 => (Below.heap_setCell _ _ _ _ (by show k ≠ fb; exact h3)).trans h5
def NextPost (B b fb sb : Nat) (sep front : ByteArray) (pre : List ByteArray) (w : World) (e : Ending) (w' : World) : Prop :=
  e = .returned (.tuple #[]) ∧ GW B b fb sb sep front pre w' ∧ Below B w w' ∧ KeepsOthers w w' ∧ GK b fb w w'
set_option maxHeartbeats 4000000 in
set_option maxRecDepth 1000000 in
theorem next_any {B b fb sb : Nat} {sep front : ByteArray} {pre : List ByteArray} (s : ByteArray) {w : World} (h : GW B b fb sb sep front pre w) (hz : (front ++ joinS sep (pre ++ [s])).size ≤ 140737488355328) :
    Calls Tryz.prog 105 #[.string s, .pointer (some ⟨fb, 0, none⟩), .pointer (some ⟨b, 0, none⟩), .pointer (some ⟨sb, 0, none⟩)] w (NextPost B b fb sb sep front (pre ++ [s]) w) := by
  have HG := Lib.hid h
  have hB := h.hB
  cases pre with
  | nil =>
    have c0 : w.cell? ⟨fb, 0, none⟩ = some (.bool true) := cell_of_heap' h.fst 0
    have z0 : w.frozen? ⟨fb, 0, none⟩ = false := frozen_of_heap' h.fst 0
    have hsz : (front ++ s).size ≤ 140737488355328 := by
      have e : front ++ joinS sep ([] ++ [s]) = front ++ s := by show front ++ (s ++ ⟨#[]⟩) = _; rw [app_nil]
      rw [e] at hz; exact hz
    rw [size_app] at hsz
    have HB0 : Hid (Lib.IsBuilder 175 5 B b (Lib.strCells (front ++ joinS sep [])) (w.setCell ⟨fb, 0, none⟩ (.bool false))) := by
      refine Lib.hid ?_
      have key : ∀ p bs, Lib.BuilderAt 175 5 B b p bs w → Lib.BuilderAt 175 5 B b p bs (w.setCell ⟨fb, 0, none⟩ (.bool false)) := by
        rintro p bs ⟨h1, v, h2, h3, h4⟩
        exact ⟨h1, v, (Below.heap_setCell _ _ _ _ (by show b ≠ fb; exact Ne.symm h.nf)).trans h2, owns_blockV h3 fun k hk => Below.heap_setCell _ _ _ _ (by
          show k ≠ fb
          intro e
          subst e
          obtain ⟨c, fz, hc⟩ := ownsRow_kind h3 k hk
          have := h.fst
          rw [hc] at this
          injection this with this
          injection this with _ this
          cases this), h4⟩
      exact h.bld.elim (fun x => .inl (key _ _ x)) (fun x => .inr (key _ _ x))
    have HF1 : Hid ((w.setCell ⟨fb, 0, none⟩ (.bool false)).heap[fb]? = some (.cells #[.bool false] 4 (0, 0))) := by
      refine Lib.hid ?_
      rw [set_block h.fst _]
      rfl
    have HS1 : Hid ((w.setCell ⟨fb, 0, none⟩ (.bool false)).heap[sb]? = some (.cells #[.string sep] 9 (0, 0))) := Lib.hid ((Below.heap_setCell _ _ _ _ (by show sb ≠ fb; exact Ne.symm h.nn)).trans h.btw)
    have HBB : Hid (Below B w (w.setCell ⟨fb, 0, none⟩ (.bool false))) := Lib.hid ((Below.refl B w).setCell (p := ⟨fb, 0, none⟩) h.lf _)
    have HKK : Hid (KeepsOthers w (w.setCell ⟨fb, 0, none⟩ (.bool false))) := Lib.hid (KeepsOthers.setCell _ _ _)
    have hlen : (Lib.strCells (front ++ joinS sep [])).length + s.size ≤ 140737488355328 := by rw [strCells_len, size_app]; show front.size + 0 + s.size ≤ _; omega
    have HL := Lib.hid hlen
    clear h hz hsz hlen
    go_enter Tryz.func105, Tryz.ntmps105
    go_wp2_with fail
    refine (write_string B b _ s _ HB0.out HL.out (by simpa using hB)).mono ?_
    rintro e w2 ⟨rfl, hbl, hb, hk⟩
    obtain ⟨cs, t, fr, hbk⟩ := IsBuilder_block HB0.out
    have hf2 := hk fb _ HF1.out (fun e => HG.out.nf (by injection e)) (fun c fz e => by injection e with _ e; cases e)
    have hs2 := hk sb _ HS1.out (fun e => HG.out.ns (by injection e)) (fun c fz e => by injection e with _ e; cases e)
    have HR : Hid (GW B b fb sb sep front ([] ++ [s]) w2 ∧ Below B w w2 ∧ KeepsOthers w w2 ∧ GK b fb w w2) := by
      refine Lib.hid ⟨⟨.inr ?_, hf2, hs2, HG.out.nf, HG.out.ns, HG.out.nn, HG.out.lf, Nat.le_trans hB (HBB.out.trans hb).size⟩, HBB.out.trans hb, HKK.out.trans (keeps_others hk hbk hb.size), (GK.cell b fb w _).trans (GK.put hk)⟩
      have e : Lib.strCells (front ++ joinS sep ([] ++ [s])) = Lib.strCells (front ++ joinS sep []) ++ Lib.strCells s := by
        have e1 : front ++ joinS sep ([] ++ [s]) = front ++ joinS sep [] ++ s := by
          show front ++ (s ++ ⟨#[]⟩) = front ++ ⟨#[]⟩ ++ s
          rw [app_nil, app_nil]
        rw [e1]
        unfold Lib.strCells
        rw [bytes_app, List.map_append]
      rw [e]
      exact hbl
    clear hbl hb hk hbk hf2 hs2 HB0 HF1 HS1 HBB HKK
    go_wp2_with fail
    go_end0
    exact ⟨rfl, HR.out⟩
  | cons y pre =>
    have c0 : w.cell? ⟨fb, 0, none⟩ = some (.bool false) := cell_of_heap' h.fst 0
    have c1 : w.cell? ⟨sb, 0, none⟩ = some (.string sep) := cell_of_heap' h.btw 0
    have ej : joinS sep ((y :: pre) ++ [s]) = joinS sep (y :: pre) ++ (sep ++ s) := joinS_snoc sep s (y :: pre) (by simp)
    rw [ej, size_app, size_app, size_app] at hz
    have hl1 : (Lib.strCells (front ++ joinS sep (y :: pre))).length + sep.size ≤ 140737488355328 := by rw [strCells_len, size_app]; omega
    have hl2 : (Lib.strCells (front ++ joinS sep (y :: pre) ++ sep)).length + s.size ≤ 140737488355328 := by rw [strCells_len, size_app, size_app]; omega
    have HL1 := Lib.hid hl1
    have HL2 := Lib.hid hl2
    have HJ := Lib.hid ej
    clear hz hl1 hl2 ej
    obtain ⟨tx, htx⟩ : ∃ tx, front ++ joinS sep (y :: pre) = tx := ⟨_, rfl⟩
    have HTX := Lib.hid htx
    clear htx
    go_enter Tryz.func105, Tryz.ntmps105
    go_wp2_with fail
    refine (write_string B b _ sep _ h.bld HL1.out hB).mono ?_
    rintro e w2 ⟨rfl, hbl, hb, hk⟩
    obtain ⟨h1, h2, h3, h4⟩ := h.put hbl hb hk
    have d0 : w2.cell? ⟨fb, 0, none⟩ = some (.bool false) := cell_of_heap' h2 0
    have z0 : w2.frozen? ⟨fb, 0, none⟩ = false := frozen_of_heap' h2 0
    have HB2 : Hid (Lib.IsBuilder 175 5 B b (Lib.strCells (front ++ joinS sep (y :: pre) ++ sep)) (w2.setCell ⟨fb, 0, none⟩ (.bool false))) := by
      refine Lib.hid ?_
      have key : ∀ p bs, Lib.BuilderAt 175 5 B b p bs w2 → Lib.BuilderAt 175 5 B b p bs (w2.setCell ⟨fb, 0, none⟩ (.bool false)) := by
        rintro p bs ⟨k1, v, k2, k3, k4⟩
        exact ⟨k1, v, (Below.heap_setCell _ _ _ _ (by show b ≠ fb; exact Ne.symm h.nf)).trans k2, owns_blockV k3 fun k hk => Below.heap_setCell _ _ _ _ (by
          show k ≠ fb
          intro e
          subst e
          obtain ⟨c, fz, hc⟩ := ownsRow_kind k3 k hk
          rw [hc] at h2
          injection h2 with this
          injection this with _ this
          cases this), k4⟩
      exact h1.elim (fun x => .inl (key _ _ x)) (fun x => .inr (key _ _ x))
    have HF2 : Hid ((w2.setCell ⟨fb, 0, none⟩ (.bool false)).heap[fb]? = some (.cells #[.bool false] 4 (0, 0))) := by
      refine Lib.hid ?_
      rw [set_block h2 _]
      rfl
    have HS2 : Hid ((w2.setCell ⟨fb, 0, none⟩ (.bool false)).heap[sb]? = some (.cells #[.string sep] 9 (0, 0))) := Lib.hid ((Below.heap_setCell _ _ _ _ (by show sb ≠ fb; exact Ne.symm h.nn)).trans h3)
    have HBB : Hid (Below B w (w2.setCell ⟨fb, 0, none⟩ (.bool false))) := Lib.hid (hb.setCell (p := ⟨fb, 0, none⟩) h.lf _)
    have HKK : Hid (KeepsOthers w (w2.setCell ⟨fb, 0, none⟩ (.bool false))) := Lib.hid (h4.trans (KeepsOthers.setCell _ _ _))
    have hB2 : B ≤ w2.heap.size := Nat.le_trans hB hb.size
    have HGK : Hid (GK b fb w w2) := Lib.hid (GK.put hk)
    clear hbl hb hk h1 h2 h3 h4 h c0 c1
    go_wp2_with fail
    refine (write_string B b _ s _ HB2.out HL2.out (by simpa using hB2)).mono ?_
    rintro e w3 ⟨rfl, hbl, hb, hk⟩
    obtain ⟨cs, t, fr, hbk⟩ := IsBuilder_block HB2.out
    have hf3 := hk fb _ HF2.out (fun e => HG.out.nf (by injection e)) (fun c fz e => by injection e with _ e; cases e)
    have hs3 := hk sb _ HS2.out (fun e => HG.out.ns (by injection e)) (fun c fz e => by injection e with _ e; cases e)
    have HR : Hid (GW B b fb sb sep front ((y :: pre) ++ [s]) w3 ∧ Below B w w3 ∧ KeepsOthers w w3 ∧ GK b fb w w3) := by
      refine Lib.hid ⟨⟨.inr ?_, hf3, hs3, HG.out.nf, HG.out.ns, HG.out.nn, HG.out.lf, Nat.le_trans hB (HBB.out.trans hb).size⟩, HBB.out.trans hb, HKK.out.trans (keeps_others hk hbk hb.size), (HGK.out.trans (GK.cell b fb w2 _)).trans (GK.put hk)⟩
      have e : Lib.strCells (front ++ joinS sep ((y :: pre) ++ [s])) = Lib.strCells (front ++ joinS sep (y :: pre) ++ sep) ++ Lib.strCells s := by
        have e1 : front ++ joinS sep ((y :: pre) ++ [s]) = front ++ joinS sep (y :: pre) ++ sep ++ s := by
          rw [HJ.out]
          simp only [app_assoc]
        rw [e1]
        unfold Lib.strCells
        rw [bytes_app (front ++ joinS sep (y :: pre) ++ sep) s, List.map_append]
      rw [e]
      exact hbl
    clear hbl hb hk hbk hf3 hs3 HB2 HF2 HS2 HBB HKK
    go_wp2_with fail
    go_end0
    exact ⟨rfl, HR.out⟩
end Go.Proofs.YtkpfeodffhfejaaGreatDoor
