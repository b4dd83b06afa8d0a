/- A reader is made: parse's reading. No condition. -/
import Derived.Test.YtnalppgjbllehaaGreatDoorL05
import Derived.Laws.EntriesVeiled
import Derived.Lib.QuoteLoop
import Derived.Test.YtnalppgjbllehaaGreatDoorL06
import Derived.OrdersHeld
import Derived.RegionTactic
namespace Go.Proofs.YtnalppgjbllehaaGreatDoor
set_option linter.unusedVariables false
set_option linter.unusedSimpArgs false
open Go.RowKit

set_option maxHeartbeats 4000000 in
set_option maxRecDepth 1000000 in
theorem reading_any (t : ByteArray) (w : World) :
    Calls Tryz.prog 71 #[.string t] w fun e w' => e = .returned (.pointer (some ⟨w.heap.size, 0, none⟩)) ∧ Rdr w' w.heap.size (w.heap.size + 1) t ∧ Below w.heap.size w w' := by
  go_enter Tryz.func71, Tryz.ntmps71
  go_upto_region 2 with fail
  have n1 : (w.alloc (.cells #[.string t, .nilFunc] 153)).heap.size = w.heap.size + 1 := by simp
  have h4 := heap_alloc_old (w := w.alloc (.cells #[.string t, .nilFunc] 153)) (.cells #[.pointer (some ⟨w.heap.size, 0, none⟩)] 144) (r := w.heap.size) (by omega)
  rw [heap_alloc_new] at h4
  have h3 := heap_alloc_new (w.alloc (.cells #[.string t, .nilFunc] 153)) (.cells #[.pointer (some ⟨w.heap.size, 0, none⟩)] 144)
  rw [n1] at h3
  have HB := Lib.hid ((Below.new (w := w) (.cells #[.string t, .nilFunc] 153)).push (.cells #[.pointer (some ⟨w.heap.size, 0, none⟩)] 144))
  clear n1
  generalize (w.alloc (.cells #[.string t, .nilFunc] 153)).alloc (.cells #[.pointer (some ⟨w.heap.size, 0, none⟩)] 144) = W at h3 h4 HB ⊢
  have k1 : W.cell? ⟨w.heap.size + 1, 0, none⟩ = some (.pointer (some ⟨w.heap.size, 0, none⟩)) := cell_of_heap' h3 0
  have k2 : W.cell? ⟨w.heap.size, 0, none⟩ = some (.string t) := cell_of_heap' h4 0
  have k3 : W.cell? ⟨w.heap.size, 1, none⟩ = some .nilFunc := cell_of_heap' h4 1
  have k4 : W.frozen? ⟨w.heap.size, 1, none⟩ = false := frozen_of_heap' h4 1
  have k5 : W.frozen? ⟨w.heap.size, 0, none⟩ = false := frozen_of_heap' h4 0
  have H4 := Lib.hid h4
  clear h3 h4
  go_wp2_with fail
  go_ret
  refine ⟨rfl, ⟨?_, ?_, ?_, ?_, by omega⟩, HB.out.setCell (p := ⟨w.heap.size, 1, none⟩) (Nat.le_refl _) _⟩
  · exact put_other k2 (by decide)
  · exact put_same k3
  · exact (World.cell?_of_block (a := ⟨w.heap.size + 1, 0, none⟩) (Below.heap_setCell _ _ _ _ (by show w.heap.size + 1 ≠ w.heap.size; omega))).trans k1
  · simpa using k5
end Go.Proofs.YtnalppgjbllehaaGreatDoor

/- The first rune of a text: buf's Decode. It wants the tables of utf8. -/
namespace Go.Proofs.YtnalppgjbllehaaGreatDoor
set_option linter.unusedVariables false
set_option linter.unusedSimpArgs false
open Go.RowKit

/-- The first rune of a text and its length; of the empty text 0 and 0. -/
def runeD (t : ByteArray) : Nat × Nat := if t.size = 0 then (0, 0) else Lib.decodeGo t
set_option maxHeartbeats 4000000 in
set_option maxRecDepth 1000000 in
theorem decode_any (t : ByteArray) (w : World) (hT : Lib.Utf8Tabs 1 2 w) :
    Calls Tryz.prog 77 #[.string t] w (Ret w (.tuple #[.int .i32 ((runeD t).1 : Int), .int .i64 ((runeD t).2 : Int)])) := by
  obtain ⟨r, hr⟩ : ∃ r, runeD t = r := ⟨_, rfl⟩
  rw [hr]
  have HR := Lib.hid hr
  have HT := Lib.hid hT
  clear hr hT
  by_cases h : t.size = 0
  · have e1 := isEmpty_size t h
    have HQ : Hid (r = (0, 0)) := by
      rw [← HR.out]
      unfold runeD
      rw [if_pos h]
      exact Lib.hid rfl
    clear h
    go_enter Tryz.func77, Tryz.ntmps77
    go_wp2_with fail
    obtain rfl := HQ.out
    refine bodyPost_ret (v := .tuple #[.int .i32 0, .int .i64 0]) (by simp [results, Tryz.f77, go_sem]) rfl ?_
    exact ⟨rfl, Below.refl _ _⟩
  · have e1 := isEmpty_size' t h
    have HQ : Hid (r = Lib.decodeGo t) := by
      rw [← HR.out]
      unfold runeD
      rw [if_neg h]
      exact Lib.hid rfl
    clear h
    go_enter Tryz.func77, Tryz.ntmps77
    go_wp2_with fail
    refine (Tryz.utf8_DecodeRuneInString t w HT.out).mono ?_
    rintro e w2 ⟨rfl, hB⟩
    have HB := Lib.hid hB
    clear hB
    go_wp2_with fail
    obtain rfl := HQ.out
    refine bodyPost_ret (v := .tuple #[.int .i32 (Lib.decodeGo t).1, .int .i64 ((Lib.decodeGo t).2 : Int)]) (by simp [results, Tryz.f77, go_sem]) rfl ?_
    exact ⟨rfl, HB.out⟩
/-- The first rune's length lies within the text. -/
theorem runeD_le (t : ByteArray) : (runeD t).2 ≤ t.size := by
  unfold runeD
  split
  · exact Nat.zero_le _
  · unfold Lib.decodeGo
    rename_i h
    rw [if_neg h]
    exact Lib.width_le t (by omega)
end Go.Proofs.YtnalppgjbllehaaGreatDoor

/- A directive is read: parse's directive (plain). It wants the tables of utf8. -/
namespace Go.Proofs.YtnalppgjbllehaaGreatDoor
set_option linter.unusedVariables false
set_option linter.unusedSimpArgs false
open Go.RowKit

def specZ : SpecD := ⟨false, false, false, false, false, 0, 0, 0⟩
def specN : SpecD := ⟨false, false, false, false, false, -1, -1, 0⟩
def numZ : NumP := ⟨0, 0, ⟨0, 0⟩⟩
def pieceZ : PieceD := ⟨0, ⟨#[]⟩, specZ, numZ, numZ, ⟨0, 0⟩⟩
def pieceN : PieceD := ⟨2, ⟨#[]⟩, specN, numZ, numZ, ⟨0, 0⟩⟩
structure DirR where
  piece : PieceD
  rest : ByteArray
/-- Flags, an index, the width. -/
def dir1 (t : ByteArray) : DirR :=
  let f := flagsF t.size t specN
  let n := numI (indexR f.2) (indexI f.2) false
  ⟨{ pieceN with spec := f.1, wid := n.num, arg := n.arg }, n.rest⟩
/-- A point, an index, the precision. -/
def dir2 (d : DirR) : DirR :=
  if bt d.rest 0 = 46 then
    let u := drop1 d.rest
    let n := numI (indexR u) (indexI u) true
    ⟨{ d.piece with prec := n.num, arg := andI (spoiltI d.piece.arg) n.arg }, n.rest⟩
  else d
/-- The last index. -/
def dir3 (d : DirR) : DirR := ⟨{ d.piece with arg := andI d.piece.arg (indexI d.rest) }, indexR d.rest⟩
/-- The verb. -/
def dir4 (d : DirR) : DirR :=
  if d.rest.size = 0 then d
  else ⟨{ d.piece with kind := 1, spec := { d.piece.spec with verb := (runeD d.rest).1 } }, d.rest.extract (runeD d.rest).2 d.rest.size⟩
/-- A directive behind its percent sign: what it says, and what is left. -/
def dirD (t : ByteArray) : DirR :=
  let d := dir4 (dir3 (dir2 (dir1 t)))
  ⟨{ d.piece with text := ⟨#[37]⟩ ++ t.extract 0 (t.size - d.rest.size) }, d.rest⟩

structure DirW (w W : World) (r b bx pb : Nat) (p : PieceD) (u : ByteArray) : Prop where
  res : PieceAt W r pieceZ
  pc : PieceAt W pb p
  rdr : Rdr W b bx u
  below : Below w.heap.size w W
  hr : w.heap.size ≤ r
  hb : w.heap.size ≤ b
  hx : w.heap.size ≤ bx
  hp : w.heap.size ≤ pb
  n1 : pb ≠ b
  n2 : pb ≠ bx
  n3 : r ≠ b
  n4 : r ≠ bx
  n5 : r ≠ pb
theorem PieceAt.lt {W : World} {k : Nat} {p : PieceD} (h : PieceAt W k p) : k < W.heap.size := World.block_lt_of_cell? W _ (cell_of_heap' h 0)
theorem PieceAt.keep {W W' : World} {k : Nat} {p : PieceD} (h : PieceAt W k p) (hb : W'.heap[k]? = W.heap[k]?) : PieceAt W' k p := hb.trans h
theorem DirW.later {w W W' : World} {r b bx pb : Nat} {p : PieceD} {u : ByteArray} (h : DirW w W r b bx pb p u) (hb : Below W.heap.size W W') : DirW w W' r b bx pb p u :=
  ⟨h.res.keep (hb.block _ h.res.lt), h.pc.keep (hb.block _ h.pc.lt), h.rdr.below hb, h.below.next hb, h.hr, h.hb, h.hx, h.hp, h.n1, h.n2, h.n3, h.n4, h.n5⟩
theorem DirW.one {w W W' : World} {r b bx pb : Nat} {p : PieceD} {u v : ByteArray} (h : DirW w W r b bx pb p u) (ho : One b W W') (hr : Rdr W' b bx v) : DirW w W' r b bx pb p v :=
  ⟨h.res.keep (ho.block _ h.res.lt h.n3), h.pc.keep (ho.block _ h.pc.lt h.n1), hr,
    ⟨ho.os.trans h.below.os, ho.tape.trans h.below.tape, ho.output.trans h.below.output, Nat.le_trans h.below.size ho.size, fun k hk => (ho.block k (Nat.lt_of_lt_of_le hk h.below.size) (by have := h.hb; omega)).trans (h.below.block k hk)⟩,
    h.hr, h.hb, h.hx, h.hp, h.n1, h.n2, h.n3, h.n4, h.n5⟩
theorem DirW.two {w W W' : World} {r b bx pb : Nat} {p q : PieceD} {u v : ByteArray} (h : DirW w W r b bx pb p u) (ho : Two b pb W W') (hr : Rdr W' b bx v) (hq : PieceAt W' pb q) : DirW w W' r b bx pb q v :=
  ⟨h.res.keep (ho.block _ h.n3 h.n5), hq, hr,
    ⟨ho.os.trans h.below.os, ho.tape.trans h.below.tape, ho.output.trans h.below.output, by rw [ho.size]; exact h.below.size, fun k hk => (ho.block k (by have := h.hb; omega) (by have := h.hp; omega)).trans (h.below.block k hk)⟩,
    h.hr, h.hb, h.hx, h.hp, h.n1, h.n2, h.n3, h.n4, h.n5⟩
/-- A cell of the piece is written. -/
theorem DirW.cell {w W : World} {r b bx pb : Nat} {p : PieceD} {u : ByteArray} (h : DirW w W r b bx pb p u) (j : Nat) (v : Value) (q : PieceD) (hq : (pieceCells p).setIfInBounds j v = pieceCells q) :
    DirW w (W.setCell ⟨pb, j, none⟩ v) r b bx pb q u :=
  ⟨h.res.keep (Below.heap_setCell _ _ _ _ h.n5), by show _ = _; rw [← hq]; exact set_block h.pc v, h.rdr.keep (Below.heap_setCell _ _ _ _ (Ne.symm h.n1)) (Below.heap_setCell _ _ _ _ (Ne.symm h.n2)),
    h.below.setCell (p := ⟨pb, j, none⟩) h.hp v, h.hr, h.hb, h.hx, h.hp, h.n1, h.n2, h.n3, h.n4, h.n5⟩
set_option maxHeartbeats 4000000 in
theorem DirW.begin (w : World) (t : ByteArray) (W : World)
    (hp : PieceAt W (w.heap.size + 1) pieceN) (hz : PieceAt W w.heap.size pieceZ) (hb : Below w.heap.size w W) (hs : W.heap.size = w.heap.size + 1 + 1) (W' : World) (hr : Rdr W' W.heap.size (W.heap.size + 1) t) (hb' : Below W.heap.size W W') :
    DirW w W' w.heap.size (w.heap.size + 1 + 1) (w.heap.size + 1 + 1 + 1) (w.heap.size + 1) pieceN t := by
  rw [hs] at hr
  exact ⟨hz.keep (hb'.block _ hz.lt), hp.keep (hb'.block _ hp.lt), hr, hb.next hb', by omega, by omega, by omega, by omega, by omega, by omega, by omega, by omega, by omega⟩
end Go.Proofs.YtnalppgjbllehaaGreatDoor

/- A region that draws its order: an operation that yields what it yields while a condition on the world holds may be taken first, though late operations, that wait for it, break the condition. No condition. -/
namespace Go.Proofs.YtnalppgjbllehaaGreatDoor
set_option linter.unusedVariables false
open Go

section
variable {P : Program} {ops : Array Oper} {Q : Exit → Act → World → Prop} {md : Region.Mode} {S T : World → Prop} {late : List Nat}

/-- No late operation has come up. -/
def quietB (late : List Nat) (listed : Array Bool) : Bool := late.all fun j => !(listed.getD j false)
theorem quiet_set {i : Nat} (h : i ∉ late) (listed : Array Bool) : quietB late (listed.setIfInBounds i true) = quietB late listed := by
  unfold quietB
  rw [Bool.eq_iff_iff, List.all_eq_true, List.all_eq_true]
  have key : ∀ j ∈ late, (listed.setIfInBounds i true).getD j false = listed.getD j false := by
    intro j hj
    have hij : i ≠ j := fun e => h (e ▸ hj)
    simp only [Array.getD_eq_getD_getElem?, Array.getElem?_setIfInBounds, if_neg hij]
  exact ⟨fun q j hj => by rw [← key j hj]; exact q j hj, fun q j hj => by rw [key j hj]; exact q j hj⟩
/-- Any order from here on; T holds behind each operation, S too as long as no late one has come up. -/
def AnyLate (P : Program) (md : Region.Mode) (ops : Array Oper) (Q : Exit → Act → World → Prop) (late : List Nat) (S T : World → Prop) : Nat → Array Bool → Act → World → Prop
  | 0, listed, a, w => Region.ready md ops listed = [] ∧ Q .normal a w
  | n + 1, listed, a, w =>
    (Region.ready md ops listed = [] → Q .normal a w) ∧
      ∀ i ∈ Region.ready md ops listed, wpOp P ops Q i (fun a' w' => ((quietB late (listed.setIfInBounds i true) = true → S w') ∧ T w') ∧ AnyLate P md ops Q late S T n (listed.setIfInBounds i true) a' w') a w
theorem any_of_late : ∀ (n : Nat) (listed : Array Bool) (a : Act) (w : World), AnyLate P md ops Q late S T n listed a w → wpAny P md ops Q n listed a w
  | 0, _, _, _, h => h
  | n + 1, _, _, _, h => ⟨h.1, fun i hi => wpOp_mono (fun a' w' h' => any_of_late n _ a' w' h'.2) (h.2 i hi)⟩
/-- All late operations wait for operation i. -/
def waitB (md : Region.Mode) (ops : Array Oper) (late : List Nat) (i : Nat) : Bool :=
  late.all fun j => match ops[j]? with
    | some o => o.after.any fun e => Region.binds md e && e.on == i
    | none => true
theorem late_first {i : Nat} {oi : Oper} {v : Value} (hi : ops[i]? = some oi) (hsel : ∀ (j : Nat) (o : Oper) cs b, ops[j]? = some o → o.op ≠ .select cs b)
    (hQ : ∀ c a w, Q (.panic c) (a.put oi.dst v) w → Q (.panic c) a w) (hil : i ∉ late) (fl : Bool) (hl : fl = true → waitB md ops late i = true) :
    ∀ (n : Nat) (listed : Array Bool) (a : Act) (w : World),
      (∀ j oj, ops[j]? = some oj → j ≠ i → listed.getD j true = false → (∀ e ∈ oj.after, Region.binds md e = true → e.on ≠ i) → oi.apart ops oj = true) →
      i ∈ Region.ready md ops listed → YieldsIf P ops (fun w => (fl = true → S w) ∧ T w) oi v a → (quietB late listed = true → S w) → T w → (fl = true → quietB late listed = true) →
      AnyLate P md ops Q late S T n (listed.setIfInBounds i true) (a.put oi.dst v) w → AnyLate P md ops Q late S T (n + 1) listed a w := by
  intro n
  induction n with
  | zero =>
    intro listed a w _ hr hy hS hT hq H
    refine ⟨fun h => (by rw [h] at hr; cases hr), fun j hj => ?_⟩
    by_cases hji : j = i
    · subst hji; exact hy.wpOp hi ⟨fun h => hS (hq h), hT⟩ ⟨⟨fun h => hS (by rw [quiet_set hil] at h; exact h), hT⟩, H⟩
    · have := ready_mono hj hji
      rw [H.1] at this
      cases this
  | succ n ih =>
    intro listed a w hfree hr hy hS hT hq H
    refine ⟨fun h => (by rw [h] at hr; cases hr), fun j hj => ?_⟩
    by_cases hji : j = i
    · subst hji; exact hy.wpOp hi ⟨fun h => hS (hq h), hT⟩ ⟨⟨fun h => hS (by rw [quiet_set hil] at h; exact h), hT⟩, H⟩
    · have h1 := H.2 j (ready_mono hj hji)
      obtain ⟨hjun, oj, hoj, hall⟩ := mem_ready.1 hj
      have hnot : ∀ e ∈ oj.after, Region.binds md e = true → e.on ≠ i := fun e he hb heq => by
        have h1 := hall e he hb
        have h0 := (mem_ready.1 hr).1
        rw [heq] at h1
        rcases Nat.lt_or_ge i listed.size with h' | h'
        · simp [h'] at h0 h1; rw [h0] at h1; cases h1
        · simp [Array.getElem?_eq_none h'] at h1
      have hjl : fl = true → j ∉ late := fun hfl hm => by
        have := List.all_eq_true.1 (hl hfl) j hm
        rw [hoj] at this
        simp only [Array.any_eq_true, Bool.and_eq_true, beq_iff_eq] at this
        obtain ⟨k, hk, hb, he⟩ := this
        exact hnot _ (Array.getElem_mem hk) hb he
      have h2 := wpOp_putIf hoj (hfree j oj hoj hji hjun hnot) (fun cs b => hsel i oi cs b hi) (fun cs b => hsel j oj cs b hoj) hQ hy h1
      have hfree' : ∀ k ok, ops[k]? = some ok → k ≠ i → (listed.setIfInBounds j true).getD k true = false →
          (∀ e ∈ ok.after, Region.binds md e = true → e.on ≠ i) → oi.apart ops ok = true := fun k ok hk hki hun hno => by
        refine hfree k ok hk hki ?_ hno
        by_cases hjk : j = k
        · subst hjk; exact hjun
        · rw [getD_set_ne true hjk] at hun; exact hun
      refine wpOp_mono (fun a' w' h3 => ?_) h2
      obtain ⟨h3y, ⟨h3s, h3t⟩, h3a⟩ := h3
      rw [Array.setIfInBounds_comm _ _ (Ne.symm hji), quiet_set hil] at h3s
      refine ⟨⟨h3s, h3t⟩, ih (listed.setIfInBounds j true) a' w' hfree' (ready_mono hr (Ne.symm hji)) h3y h3s h3t (fun h => by rw [quiet_set (hjl h)]; exact hq h) ?_⟩
      rw [Array.setIfInBounds_comm _ _ hji]
      exact h3a
/-- Take number i first. -/
theorem late_take {i : Nat} {oi : Oper} (v : Value) (fl : Bool) {n : Nat} {listed : Array Bool} {a : Act} {w : World} (hi : ops[i]? = some oi)
    (hs : Region.noSelect ops = true) (hf : Region.free md ops listed i = true) (hr : (Region.ready md ops listed).contains i = true) (hil : late.contains i = false) (hl : fl = true → waitB md ops late i = true)
    (hQ : ∀ c a w, Q (.panic c) (a.put oi.dst v) w → Q (.panic c) a w) (hw : Region.wanted oi (yielded ops a.tmps) = true) (hy : ∀ w, (fl = true → S w) → T w → (execOp a.eval oi).run P w = .ok (.value v) w)
    (hS : quietB late listed = true → S w) (hT : T w) (hq : fl = true → quietB late listed = true)
    (h : AnyLate P md ops Q late S T n (listed.setIfInBounds i true) (a.put oi.dst v) w) : AnyLate P md ops Q late S T (n + 1) listed a w :=
  late_first hi (Region.noSelect_spec hs) hQ (by simpa using hil) fl hl n listed a w (Region.free_spec hi hf) (by simpa using hr) (.inl ⟨hw, fun w h => hy w h.1 h.2⟩) hS hT hq h
/-- One alone may come up. -/
theorem late_one (k : Nat) {o : Oper} {n : Nat} {listed : Array Bool} {a : Act} {w : World} (ho : ops[k]? = some o) (hr : Region.ready md ops listed = [k])
    (h : ∀ K : Act → World → Prop, (∀ a' w', (quietB late (listed.setIfInBounds k true) = true → S w') → T w' → AnyLate P md ops Q late S T n (listed.setIfInBounds k true) a' w' → K a' w') →
      if Region.wanted o (yielded ops a.tmps) = true then Oper.wp P o a w K Q else K (a.put o.dst undef) w) : AnyLate P md ops Q late S T (n + 1) listed a w := by
  refine ⟨(fun h0 => by rw [hr] at h0; cases h0), fun i hi => ?_⟩
  rw [hr] at hi
  obtain rfl := List.mem_singleton.1 hi
  have q := h (fun a' w' => ((quietB late (listed.setIfInBounds i true) = true → S w') ∧ T w') ∧ AnyLate P md ops Q late S T n (listed.setIfInBounds i true) a' w') fun a' w' h1 h2 h3 => ⟨⟨h1, h2⟩, h3⟩
  unfold wpOp
  simp only [ho]
  split
  · rename_i hw
    rw [if_pos hw] at q
    exact .inl q
  · rename_i hw
    rw [if_neg hw] at q
    exact q
theorem late_done {listed : Array Bool} {a : Act} {w : World} (hr : Region.ready md ops listed = []) (h : Q .normal a w) : ∀ n, AnyLate P md ops Q late S T n listed a w
  | 0 => ⟨hr, h⟩
  | _ + 1 => ⟨fun _ => h, by rw [hr]; simp⟩
theorem late_begin (late : List Nat) (S T : World → Prop) {id : Nat} {a : Act} {w : World} (hm : P.follows .mixedOrders = true) (h : AnyLate P .any ops Q late S T ops.size (Array.replicate ops.size false) a w.drew) : (Code.region id ops true).wp P Q a w :=
  wp_region_any hm (any_of_late _ _ _ _ h)
end
end Go.Proofs.YtnalppgjbllehaaGreatDoor
