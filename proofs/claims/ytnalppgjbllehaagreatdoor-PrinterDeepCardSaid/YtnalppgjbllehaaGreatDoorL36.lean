/- What a directive prints (plain), and the world on the way through printer's directive. -/
import Derived.Test.YtnalppgjbllehaaGreatDoorL35
namespace Go.Proofs.YtnalppgjbllehaaGreatDoor
set_option linter.unusedVariables false
set_option linter.unusedSimpArgs false
open Go.RowKit

def specCells (f : SpecD) : Array Value := #[.bool f.plus, .bool f.minus, .bool f.sharp, .bool f.space, .bool f.zero, .int .i64 f.wid, .int .i64 f.prec, .int .i32 f.verb]
def SpecB (w : World) (b : Nat) (f : SpecD) : Prop := w.heap[b]? = some (.cells (specCells f) 61 (0, 0))
/-- A print's hook, as a function value. -/
def askV (sb : Nat) : Value := .func (.func 27) #[.pointer (some ⟨sb, 0, none⟩)] #[]
/-- What Show says of a value (none: of it nothing is said here). -/
structure ShowH (WB : World) (sb : Nat) (depth : Int) (tab av : Value) (sh : V → SpecD → Option ByteArray) : Prop where
  call : ∀ {out : ByteArray} {bv : Value} {next : Int} {re : Bool} {W : World} {v : Value} {x : V} {f : SpecD} {s : ByteArray}, StW WB sb out bv depth tab av next re W → IsV W v x → f.Rng → sh x f = some s →
    Calls Tryz.prog 25 #[v, .agg (specCells f), askV sb] W (Ret W (.string s))
  size : ∀ {x : V} {f : SpecD} {s : ByteArray}, sh x f = some s → s.size ≤ 1000000000
def GoodN (n : NumP) : Prop := GoodI n.arg ∧ (n.kind = 1 → n.n ≤ 1000)
def GoodP (p : PieceD) : Prop := GoodN p.wid ∧ GoodN p.prec ∧ GoodI p.arg
structure PrS where
  out : ByteArray
  next : Int
  re : Bool
def widD (f : SpecD) (k : Int) : SpecD := { f with minus := f.minus || decide (k < 0), wid := max k (-k) }
def dirW1 (xs : List V) (p : PieceD) (s : PrS) : SpecD × PrS :=
  let n := numberD xs s.next s.re p.wid (-1000)
  if n.ok = true then (widD p.spec n.k, ⟨s.out, n.next, n.re⟩)
  else if p.wid.kind = 0 then (p.spec, ⟨s.out, n.next, n.re⟩)
  else (p.spec, ⟨s.out ++ badWidthB, n.next, n.re⟩)
def dirW2 (xs : List V) (p : PieceD) (y : SpecD × PrS) : SpecD × PrS :=
  let n := numberD xs y.2.next y.2.re p.prec 0
  if n.ok = true then ({ y.1 with prec := n.k }, ⟨y.2.out, n.next, n.re⟩)
  else if p.prec.kind = 0 then (y.1, ⟨y.2.out, n.next, n.re⟩)
  else (y.1, ⟨y.2.out ++ badPrecB, n.next, n.re⟩)
def dirW3 (sh : V → SpecD → Option ByteArray) (xs : List V) (p : PieceD) (y : SpecD × PrS) : Option PrS :=
  if y.1.verb = 37 then some ⟨y.2.out ++ ⟨#[37]⟩, y.2.next, y.2.re || decide (p.arg.kind ≠ 0)⟩
  else if p.arg.kind = 0 ∧ (xs.length : Int) ≤ y.2.next then some ⟨y.2.out ++ badMissingB y.1.verb, y.2.next, y.2.re⟩
  else
    let t := takeD xs.length y.2.next y.2.re p.arg
    match t.1 with
    | none => some ⟨y.2.out ++ badIndexB y.1.verb, t.2.1, t.2.2⟩
    | some i => (sh (xs.getD i .nil) y.1).map fun q => ⟨y.2.out ++ q, t.2.1, t.2.2⟩
/-- What a directive prints. -/
def dirP (sh : V → SpecD → Option ByteArray) (xs : List V) (p : PieceD) (s : PrS) : Option PrS := dirW3 sh xs p (dirW2 xs p (dirW1 xs p s))

/-- All blocks stay but the State and rows of bytes. -/
structure Ke (sb : Nat) (w w' : World) : Prop where
  size : w.heap.size ≤ w'.heap.size
  block : ∀ {k : Nat} {cs : Array Value} {T : TypeId} {fr : Nat × Nat}, k ≠ sb → T ≠ 5 → w.heap[k]? = some (.cells cs T fr) → w'.heap[k]? = some (.cells cs T fr)
theorem Ke.refl (sb : Nat) (w : World) : Ke sb w w := ⟨Nat.le_refl _, fun _ _ h => h⟩
theorem Ke.trans {sb : Nat} {a b c : World} (h : Ke sb a b) (h2 : Ke sb b c) : Ke sb a c := ⟨Nat.le_trans h.size h2.size, fun h1 hT hk => h2.block h1 hT (h.block h1 hT hk)⟩
theorem Ke.below {sb : Nat} {a b c : World} (h : Ke sb a b) (hb : Below b.heap.size b c) : Ke sb a c :=
  ⟨Nat.le_trans h.size hb.size, fun h1 hT hk => by
    have := h.block h1 hT hk
    rw [hb.block _ (lt_of_some this)]; exact this⟩
theorem own_type {w : World} {B : Nat} {v : Value} {n : Nat} {xs : List Value} (h : w.ownsRow B 5 1 v n xs) {k : Nat} {cs : Array Value} {T : TypeId} {fr : Nat × Nat} (hT : T ≠ 5) (hk : w.heap[k]? = some (.cells cs T fr)) : v.ownBlock ≠ some k := by
  rcases h.2 with ⟨rfl, _⟩ | ⟨g, cap, cur, rfl, _, hg, _⟩
  · intro e; cases e
  · intro e
    injection e with e
    subst e
    rw [hg] at hk
    injection hk with hk
    injection hk with _ hk
    exact hT hk.symm
theorem Fr.ke {WB : World} {sb : Nat} {out : ByteArray} {bv : Value} {depth : Int} {tab av : Value} {next : Int} {re : Bool} {w w' : World} (h : Fr sb bv w w') (hs : StW WB sb out bv depth tab av next re w) : Ke sb w w' :=
  ⟨h.size, fun h1 hT hk => by rw [h.block _ (lt_of_some hk) h1 (own_type hs.own hT hk)]; exact hk⟩

/-- The world on the way through a directive that began at w. -/
structure DW (WB : World) (sb : Nat) (depth : Int) (tab av : Value) (w : World) (pb fb : Nat) (p : PieceD) (y : SpecD × PrS) (W : World) : Prop where
  st : ∃ bv, StW WB sb y.2.out bv depth tab av y.2.next y.2.re W
  pc : PieceAt W pb p
  fc : SpecB W fb y.1
  ke : Ke sb w W
  lp : w.heap.size ≤ pb
  lf : w.heap.size ≤ fb
  ne : pb ≠ fb
  ps : pb ≠ sb
  fs : fb ≠ sb
  wb : WB.heap.size ≤ fb
/-- Something was done that leaves the piece and the spec. -/
theorem DW.step {WB : World} {sb : Nat} {depth : Int} {tab av : Value} {w : World} {pb fb : Nat} {p : PieceD} {f : SpecD} {s s' : PrS} {W W' : World} {bv : Value} (h : DW WB sb depth tab av w pb fb p (f, s) W)
    (hs : StW WB sb s'.out bv depth tab av s'.next s'.re W') (hk : Ke sb W W') : DW WB sb depth tab av w pb fb p (f, s') W' :=
  ⟨⟨bv, hs⟩, hk.block h.ps (by decide) h.pc, hk.block h.fs (by decide) h.fc, h.ke.trans hk, h.lp, h.lf, h.ne, h.ps, h.fs, h.wb⟩
/-- A cell of the spec is written. -/
theorem DW.spec {WB : World} {sb : Nat} {depth : Int} {tab av : Value} {w : World} {pb fb : Nat} {p : PieceD} {f : SpecD} {s : PrS} {W : World} (h : DW WB sb depth tab av w pb fb p (f, s) W) (j : Nat) (v : Value) (f' : SpecD)
    (hc : (specCells f).setIfInBounds j v = specCells f') : DW WB sb depth tab av w pb fb p (f', s) (W.setCell ⟨fb, j, none⟩ v) := by
  obtain ⟨bv, hs⟩ := h.st
  have hfb : bv.ownBlock ≠ some fb := own_type hs.own (by decide) h.fc
  refine ⟨⟨bv, ?_, ?_, hs.lt, by simpa using hs.size, fun k hk hks => ?_, hs.os, hs.tape, hs.output⟩, ?_, ?_, ⟨by simpa using h.ke.size, fun {k cs T fr} h1 hT hk => ?_⟩, h.lp, h.lf, h.ne, h.ps, h.fs, h.wb⟩
  · rw [Below.heap_setCell _ _ _ _ (by show sb ≠ fb; exact Ne.symm h.fs)]; exact hs.blk
  · exact owns_blockV hs.own fun g hg => Below.heap_setCell _ _ _ _ (by show g ≠ fb; intro e; rw [e] at hg; exact hfb hg)
  · rw [Below.heap_setCell _ _ _ _ (by have := h.wb; show k ≠ fb; omega)]
    exact hs.keep k hk hks
  · unfold PieceAt
    rw [Below.heap_setCell _ _ _ _ (by show pb ≠ fb; exact h.ne)]
    exact h.pc
  · unfold SpecB
    rw [set_block h.fc v, hc]
  · rw [Below.heap_setCell _ _ _ _ (by have := lt_of_some hk; have := h.lf; show k ≠ fb; omega)]
    exact h.ke.block h1 hT hk
theorem takeD_next (n : Nat) (next : Int) (re : Bool) (x : IdxD) (hn : n ≤ 16) (h0 : 0 ≤ next) (h1 : next ≤ 1000000000) (hx : GoodI x) : 0 ≤ (takeD n next re x).2.1 ∧ (takeD n next re x).2.1 ≤ 1000000000 := by
  unfold takeD
  split
  · split
    · exact ⟨h0, h1⟩
    · show 0 ≤ next + 1 ∧ next + 1 ≤ 1000000000
      omega
  · split
    · exact ⟨h0, h1⟩
    · rename_i h2 h3
      show 0 ≤ x.n ∧ x.n ≤ 1000000000
      rcases hx with h | h | h
      · exact absurd h h2
      · exact absurd (.inl h.1) h3
      · omega
theorem numberD_next (xs : List V) (next : Int) (re : Bool) (p : NumP) (least : Int) (hn : xs.length ≤ 16) (h0 : 0 ≤ next) (h1 : next ≤ 1000000000) (hx : GoodN p) : 0 ≤ (numberD xs next re p least).next ∧ (numberD xs next re p least).next ≤ 1000000000 := by
  unfold numberD
  split
  · exact ⟨h0, h1⟩
  split
  · exact takeD_next xs.length next re p.arg hn h0 h1 hx.1
  · exact ⟨h0, h1⟩
theorem numberD_rng (xs : List V) (next : Int) (re : Bool) (p : NumP) (least : Int) (hl : -1000 ≤ least) (hl2 : least ≤ 0) (hx : GoodN p) (hok : (numberD xs next re p least).ok = true) : least ≤ (numberD xs next re p least).k ∧ (numberD xs next re p least).k ≤ 9223372036854775807 := by
  unfold numberD at hok ⊢
  split at hok
  · rename_i h1
    rw [if_pos h1]
    have h2 : 0 ≤ p.n := of_decide_eq_true hok
    have h3 := hx.2 h1
    show least ≤ p.n ∧ p.n ≤ 9223372036854775807
    omega
  · rename_i h1
    rw [if_neg h1]
    split at hok
    · rename_i h2
      rw [if_pos h2]
      have h3 : ((smallV (pickV xs (takeD xs.length next re p.arg).1)).2 && decide (least ≤ (smallV (pickV xs (takeD xs.length next re p.arg).1)).1)) = true := hok
      rw [Bool.and_eq_true] at h3
      obtain ⟨h4, h5⟩ := h3
      have h6 := of_decide_eq_true h5
      refine ⟨h6, ?_⟩
      show (smallV (pickV xs (takeD xs.length next re p.arg).1)).1 ≤ 9223372036854775807
      generalize pickV xs (takeD xs.length next re p.arg).1 = x at h4 h6 ⊢
      cases x with
      | nil => show (0 : Int) ≤ 9223372036854775807; omega
      | great => show (0 : Int) ≤ 9223372036854775807; omega
      | leaf l =>
        cases l with
        | int b x =>
          have h7 : (decide (-1000 ≤ x) && decide (x ≤ 1000)) = true := h4
          rw [Bool.and_eq_true] at h7
          have h8 := of_decide_eq_true h7.2
          show x ≤ 9223372036854775807
          omega
        | uint b x =>
          have h7 : x ≤ 1000 := of_decide_eq_true h4
          show wrap64 x ≤ 9223372036854775807
          unfold wrap64
          omega
        | bool b v => show (0 : Int) ≤ 9223372036854775807; omega
        | float b v n => show (0 : Int) ≤ 9223372036854775807; omega
        | cplx b v u n => show (0 : Int) ≤ 9223372036854775807; omega
        | text b s => show (0 : Int) ≤ 9223372036854775807; omega
        | bytes b s => show (0 : Int) ≤ 9223372036854775807; omega
    · cases hok
end Go.Proofs.YtnalppgjbllehaaGreatDoor

/- No hook is asked where there is no table: hooks' Get, printer's ask. Condition: the table is nil. -/
namespace Go.Proofs.YtnalppgjbllehaaGreatDoor
set_option linter.unusedVariables false
set_option linter.unusedSimpArgs false
open Go.RowKit

def actZ : List Value := [.int .i64 0, .string ⟨#[]⟩, .string ⟨#[]⟩, .slice none 0 0, .int .i64 0, .string ⟨#[]⟩, .int .u64 0, .int .u64 0, .string ⟨#[]⟩, .slice none 0 0, .slice none 0 0, .int .i64 0]
/-- The cells of no hook. -/
def hookZ : Array Value := ⟨actZ ++ (actZ ++ (actZ ++ actZ))⟩
def HookAt (w : World) (b : Nat) : Prop := w.heap[b]? = some (.cells hookZ 33 (0, 0))
theorem hook_size : (Tryz.prog.info? 33).map (·.size) = some hookZ.size := by kernel_rfl
theorem hookZ_one : hookZ.all (·.oneCell') = true := by kernel_rfl
theorem load_hook {W : World} {b : Nat} (h : HookAt W b) : (loadVar 33 ⟨b, 0, none⟩).run Tryz.prog W = .ok (.agg hookZ) W :=
  run_loadVar_row W b 33 33 hookZ (0, 0) _ h Tryz.underlying33 rfl hook_size
theorem hook_again (w : World) : (w.alloc (.cells hookZ 33)).setRow w.heap.size hookZ = w.alloc (.cells hookZ 33) := by rw [World.setRow_alloc_new]
set_option maxHeartbeats 4000000 in
set_option maxRecDepth 1000000 in
theorem get_none (n : Int) (w : World) : Calls Tryz.prog 54 #[.slice none 0 0, .int .i64 n] w (Ret w (.tuple #[.agg hookZ, .bool false])) := by
  have HN : Hid ((w.alloc (.cells hookZ 33)).heap[w.heap.size]? = some (.cells hookZ 33 (0, 0))) := Lib.hid (heap_alloc_new w _)
  by_cases hn : n < 1
  · go_enter Tryz.func54, Tryz.ntmps54
    go_upto_region 2 with fail
    change Code.wp _ _ _ _ (w.alloc (.cells hookZ 33))
    go_wp2_with (refine wpList_store_row (by rfl) 33 _ _ (by rfl) w.heap.size hookZ (by rfl) (by rfl) 33 hookZ ?_ hook_size (by rfl) hookZ_one ?_; (with_reducible exact HN.out))
    rw [hook_again]
    refine bodyPost_ret (v := .tuple #[.agg hookZ, .bool false]) ?_ rfl ?_
    · have hl := load_hook HN.out
      simp only [results, Tryz.f54]
      simp [asAddr, hl]
    · exact ⟨rfl, Below.new _⟩
  · have hn2 : (0 : Int) < n := by omega
    go_enter Tryz.func54, Tryz.ntmps54
    go_upto_region 2 with fail
    change Code.wp _ _ _ _ (w.alloc (.cells hookZ 33))
    go_wp2_with (refine wpList_store_row (by rfl) 33 _ _ (by rfl) w.heap.size hookZ (by rfl) (by rfl) 33 hookZ ?_ hook_size (by rfl) hookZ_one ?_; (with_reducible exact HN.out))
    rw [hook_again]
    refine bodyPost_ret (v := .tuple #[.agg hookZ, .bool false]) ?_ rfl ?_
    · have hl := load_hook HN.out
      simp only [results, Tryz.f54]
      simp [asAddr, hl]
    · exact ⟨rfl, Below.new _⟩
end Go.Proofs.YtnalppgjbllehaaGreatDoor

/- A bare spec: printer's bare. No condition. -/
namespace Go.Proofs.YtnalppgjbllehaaGreatDoor
set_option linter.unusedVariables false
set_option linter.unusedSimpArgs false
open Go.RowKit

def bareD : SpecD := ⟨false, false, false, false, false, -1, -1, 118⟩
theorem spec_size (f : SpecD) : (Tryz.prog.info? 61).map (·.size) = some (specCells f).size := by kernel_rfl
theorem load_spec {W : World} {b : Nat} {f : SpecD} (h : SpecB W b f) : (loadVar 61 ⟨b, 0, none⟩).run Tryz.prog W = .ok (.agg (specCells f)) W :=
  run_loadVar_row W b 61 61 (specCells f) (0, 0) _ h Tryz.underlying61 rfl (spec_size f)
set_option maxRecDepth 1000000 in
theorem bare_any (w : World) : Calls Tryz.prog 26 #[] w (Ret w (.agg (specCells bareD))) := by
  go_enter Tryz.func26, Tryz.ntmps26
  go_wp2_with fail
  refine bodyPost_ret (v := .agg (specCells bareD)) ?_ rfl ?_
  · have h : SpecB (w.alloc (.cells #[.bool false, .bool false, .bool false, .bool false, .bool false, .int .i64 (-1), .int .i64 (-1), .int .i32 118] 61)) w.heap.size bareD := heap_alloc_new w _
    have hl := load_spec h
    simp only [results, Tryz.f26]
    simp [asAddr, hl]
  · exact ⟨rfl, Below.new _⟩
end Go.Proofs.YtnalppgjbllehaaGreatDoor

/- What a format prints (plain), and what is true of all its pieces. -/
namespace Go.Proofs.YtnalppgjbllehaaGreatDoor
set_option linter.unusedVariables false
set_option linter.unusedSimpArgs false
open Go.RowKit

theorem numF_up : ∀ (k : Nat) (d : ByteArray) (i : Nat) (n lim : Int), -1 ≤ lim → n ≤ lim → numF k d i n lim ≤ lim
  | 0, _, _, _, _, _, h => h
  | k + 1, d, i, n, lim, h1, h => by
    unfold numF
    split
    · exact h1
    · exact numF_up k d _ _ lim h1 (by omega)
theorem numB_le (d : ByteArray) (lim : Int) (h : 0 ≤ lim) : numB d lim ≤ lim := numF_up d.size d 0 0 lim (by omega) h
theorem good_index (t : ByteArray) : GoodI (indexI t) := by
  have hn := numB_le (digD (drop1 t)) 999999999 (by omega)
  unfold indexI
  generalize numB (digD (drop1 t)) 999999999 = n at hn ⊢
  by_cases h1 : bt t 0 = 91
  · rw [if_pos h1]
    by_cases h2 : (digD (drop1 t)).size = 0 ∨ bt (digR (drop1 t)) 0 ≠ 93
    · rw [if_pos h2]
      exact .inr (.inl ⟨rfl, rfl⟩)
    · rw [if_neg h2]
      by_cases h3 : 0 < n ∧ (digD (drop1 t)).size ≤ 9
      · rw [if_pos h3]
        exact .inr (.inr ⟨rfl, (show 1 ≤ n by omega), hn⟩)
      · rw [if_neg h3]
        exact .inr (.inl ⟨rfl, rfl⟩)
  · rw [if_neg h1]
    exact .inl rfl
theorem good_spoilt {x : IdxD} (h : GoodI x) : GoodI (spoiltI x) := by
  unfold spoiltI
  split
  · exact h
  · exact .inr (.inl ⟨rfl, rfl⟩)
theorem good_and {x y : IdxD} (h : GoodI x) (h2 : GoodI y) : GoodI (andI x y) := by
  unfold andI
  split
  · exact h
  split
  · exact h2
  · exact .inr (.inl ⟨rfl, rfl⟩)
theorem good_num (t : ByteArray) {x : IdxD} (z : Bool) (h : GoodI x) : GoodN (numI t x z).num ∧ GoodI (numI t x z).arg := by
  have hn := numB_le (digD t) 1000 (by omega)
  unfold numI
  generalize numB (digD t) 1000 = n at hn ⊢
  by_cases h1 : bt t 0 = 42
  · rw [if_pos h1]
    exact ⟨⟨h, fun h => absurd h (show ¬ ((2 : Int) = 1) by decide)⟩, .inl rfl⟩
  rw [if_neg h1]
  by_cases h2 : 49 ≤ bt t 0 ∧ bt t 0 ≤ 57 ∨ (z = true ∧ bt t 0 = 48)
  · rw [if_pos h2]
    exact ⟨⟨.inl rfl, fun _ => hn⟩, good_spoilt h⟩
  rw [if_neg h2]
  by_cases h3 : z = true
  · rw [if_pos h3]
    exact ⟨⟨.inl rfl, fun _ => (show (0 : Int) ≤ 1000 by omega)⟩, h⟩
  · rw [if_neg h3]
    exact ⟨⟨.inl rfl, fun h => absurd h (show ¬ ((0 : Int) = 1) by decide)⟩, h⟩
theorem flagsF_num : ∀ (n : Nat) (t : ByteArray) (f : SpecD), (flagsF n t f).1.wid = f.wid ∧ (flagsF n t f).1.prec = f.prec
  | 0, t, f => ⟨rfl, rfl⟩
  | n + 1, t, f => by
    unfold flagsF
    split
    · exact flagsF_num n _ _
    split
    · exact flagsF_num n _ _
    split
    · exact flagsF_num n _ _
    split
    · exact flagsF_num n _ _
    split
    · exact flagsF_num n _ _
    · exact ⟨rfl, rfl⟩
/-- What is true of the pieces of a format of at most m bytes. -/
structure PieceOk (m : Nat) (p : PieceD) : Prop where
  good : GoodP p
  wid : -1 ≤ p.spec.wid ∧ p.spec.wid ≤ 0
  prec : -1 ≤ p.spec.prec ∧ p.spec.prec ≤ 0
  text : p.text.size ≤ m
structure DirOk (d : DirR) : Prop where
  good : GoodP d.piece
  wid : -1 ≤ d.piece.spec.wid ∧ d.piece.spec.wid ≤ 0
  prec : -1 ≤ d.piece.spec.prec ∧ d.piece.spec.prec ≤ 0
theorem ok1 (t : ByteArray) : DirOk (dir1 t) := by
  have h1 := flagsF_num t.size t specN
  unfold dir1
  generalize flagsF t.size t specN = y at h1 ⊢
  obtain ⟨h2, h3⟩ := good_num (indexR y.2) false (good_index y.2)
  obtain ⟨e1, e2⟩ := h1
  refine ⟨⟨h2, ⟨.inl rfl, fun h => absurd h (show ¬ ((0 : Int) = 1) by decide)⟩, h3⟩, ?_, ?_⟩
  · show -1 ≤ y.1.wid ∧ y.1.wid ≤ 0
    rw [e1]
    exact ⟨Int.le_refl _, by decide⟩
  · show -1 ≤ y.1.prec ∧ y.1.prec ≤ 0
    rw [e2]
    exact ⟨Int.le_refl _, by decide⟩
theorem ok2' (d : DirR) (h : DirOk d) (y : NumR) (h2 : GoodN y.num) (h3 : GoodI y.arg) : DirOk ⟨{ d.piece with prec := y.num, arg := andI (spoiltI d.piece.arg) y.arg }, y.rest⟩ :=
  ⟨⟨h.good.1, h2, good_and (good_spoilt h.good.2.2) h3⟩, h.wid, h.prec⟩
theorem ok2 {d : DirR} (h : DirOk d) : DirOk (dir2 d) := by
  obtain ⟨p, u⟩ := d
  have hg := good_num (indexR (drop1 u)) true (good_index (drop1 u))
  by_cases hc : bt u 0 = 46
  · have e : dir2 ⟨p, u⟩ = ⟨{ p with prec := (numI (indexR (drop1 u)) (indexI (drop1 u)) true).num, arg := andI (spoiltI p.arg) (numI (indexR (drop1 u)) (indexI (drop1 u)) true).arg }, (numI (indexR (drop1 u)) (indexI (drop1 u)) true).rest⟩ := by
      unfold dir2
      rw [if_pos hc]
    rw [e]
    exact ok2' ⟨p, u⟩ h _ hg.1 hg.2
  · have e : dir2 ⟨p, u⟩ = ⟨p, u⟩ := by
      unfold dir2
      rw [if_neg hc]
    rw [e]
    exact h
theorem ok3 {d : DirR} (h : DirOk d) : DirOk (dir3 d) := ⟨⟨h.good.1, h.good.2.1, good_and h.good.2.2 (good_index d.rest)⟩, h.wid, h.prec⟩
theorem ok4 {d : DirR} (h : DirOk d) : DirOk (dir4 d) := by
  unfold dir4
  by_cases hc : d.rest.size = 0
  · rw [if_pos hc]; exact h
  · rw [if_neg hc]; exact ⟨h.good, h.wid, h.prec⟩
theorem dirD_ok (t : ByteArray) : PieceOk (t.size + 1) (dirD t).piece := by
  have h := ok4 (ok3 (ok2 (ok1 t)))
  unfold dirD
  generalize dir4 (dir3 (dir2 (dir1 t))) = d at h ⊢
  refine ⟨h.good, h.wid, h.prec, ?_⟩
  show (⟨#[37]⟩ ++ t.extract 0 (t.size - d.rest.size) : ByteArray).size ≤ t.size + 1
  rw [ByteArray.size_append, ByteArray.size_extract]
  show 1 + _ ≤ _
  omega
theorem lit_ok {m : Nat} (s : ByteArray) (h : s.size ≤ m) : PieceOk m { pieceZ with text := s } :=
  ⟨⟨⟨.inl rfl, fun h => absurd h (show ¬ ((0 : Int) = 1) by decide)⟩, ⟨.inl rfl, fun h => absurd h (show ¬ ((0 : Int) = 1) by decide)⟩, .inl rfl⟩, ⟨(show (-1 : Int) ≤ 0 by decide), (show (0 : Int) ≤ 0 by decide)⟩, ⟨(show (-1 : Int) ≤ 0 by decide), (show (0 : Int) ≤ 0 by decide)⟩, h⟩
theorem PieceOk.mono {m n : Nat} {p : PieceD} (h : PieceOk m p) (hl : m ≤ n) : PieceOk n p := ⟨h.good, h.wid, h.prec, Nat.le_trans h.text hl⟩
theorem parseF_ok : ∀ (f : Nat) (t : ByteArray) (m : Nat), t.size ≤ m → ∀ p ∈ parseF f t, PieceOk m p
  | 0, t, m, _, p, hp => by cases hp
  | f + 1, t, m, ht, p, hp => by
    unfold parseF at hp
    have hd := drop1_size t
    by_cases h0 : t.size = 0
    · rw [if_pos h0] at hp; cases hp
    · rw [if_neg h0] at hp
      by_cases hc : 0 < cutP t
      · rw [if_pos hc] at hp
        rcases List.mem_cons.1 hp with rfl | hp
        · exact lit_ok _ (by rw [ByteArray.size_extract]; have := cutP_le t; omega)
        · exact parseF_ok f _ m (by rw [ByteArray.size_extract]; omega) p hp
      · rw [if_neg hc] at hp
        rcases List.mem_cons.1 hp with rfl | hp
        · exact (dirD_ok (drop1 t)).mono (by omega)
        · exact parseF_ok f _ m (by have := dirD_rest_le (drop1 t); omega) p hp
theorem parseF_len : ∀ (f : Nat) (t : ByteArray), (parseF f t).length ≤ t.size
  | 0, t => by simp [parseF]
  | f + 1, t => by
    unfold parseF
    have hd := drop1_size t
    by_cases h0 : t.size = 0
    · rw [if_pos h0]; simp
    · rw [if_neg h0]
      by_cases hc : 0 < cutP t
      · rw [if_pos hc, List.length_cons]
        have := parseF_len f (t.extract (cutP t) t.size)
        rw [ByteArray.size_extract] at this
        omega
      · rw [if_neg hc, List.length_cons]
        have := parseF_len f (dirD (drop1 t)).rest
        have := dirD_rest_le (drop1 t)
        omega
section
variable (sh : V → SpecD → Option ByteArray) (xs : List V)
def stepP (p : PieceD) (s : PrS) : Option PrS :=
  if p.kind = 0 then some ⟨s.out ++ p.text, s.next, s.re⟩
  else if p.kind = 1 then dirP sh xs p s
  else none
def runP : List PieceD → PrS → Option PrS
  | [], s => some s
  | p :: l, s => (stepP sh xs p s).bind (runP l)
def valsP : List V → Option (List ByteArray)
  | [] => some []
  | x :: l => (sh x bareD).bind fun a => (valsP l).map fun r => a :: r
def extraP (s : PrS) : Option PrS :=
  if s.re = true ∨ (xs.length : Int) ≤ s.next then some s
  else (valsP sh (xs.drop s.next.toNat)).map fun vs => ⟨s.out ++ extraB ((xs.drop s.next.toNat).map typeV) vs, s.next, s.re⟩
/-- What a format prints. -/
def formatP (t : ByteArray) (s : PrS) : Option PrS := (runP sh xs (parseD t) s).bind (extraP sh xs)
end
end Go.Proofs.YtnalppgjbllehaaGreatDoor
