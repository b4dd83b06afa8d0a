/- An argument is taken: printer's take. Condition: the state of a print lies in its block, its arguments in their row; the index is one that Parse makes. -/
import Derived.Test.YtnalppgjbllehaaGreatDoorL33
namespace Go.Proofs.YtnalppgjbllehaaGreatDoor
set_option linter.unusedVariables false
set_option linter.unusedSimpArgs false
open Go.RowKit

theorem StW.later {WB : World} {sb : Nat} {out : ByteArray} {bv : Value} {depth : Int} {tab av : Value} {next : Int} {re : Bool} {w w' : World} (h : StW WB sb out bv depth tab av next re w) (hb : Below w.heap.size w w') :
    StW WB sb out bv depth tab av next re w' :=
  ⟨(hb.block sb (by have := h.lt; have := h.size; omega)).trans h.blk, owns_laterV h.own hb, h.lt, by have := hb.size; have := h.size; omega, fun k hk hs => (hb.block k (by have := h.size; omega)).trans (h.keep k hk hs), hb.os.trans h.os, hb.tape.trans h.tape, hb.output.trans h.output⟩
/-- A cell of the State is written. -/
theorem StW.cell {WB : World} {sb : Nat} {out : ByteArray} {bv : Value} {depth : Int} {tab av : Value} {next : Int} {re : Bool} {w : World} (h : StW WB sb out bv depth tab av next re w) (j : Nat) (v : Value) {next' : Int} {re' : Bool}
    (hc : (stCells bv out.size depth tab av next re).setIfInBounds j v = stCells bv out.size depth tab av next' re') : StW WB sb out bv depth tab av next' re' (w.setCell ⟨sb, j, none⟩ v) := by
  refine ⟨?_, ?_, h.lt, by simpa using h.size, fun k hk hs => ?_, h.os, h.tape, h.output⟩
  · rw [set_block h.blk v, hc]
  · refine owns_blockV h.own fun k hk => Below.heap_setCell _ _ _ _ ?_
    have := (h.own.lt k hk).1
    have := h.lt
    show k ≠ sb
    omega
  · rw [Below.heap_setCell _ _ _ _ (by show k ≠ sb; exact hs)]
    exact h.keep k hk hs
/-- The arguments of a print: values us, which are xs. -/
structure ArgsW (WB : World) (sb : Nat) (av : Value) (us : List Value) (xs : List V) : Prop where
  own : WB.ownsRow (sb + 1) 54 1 av us.length us
  len : xs.length = us.length
  val : ∀ j (h : j < us.length) (h' : j < xs.length), IsVF (fun k => k < WB.heap.size ∧ k ≠ sb) WB us[j] xs[j]
  room : us.length ≤ 16
theorem ArgsW.isV {WB : World} {sb : Nat} {av : Value} {us : List Value} {xs : List V} (h : ArgsW WB sb av us xs) {w : World} (hk : ∀ k, k < WB.heap.size → k ≠ sb → w.heap[k]? = WB.heap[k]?) {j : Nat} (h1 : j < us.length) (h2 : j < xs.length) : IsV w us[j] xs[j] :=
  ((h.val j h1 h2).keep (S' := fun _ => True) fun k _ hk' => ⟨trivial, hk k hk'.1 hk'.2⟩).isV
theorem ArgsW.cells {WB : World} {sb : Nat} {av : Value} {us : List Value} {xs : List V} (h : ArgsW WB sb av us xs) (hn : 0 < us.length) :
    ∃ g c, av = .slice (some ⟨g, 0, none⟩) us.length c ∧ us.length ≤ c ∧ g ≠ sb ∧ g < WB.heap.size ∧ ∀ i (hi : i < us.length), WB.cell? ⟨g, i, none⟩ = some us[i] := by
  obtain ⟨g, cap, e1, e2, e3, e4, e5, e6⟩ := owns_cell h.own hn
  exact ⟨g, cap, e1, e4, by omega, (h.own.lt g (by rw [e1]; rfl)).2, fun i hi => e6 i _ (List.getElem?_eq_getElem hi)⟩
/-- The index is one that Parse makes. -/
def GoodI (x : IdxD) : Prop := x.kind = 0 ∨ (x.kind = 2 ∧ x.n = 0) ∨ (x.kind = 1 ∧ 1 ≤ x.n ∧ x.n ≤ 999999999)
/-- Which argument is taken of n: its place, the next one's, and whether an index stood there. -/
def takeD (n : Nat) (next : Int) (re : Bool) (x : IdxD) : Option Nat × Int × Bool :=
  if x.kind = 0 then (if (n : Int) ≤ next then (none, next, re) else (some next.toNat, next + 1, re))
  else if x.kind = 2 ∨ (n : Int) ≤ x.n - 1 then (none, next, true)
  else (some (x.n - 1).toNat, x.n, true)
def pickU (us : List Value) : Option Nat → Value
  | none => .nilIface
  | some i => us.getD i .nilIface
def TakePost (WB : World) (sb : Nat) (out : ByteArray) (bv : Value) (depth : Int) (tab av : Value) (us : List Value) (r : Option Nat × Int × Bool) (w : World) (e : Ending) (w' : World) : Prop :=
  e = .returned (.tuple #[pickU us r.1, .bool r.1.isSome]) ∧ StW WB sb out bv depth tab av r.2.1 r.2.2 w' ∧ Fr sb bv w w'
set_option maxHeartbeats 4000000 in
set_option maxRecDepth 1000000 in
theorem take_any {WB : World} {sb : Nat} {out : ByteArray} {bv : Value} {depth : Int} {tab av : Value} {us : List Value} {xs : List V} {next : Int} {re : Bool} {w : World} (x : IdxD)
    (hs : StW WB sb out bv depth tab av next re w) (ha : ArgsW WB sb av us xs) (hx : GoodI x) (h0 : 0 ≤ next) (h1 : next ≤ 1000000000) :
    Calls Tryz.prog 49 #[.pointer (some ⟨sb, 0, none⟩), .agg #[.int .i64 x.kind, .int .i64 x.n]] w (TakePost WB sb out bv depth tab av us (takeD us.length next re x) w) := by
  have HA := Lib.hid ha
  have HFR0 := Lib.hid ((Fr.refl sb bv w).below (Below.new (w := w) (.cells #[.int .i64 x.kind, .int .i64 x.n] 63)))
  have HB := Lib.hid (hs.later (Below.new (w := w) (.cells #[.int .i64 x.kind, .int .i64 x.n] 63)))
  have b0 := cell_of_heap' (heap_alloc_new w (.cells #[.int .i64 x.kind, .int .i64 x.n] 63)) 0
  have b1 := cell_of_heap' (heap_alloc_new w (.cells #[.int .i64 x.kind, .int .i64 x.n] 63)) 1
  have hne : w.heap.size ≠ sb := by have := hs.lt; have := hs.size; omega
  obtain ⟨a, c, rfl⟩ := own_slice ha.own
  obtain ⟨n, hn⟩ : ∃ n, us.length = n := ⟨_, rfl⟩
  rw [hn] at HA HB ⊢
  have hr := ha.room
  rw [hn] at hr
  have HN := Lib.hid hn
  clear hs ha hn
  obtain ⟨r, hrr⟩ : ∃ r, takeD n next re x = r := ⟨_, rfl⟩
  rw [hrr]
  have HR := Lib.hid hrr
  clear hrr
  obtain ⟨xk, xn⟩ := x
  replace b0 : (w.alloc (.cells #[.int .i64 xk, .int .i64 xn] 63)).cell? ⟨w.heap.size, 0, none⟩ = some (.int .i64 xk) := b0
  replace b1 : (w.alloc (.cells #[.int .i64 xk, .int .i64 xn] 63)).cell? ⟨w.heap.size, 1, none⟩ = some (.int .i64 xn) := b1
  go_enter Tryz.func49, Tryz.ntmps49
  go_upto_region 1 with fail
  obtain ⟨xb, hxb⟩ : ∃ b, w.heap.size = b := ⟨_, rfl⟩
  rw [hxb] at b0 b1 hne ⊢
  clear hxb
  generalize w.alloc (.cells #[.int .i64 xk, .int .i64 xn] 63) = W1 at HB HFR0 b0 b1 ⊢
  have k3 : W1.cell? ⟨sb, 4, none⟩ = some (.slice a n c) := cell_of_heap' HB.out.blk 4
  have k4 : W1.cell? ⟨sb, 5, none⟩ = some (.int .i64 next) := cell_of_heap' HB.out.blk 5
  have k5 : W1.cell? ⟨sb, 6, none⟩ = some (.bool re) := cell_of_heap' HB.out.blk 6
  have z4 : W1.frozen? ⟨sb, 5, none⟩ = false := frozen_of_heap' HB.out.blk 5
  have z5 : W1.frozen? ⟨sb, 6, none⟩ = false := frozen_of_heap' HB.out.blk 6
  have k0 := b0
  have k1 := b1
  clear b0 b1
  by_cases hk0 : xk = 0
  · subst hk0
    by_cases hle : (n : Int) ≤ next
    · have HTK : takeD n next re ⟨0, xn⟩ = (none, next, re) := by unfold takeD; rw [if_pos rfl, if_pos hle]
      go_wp2_with fail
      refine bodyPost_ret (v := .tuple #[.nilIface, .bool false]) (by simp [results, Tryz.f49, go_sem]) rfl ?_
      rw [← HR.out]
      refine ⟨?_, ?_, ?_⟩
      · rw [HTK]; rfl
      · rw [HTK]; exact HB.out
      · exact HFR0.out
    · have HTK : takeD n next re ⟨0, xn⟩ = (some next.toNat, next + 1, re) := by unfold takeD; rw [if_pos rfl, if_neg hle]
      obtain ⟨i, rfl⟩ : ∃ i : Nat, next = (i : Int) := ⟨next.toNat, by omega⟩
      have hti : ((i : Int)).toNat = i := Int.toNat_natCast i
      rw [hti] at HTK
      have hlt : (i : Int) < (n : Int) := by omega
      go_upto_region 8 with fail
      have HB2 := Lib.hid (HB.out.cell 5 (.int .i64 ((i : Int) + 1)) (next' := (i : Int) + 1) (re' := re) (by simp [stCells]))
      have HFR3 := Lib.hid ((HFR0.out).put 5 (.int .i64 ((i : Int) + 1)))
      have hb2 := HB2.out
      generalize W1.setCell ⟨sb, 5, none⟩ (.int .i64 ((i : Int) + 1)) = W3 at HB2 HFR3 hb2 ⊢
      have hil : i < us.length := by rw [HN.out]; omega
      obtain ⟨g, c', eg, hcc, hgs, hgl, hcell⟩ := HA.out.cells (by rw [HN.out]; omega)
      injection eg with eg1 eg2 eg3
      subst eg1 eg3
      have e0 : W3.cell? ⟨sb, 4, none⟩ = some (.slice (some ⟨g, 0, none⟩) n c) := cell_of_heap' hb2.blk 4
      have ei : W3.cell? ⟨g, i, none⟩ = some us[i] := (World.cell?_of_block (a := ⟨g, i, none⟩) (hb2.keep g hgl hgs)).trans (hcell i hil)
      have hue : us.getD i .nilIface = us[i] := by rw [List.getD_eq_getElem?_getD, List.getElem?_eq_getElem hil]; rfl
      have HU := Lib.hid hue
      generalize us[i] = u at ei HU
      clear hb2 hcell hue HA hil k4 k5 k3 z4 z5 k0 k1
      go_wp2_with fail
      refine bodyPost_ret (v := .tuple #[u, .bool true]) (by simp [results, Tryz.f49, go_sem]) rfl ?_
      rw [← HR.out]
      refine ⟨?_, ?_, ?_⟩
      · rw [HTK, ← HU.out]; rfl
      · rw [HTK]; first | exact HB2.out | (have h := HB2.out; rw [← HN.out] at h; exact h)
      · exact HFR3.out
  · have HB5 := Lib.hid (HB.out.cell 6 (.bool true) (next' := next) (re' := true) (by simp [stCells]))
    have hk0' : (xk == 0) = false := by simpa using hk0
    by_cases hk2 : xk = 2
    · subst hk2
      have HTK : takeD n next re ⟨2, xn⟩ = (none, next, true) := by unfold takeD; rw [if_neg (show ¬ ((2 : Int) = 0) by decide), if_pos (.inl rfl)]
      obtain rfl : xn = 0 := by rcases hx with h | h | h; exact absurd h (show ¬ ((2 : Int) = 0) by decide); exact h.2; exact absurd h.1 (show ¬ ((2 : Int) = 1) by decide)
      go_wp2_with fail
      refine bodyPost_ret (v := .tuple #[.nilIface, .bool false]) (by simp [results, Tryz.f49, go_sem]) rfl ?_
      rw [← HR.out]
      refine ⟨?_, ?_, ?_⟩
      · rw [HTK]; rfl
      · rw [HTK]; exact HB5.out
      · exact HFR0.out.put 6 _
    · obtain ⟨hk1, hn1, hn2⟩ : xk = 1 ∧ 1 ≤ xn ∧ xn ≤ 999999999 := by rcases hx with h | h | h; exact absurd h hk0; exact absurd h.1 hk2; exact h
      obtain ⟨i, hi⟩ : ∃ i : Nat, xn - 1 = (i : Int) := ⟨(xn - 1).toNat, by omega⟩
      obtain rfl : xn = (i : Int) + 1 := by omega
      subst hk1
      have e1 : (i : Int) + 1 - 1 = (i : Int) := by omega
      by_cases hle : (n : Int) ≤ (i : Int)
      · have HTK : takeD n next re ⟨1, (i : Int) + 1⟩ = (none, next, true) := by unfold takeD; rw [if_neg (show ¬ ((1 : Int) = 0) by decide), if_pos (.inr (by show (n : Int) ≤ (i : Int) + 1 - 1; rw [e1]; exact hle))]
        go_wp2_with fail
        refine bodyPost_ret (v := .tuple #[.nilIface, .bool false]) (by simp [results, Tryz.f49, go_sem]) rfl ?_
        rw [← HR.out]
        refine ⟨?_, ?_, ?_⟩
        · rw [HTK]; rfl
        · rw [HTK]; exact HB5.out
        · exact HFR0.out.put 6 _
      · have HTK : takeD n next re ⟨1, (i : Int) + 1⟩ = (some i, (i : Int) + 1, true) := by
          unfold takeD
          rw [if_neg (show ¬ ((1 : Int) = 0) by decide), if_neg (show ¬ ((1 : Int) = 2 ∨ (n : Int) ≤ (i : Int) + 1 - 1) by rw [e1]; rintro (h | h); exact absurd h (by decide); exact hle h)]
          show (some ((i : Int) + 1 - 1).toNat, _, _) = _
          rw [e1, Int.toNat_natCast]
        have hlt : (i : Int) < (n : Int) := by omega
        go_upto_region 8 with fail
        have HB2 := Lib.hid (HB5.out.cell 5 (.int .i64 ((i : Int) + 1)) (next' := (i : Int) + 1) (re' := true) (by simp [stCells]))
        have HFR3 := Lib.hid ((HFR0.out.put 6 (.bool true)).put 5 (.int .i64 ((i : Int) + 1)))
        have hb2 := HB2.out
        generalize (W1.setCell ⟨sb, 6, none⟩ (.bool true)).setCell ⟨sb, 5, none⟩ (.int .i64 ((i : Int) + 1)) = W3 at HB2 HFR3 hb2 ⊢
        have hil : i < us.length := by rw [HN.out]; omega
        obtain ⟨g, c', eg, hcc, hgs, hgl, hcell⟩ := HA.out.cells (by rw [HN.out]; omega)
        injection eg with eg1 eg2 eg3
        subst eg1 eg3
        have e0 : W3.cell? ⟨sb, 4, none⟩ = some (.slice (some ⟨g, 0, none⟩) n c) := cell_of_heap' hb2.blk 4
        have ei : W3.cell? ⟨g, i, none⟩ = some us[i] := (World.cell?_of_block (a := ⟨g, i, none⟩) (hb2.keep g hgl hgs)).trans (hcell i hil)
        have hue : us.getD i .nilIface = us[i] := by rw [List.getD_eq_getElem?_getD, List.getElem?_eq_getElem hil]; rfl
        have HU := Lib.hid hue
        generalize us[i] = u at ei HU
        clear hb2 hcell hue HA hil k4 k5 k3 z4 z5 k0 k1
        go_wp2_with fail
        refine bodyPost_ret (v := .tuple #[u, .bool true]) (by simp [results, Tryz.f49, go_sem]) rfl ?_
        rw [← HR.out]
        refine ⟨?_, ?_, ?_⟩
        · rw [HTK, ← HU.out]; rfl
        · rw [HTK]; first | exact HB2.out | (have h := HB2.out; rw [← HN.out] at h; exact h)
        · exact HFR3.out
end Go.Proofs.YtnalppgjbllehaaGreatDoor

/- A width or a precision: printer's number. Condition: as take's. -/
namespace Go.Proofs.YtnalppgjbllehaaGreatDoor
set_option linter.unusedVariables false
set_option linter.unusedSimpArgs false
open Go.RowKit

def pickV (xs : List V) : Option Nat → V
  | none => .nil
  | some i => xs.getD i .nil
structure NumO where
  k : Int
  ok : Bool
  next : Int
  re : Bool
/-- What printer's number says: the number, whether it is one, the next argument's place, whether an index stood there. -/
def numberD (xs : List V) (next : Int) (re : Bool) (p : NumP) (least : Int) : NumO :=
  if p.kind = 1 then ⟨p.n, decide (0 ≤ p.n), next, re⟩
  else if p.kind = 2 then
    let t := takeD xs.length next re p.arg
    let s := smallV (pickV xs t.1)
    ⟨s.1, s.2 && decide (least ≤ s.1), t.2.1, t.2.2⟩
  else ⟨0, false, next, re⟩
theorem takeD_lt (n : Nat) (next : Int) (re : Bool) (x : IdxD) (h : 0 ≤ next) (hx : GoodI x) (i : Nat) (hi : (takeD n next re x).1 = some i) : i < n := by
  unfold takeD at hi
  split at hi
  · split at hi
    · cases hi
    · injection hi with hi; omega
  · split at hi
    · cases hi
    · rename_i h1 h2
      have h3 : ¬ (n : Int) ≤ x.n - 1 := fun h => h2 (.inr h)
      injection hi with hi
      rcases hx with h | h | h
      · exact absurd h h1
      · exact absurd (.inl h.1) h2
      · omega
theorem pick_isV {WB : World} {sb : Nat} {av : Value} {us : List Value} {xs : List V} (h : ArgsW WB sb av us xs) {w : World} (hk : ∀ k, k < WB.heap.size → k ≠ sb → w.heap[k]? = WB.heap[k]?) (o : Option Nat) (ho : ∀ i, o = some i → i < us.length) :
    IsV w (pickU us o) (pickV xs o) := by
  cases o with
  | none => exact .nil0
  | some i =>
    have hi := ho i rfl
    have hi2 : i < xs.length := by rw [h.len]; exact hi
    show IsV w (us.getD i .nilIface) (xs.getD i .nil)
    rw [List.getD_eq_getElem?_getD, List.getElem?_eq_getElem hi, List.getD_eq_getElem?_getD, List.getElem?_eq_getElem hi2]
    exact h.isV hk hi hi2
def NumberPost (WB : World) (sb : Nat) (out : ByteArray) (bv : Value) (depth : Int) (tab av : Value) (r : NumO) (w : World) (e : Ending) (w' : World) : Prop :=
  e = .returned (.tuple #[.int .i64 r.k, .bool r.ok]) ∧ StW WB sb out bv depth tab av r.next r.re w' ∧ Fr sb bv w w'
set_option maxHeartbeats 4000000 in
set_option maxRecDepth 1000000 in
theorem number_any' {WB : World} {sb : Nat} {out : ByteArray} {bv : Value} {depth : Int} {tab av : Value} {us : List Value} {xs : List V} {next : Int} {re : Bool} {w : World} (p : NumP) (least : Int)
    (hs : StW WB sb out bv depth tab av next re w) (ha : ArgsW WB sb av us xs) (hx : GoodI p.arg) (h0 : 0 ≤ next) (h1 : next ≤ 1000000000) :
    Calls Tryz.prog 45 #[.pointer (some ⟨sb, 0, none⟩), .agg #[.int .i64 p.kind, .int .i64 p.n, .int .i64 p.arg.kind, .int .i64 p.arg.n], .int .i64 least] w (NumberPost WB sb out bv depth tab av (numberD xs next re p least) w) := by
  have HA := Lib.hid ha
  have HX := Lib.hid hx
  obtain ⟨pk, pn, ⟨ak, an⟩⟩ := p
  have HB := Lib.hid (hs.later (Below.new (w := w) (.cells #[.int .i64 pk, .int .i64 pn, .int .i64 ak, .int .i64 an] 65)))
  have HFR0 := Lib.hid ((Fr.refl sb bv w).below (Below.new (w := w) (.cells #[.int .i64 pk, .int .i64 pn, .int .i64 ak, .int .i64 an] 65)))
  have b0 : (w.alloc (.cells #[.int .i64 pk, .int .i64 pn, .int .i64 ak, .int .i64 an] 65)).cell? ⟨w.heap.size, 0, none⟩ = some (.int .i64 pk) := cell_of_heap' (heap_alloc_new w _) 0
  have b1 : (w.alloc (.cells #[.int .i64 pk, .int .i64 pn, .int .i64 ak, .int .i64 an] 65)).cell? ⟨w.heap.size, 1, none⟩ = some (.int .i64 pn) := cell_of_heap' (heap_alloc_new w _) 1
  have b2 : (w.alloc (.cells #[.int .i64 pk, .int .i64 pn, .int .i64 ak, .int .i64 an] 65)).cell? ⟨w.heap.size, 2, none⟩ = some (.int .i64 ak) := cell_of_heap' (heap_alloc_new w _) 2
  have b3 : (w.alloc (.cells #[.int .i64 pk, .int .i64 pn, .int .i64 ak, .int .i64 an] 65)).cell? ⟨w.heap.size, 3, none⟩ = some (.int .i64 an) := cell_of_heap' (heap_alloc_new w _) 3
  obtain ⟨r, hrr⟩ : ∃ r, numberD xs next re ⟨pk, pn, ⟨ak, an⟩⟩ least = r := ⟨_, rfl⟩
  rw [hrr]
  have HR := Lib.hid hrr
  clear hrr hs ha hx
  go_enter Tryz.func45, Tryz.ntmps45
  go_upto_region 1 with fail
  obtain ⟨xb, hxb⟩ : ∃ b, w.heap.size = b := ⟨_, rfl⟩
  rw [hxb] at b0 b1 b2 b3 ⊢
  clear hxb
  generalize w.alloc (.cells #[.int .i64 pk, .int .i64 pn, .int .i64 ak, .int .i64 an] 65) = W1 at HB HFR0 b0 b1 b2 b3 ⊢
  by_cases hk1 : pk = 1
  · subst hk1
    by_cases hp : 0 ≤ pn
    · have HTK : numberD xs next re ⟨1, pn, ⟨ak, an⟩⟩ least = ⟨pn, true, next, re⟩ := by unfold numberD; rw [if_pos rfl]; show NumO.mk pn (decide (0 ≤ pn)) next re = _; rw [decide_eq_true hp]
      go_upto_region 3 with fail
      go_region
      go_wp2_with fail
      refine bodyPost_ret (v := .tuple #[.int .i64 pn, .bool true]) (by simp [results, Tryz.f45, go_sem]) rfl ?_
      rw [← HR.out, HTK]
      exact ⟨rfl, HB.out.later (Below.refl _ _).drew, HFR0.out.below (Below.refl _ _).drew⟩
    · have HTK : numberD xs next re ⟨1, pn, ⟨ak, an⟩⟩ least = ⟨pn, false, next, re⟩ := by unfold numberD; rw [if_pos rfl]; show NumO.mk pn (decide (0 ≤ pn)) next re = _; rw [decide_eq_false hp]
      go_upto_region 3 with fail
      go_region
      go_wp2_with fail
      refine bodyPost_ret (v := .tuple #[.int .i64 pn, .bool false]) (by simp [results, Tryz.f45, go_sem]) rfl ?_
      rw [← HR.out, HTK]
      exact ⟨rfl, HB.out.later (Below.refl _ _).drew, HFR0.out.below (Below.refl _ _).drew⟩
  · have e1 : (pk == 1) = false := by simpa using hk1
    by_cases hk2 : pk = 2
    · subst hk2
      obtain ⟨tk, htk⟩ : ∃ y, takeD us.length next re ⟨ak, an⟩ = y := ⟨_, rfl⟩
      have HTKE := Lib.hid htk
      have HTA := Lib.hid (take_any (w := W1) ⟨ak, an⟩ HB.out HA.out HX.out h0 h1)
      have hti : ∀ i, tk.1 = some i → i < us.length := fun i hi => takeD_lt us.length next re ⟨ak, an⟩ h0 HX.out i (by rw [HTKE.out]; exact hi)
      rw [htk] at HTA
      obtain ⟨s, hse⟩ : ∃ y, smallV (pickV xs tk.1) = y := ⟨_, rfl⟩
      have HTK : Hid (numberD xs next re ⟨2, pn, ⟨ak, an⟩⟩ least = ⟨s.1, s.2 && decide (least ≤ s.1), tk.2.1, tk.2.2⟩) := by
        show _ = _
        unfold numberD
        rw [if_neg (show ¬ ((2 : Int) = 1) by decide), if_pos (show (2 : Int) = 2 from rfl), HA.out.len, htk]
        show NumO.mk (smallV (pickV xs tk.1)).1 _ _ _ = _
        rw [hse]
      clear htk
      go_upto_region 5 with fail
      go_wp2_with fail
      refine HTA.out.mono ?_
      rintro e W2 ⟨rfl, hW2, hF2⟩
      have HFR2 := Lib.hid (HFR0.out.trans hF2)
      clear hF2
      have HB2 := Lib.hid hW2
      have HSM := Lib.hid (small_any (pick_isV HA.out hW2.keep tk.1 hti))
      rw [hse] at HSM
      obtain ⟨u, hu⟩ : ∃ y, pickU us tk.1 = y := ⟨_, rfl⟩
      rw [hu] at HSM ⊢
      clear hu hse hW2 HTA b0 b1 b2 b3
      go_wp2_with fail
      refine HSM.out.mono ?_
      rintro e W3 ⟨rfl, hW3⟩
      have HB3 := Lib.hid (HB2.out.later hW3)
      have HFR3 := Lib.hid (HFR2.out.below hW3)
      clear hW3 HSM HB HB2
      obtain ⟨k, ok⟩ := s
      cases ok with
      | false =>
        go_wp2_with fail
        refine bodyPost_ret (v := .tuple #[.int .i64 k, .bool false]) (by simp [results, Tryz.f45, go_sem]) rfl ?_
        rw [← HR.out, HTK.out]
        exact ⟨rfl, HB3.out, HFR3.out⟩
      | true =>
        by_cases hl : least ≤ k
        · go_wp2_with fail
          refine bodyPost_ret (v := .tuple #[.int .i64 k, .bool true]) (by simp [results, Tryz.f45, go_sem]) rfl ?_
          rw [← HR.out, HTK.out]
          exact ⟨by rw [decide_eq_true hl]; rfl, HB3.out, HFR3.out⟩
        · have hl2 : k < least := by omega
          go_wp2_with fail
          refine bodyPost_ret (v := .tuple #[.int .i64 k, .bool false]) (by simp [results, Tryz.f45, go_sem, hl2]) rfl ?_
          rw [← HR.out, HTK.out]
          exact ⟨by rw [decide_eq_false (show ¬ least ≤ k by omega)]; rfl, HB3.out, HFR3.out⟩
    · have e2 : (pk == 2) = false := by simpa using hk2
      have HTK : numberD xs next re ⟨pk, pn, ⟨ak, an⟩⟩ least = ⟨0, false, next, re⟩ := by unfold numberD; rw [if_neg hk1, if_neg hk2]
      go_wp2_with fail
      refine bodyPost_ret (v := .tuple #[.int .i64 0, .bool false]) (by simp [results, Tryz.f45, go_sem]) rfl ?_
      rw [← HR.out, HTK]
      exact ⟨rfl, HB.out, HFR0.out⟩
end Go.Proofs.YtnalppgjbllehaaGreatDoor
