/- A value is shown by what its hook says: tree's value and Show. Condition: the hook answers. -/
import Derived.Test.YtnalppgjbllehaaGreatDoorE01
import Derived.Test.YtnalppgjbllehaaGreatDoorL48
import Derived.Great.BuildSlice
namespace Go.Proofs.YtnalppgjbllehaaGreatDoor
set_option linter.unusedVariables false
set_option linter.unusedSimpArgs false
open Go.RowKit

set_option maxHeartbeats 4000000 in
set_option maxRecDepth 1000000 in
theorem value_hook {WB : World} {sb : Nat} {out : ByteArray} {bv : Value} {depth : Int} {tab av : Value} {next : Int} {re : Bool} {w : World} (f : SpecD) (t : TypeId) (y : Value) (r : ByteArray) (ht : t ≠ 129)
    (hst : StW WB sb out bv depth tab av next re w)
    (hask : ∀ W, StW WB sb out bv depth tab av next re W → Calls Tryz.prog 27 #[.pointer (some ⟨sb, 0, none⟩), .iface t y, .agg #[.bool f.plus, .bool f.minus, .bool f.sharp, .bool f.space, .bool f.zero, .int .i64 f.wid, .int .i64 f.prec, .int .i32 f.verb]] W (Ret W (.tuple #[.string r, .bool true]))) :
    Calls Tryz.prog 53 #[.agg #[.bool f.plus, .bool f.minus, .bool f.sharp, .bool f.space, .bool f.zero, .int .i64 f.wid, .int .i64 f.prec, .int .i32 f.verb, .func (.func 27) #[.pointer (some ⟨sb, 0, none⟩)] #[]], .iface t y, .int .i64 0] w (Ret w (.string r)) := by
  have HST := Lib.hid (hst.later (Below.new (w := w) (.cells #[.bool f.plus, .bool f.minus, .bool f.sharp, .bool f.space, .bool f.zero, .int .i64 f.wid, .int .i64 f.prec, .int .i32 f.verb, .func (.func 27) #[.pointer (some ⟨sb, 0, none⟩)] #[]] 113)))
  have HB0 := Lib.hid (Below.new (w := w) (.cells #[.bool f.plus, .bool f.minus, .bool f.sharp, .bool f.space, .bool f.zero, .int .i64 f.wid, .int .i64 f.prec, .int .i32 f.verb, .func (.func 27) #[.pointer (some ⟨sb, 0, none⟩)] #[]] 113))
  have HW : Hid ((w.alloc (.cells #[.bool f.plus, .bool f.minus, .bool f.sharp, .bool f.space, .bool f.zero, .int .i64 f.wid, .int .i64 f.prec, .int .i32 f.verb, .func (.func 27) #[.pointer (some ⟨sb, 0, none⟩)] #[]] 113)).heap[w.heap.size]? = some (.cells #[.bool f.plus, .bool f.minus, .bool f.sharp, .bool f.space, .bool f.zero, .int .i64 f.wid, .int .i64 f.prec, .int .i32 f.verb, .func (.func 27) #[.pointer (some ⟨sb, 0, none⟩)] #[]] 113 (0, 0))) := Lib.hid (heap_alloc_new w _)
  have HASK := Lib.hid hask
  have HNIL := Lib.hid (isNil_no t y ht)
  clear hst hask ht
  go_enter Tryz.func53, Tryz.ntmps53
  go_upto_region 1 with fail
  generalize w.alloc (.cells #[.bool f.plus, .bool f.minus, .bool f.sharp, .bool f.space, .bool f.zero, .int .i64 f.wid, .int .i64 f.prec, .int .i32 f.verb, .func (.func 27) #[.pointer (some ⟨sb, 0, none⟩)] #[]] 113) = W1 at HST HB0 HW ⊢
  have c0 : W1.cell? ⟨w.heap.size, 0, none⟩ = some (.bool f.plus) := cell_of_heap' HW.out 0
  have c1 : W1.cell? ⟨w.heap.size, 1, none⟩ = some (.bool f.minus) := cell_of_heap' HW.out 1
  have c2 : W1.cell? ⟨w.heap.size, 2, none⟩ = some (.bool f.sharp) := cell_of_heap' HW.out 2
  have c3 : W1.cell? ⟨w.heap.size, 3, none⟩ = some (.bool f.space) := cell_of_heap' HW.out 3
  have c4 : W1.cell? ⟨w.heap.size, 4, none⟩ = some (.bool f.zero) := cell_of_heap' HW.out 4
  have c5 : W1.cell? ⟨w.heap.size, 5, none⟩ = some (.int .i64 f.wid) := cell_of_heap' HW.out 5
  have c6 : W1.cell? ⟨w.heap.size, 6, none⟩ = some (.int .i64 f.prec) := cell_of_heap' HW.out 6
  have c7 : W1.cell? ⟨w.heap.size, 7, none⟩ = some (.int .i32 f.verb) := cell_of_heap' HW.out 7
  have c8 : W1.cell? ⟨w.heap.size, 8, none⟩ = some (.func (.func 27) #[.pointer (some ⟨sb, 0, none⟩)] #[]) := cell_of_heap' HW.out 8
  have hrun : ∀ W, Sem.run Tryz.prog (binOp BinOp.neq 72 (.func (.func 27) #[.pointer (some ⟨sb, 0, none⟩)] #[]) Value.nilFunc) W = .ok (.bool true) W := fun W => by kernel_rfl
  go_wp2_with fail
  refine (HNIL.out W1).mono ?_
  rintro e w2 ⟨rfl, rfl⟩
  go_wp2_with fail
  refine (HASK.out W1 HST.out).mono ?_
  rintro e W2 ⟨rfl, hb2⟩
  have HB2 := Lib.hid (HB0.out.next hb2)
  clear hb2 HST HB0 HW HASK hrun c0 c1 c2 c3 c4 c5 c6 c7 c8
  go_wp2_with fail
  go_ret
  exact ⟨rfl, HB2.out⟩
set_option maxHeartbeats 4000000 in
set_option maxRecDepth 1000000 in
theorem show_hook {WB : World} {sb : Nat} {out : ByteArray} {bv : Value} {depth : Int} {tab av : Value} {next : Int} {re : Bool} {w : World} (f : SpecD) (t : TypeId) (y : Value) (r : ByteArray) (ht : t ≠ 129) (hv : f.verb ≠ 84)
    (hst : StW WB sb out bv depth tab av next re w)
    (hask : ∀ W, StW WB sb out bv depth tab av next re W → Calls Tryz.prog 27 #[.pointer (some ⟨sb, 0, none⟩), .iface t y, .agg #[.bool f.plus, .bool f.minus, .bool f.sharp, .bool f.space, .bool f.zero, .int .i64 f.wid, .int .i64 f.prec, .int .i32 f.verb]] W (Ret W (.tuple #[.string r, .bool true]))) :
    Calls Tryz.prog 25 #[.iface t y, .agg #[.bool f.plus, .bool f.minus, .bool f.sharp, .bool f.space, .bool f.zero, .int .i64 f.wid, .int .i64 f.prec, .int .i32 f.verb], .func (.func 27) #[.pointer (some ⟨sb, 0, none⟩)] #[]] w (Ret w (.string r)) := by
  have HST := Lib.hid (hst.later (Below.new (w := w) (.cells #[.bool f.plus, .bool f.minus, .bool f.sharp, .bool f.space, .bool f.zero, .int .i64 f.wid, .int .i64 f.prec, .int .i32 f.verb] 61)))
  have HB0 := Lib.hid (Below.new (w := w) (.cells #[.bool f.plus, .bool f.minus, .bool f.sharp, .bool f.space, .bool f.zero, .int .i64 f.wid, .int .i64 f.prec, .int .i32 f.verb] 61))
  have HVAL := Lib.hid (fun W hW => value_hook (w := W) f t y r ht hW hask)
  have hv' : (f.verb == 84) = false := by simpa using hv
  clear hst hask ht hv
  go_enter Tryz.func25, Tryz.ntmps25
  go_wp2_with fail
  refine (HVAL.out _ HST.out).mono ?_
  rintro e W2 ⟨rfl, hb2⟩
  have HB2 := Lib.hid (HB0.out.next hb2)
  clear hb2
  go_wp2_with fail
  go_ret
  exact ⟨rfl, HB2.out⟩
end Go.Proofs.YtnalppgjbllehaaGreatDoor

/- What prints within prints come to (plain): a format of a text, a value in angles. No condition but the texts' sizes. -/
namespace Go.Proofs.YtnalppgjbllehaaGreatDoor
set_option linter.unusedVariables false
set_option linter.unusedSimpArgs false
set_option maxRecDepth 1000000
open Go.RowKit

/-- An Int with the first hook. -/
def hkD : D := .mk 6 ⟨#[]⟩ 0 0 ⟨#[]⟩ [] [] 1
def hkV : V := .leaf (.int ⟨6, ⟨#[]⟩, 1⟩ 0)
theorem build_hk : buildV hkD = hkV := by kernel_rfl
def specV : SpecD := { plus := false, minus := false, sharp := false, space := false, zero := false, wid := -1, prec := -1, verb := 118 }
def pieceV : PieceD := (dirD ⟨#[118]⟩).piece
theorem parse_v : parseD ⟨#[37, 118]⟩ = [pieceV] := by kernel_rfl
/-- The value in angles. -/
def tailV : ByteArray := ⟨#[37, 118, 62]⟩
theorem parse_tail (n : Nat) : parseF (n + 3) tailV = [pieceV, { pieceZ with text := ⟨#[62]⟩ }] := by kernel_rfl
def wrapB (lit q : ByteArray) : ByteArray := lit ++ (⟨#[60]⟩ ++ (q ++ ⟨#[62]⟩))
theorem step_v (sh : V → SpecD → Option ByteArray) (o q : ByteArray) (h : sh hkV specV = some q) : stepP sh [hkV] pieceV ⟨o, 0, false⟩ = some ⟨o ++ q, 1, false⟩ := by
  have e : stepP sh [hkV] pieceV ⟨o, 0, false⟩ = (sh hkV specV).map fun q => (⟨o ++ q, 1, false⟩ : PrS) := by kernel_rfl
  rw [e, h]
  rfl
theorem at_v (sh : V → SpecD → Option ByteArray) (q : ByteArray) (h : sh hkV specV = some q) : atP sh (([hkD].take 16).map buildV) ⟨#[37, 118]⟩ = some (outT q) := by
  have e : ([hkD].take 16).map buildV = [hkV] := by kernel_rfl
  unfold atP formatP
  rw [e, parse_v, runP, step_v sh _ q h]
  show Option.map (fun s : PrS => outT s.out) (some ⟨⟨#[]⟩ ++ q, 1, false⟩) = _
  rw [empty_append]
  rfl
end Go.Proofs.YtnalppgjbllehaaGreatDoor

/- The format of a hook that prints its value in angles (plain). Condition: a text without a percent sign. -/
namespace Go.Proofs.YtnalppgjbllehaaGreatDoor
set_option linter.unusedVariables false
set_option linter.unusedSimpArgs false
set_option maxRecDepth 1000000
open Go.RowKit

def tail4 : ByteArray := ⟨#[60, 37, 118, 62]⟩
theorem size_tail4 : tail4.size = 4 := rfl
theorem list_app (a b : ByteArray) : (a ++ b).data.toList = a.data.toList ++ b.data.toList := by rw [ByteArray.data_append, Array.toList_append]
theorem ext_list {a b : ByteArray} (h : a.data.toList = b.data.toList) : a = b := by
  apply ByteArray.ext
  exact Array.toList_inj.1 h
theorem extract_list (a : ByteArray) (i j : Nat) : (a.extract i j).data.toList = (a.data.toList.take j).drop i := by
  rw [ByteArray.data_extract, Array.toList_extract, List.extract_eq_take_drop, List.take_drop]
  by_cases h : i ≤ j
  · rw [show i + (j - i) = j by omega]
  · rw [List.drop_eq_nil_of_le (by rw [List.length_take]; omega), List.drop_eq_nil_of_le (by rw [List.length_take]; omega)]
theorem len_list (a : ByteArray) : a.data.toList.length = a.size := by rw [Array.length_toList]; rfl
theorem cutP_tail {lit : ByteArray} (h : NoP lit) : cutP (lit ++ tail4) = lit.size + 1 := by
  have hl : (lit ++ tail4).data.toList = lit.data.toList ++ [60, 37, 118, 62] := list_app lit tail4
  have hn := len_list lit
  have hat : (lit ++ tail4).data.toList[lit.size + 1]? = some 37 := by
    rw [hl, List.getElem?_append_right (by omega), hn]
    rw [show lit.size + 1 - lit.size = 1 by omega]
    rfl
  have hbefore : ∀ k, k < lit.size + 1 → (lit ++ tail4).data.toList[k]? ≠ some 37 := by
    intro k hk he
    rw [hl] at he
    by_cases h1 : k < lit.size
    · rw [List.getElem?_append_left (by omega)] at he
      exact h (List.mem_of_getElem? he)
    · rw [List.getElem?_append_right (by omega), hn, show k - lit.size = 0 by omega] at he
      cases he
  unfold cutP
  by_cases hq : Lib.indexByte (lit ++ tail4).data.toList 37 < 0
  · exfalso
    have h1 := Lib.indexByte_ge (lit ++ tail4).data.toList 37
    exact Lib.indexByte_none (by omega) _ hat
  · rw [if_neg hq]
    have h2 : Lib.indexByte (lit ++ tail4).data.toList 37 = ((Lib.indexByte (lit ++ tail4).data.toList 37).toNat : Int) := by omega
    obtain ⟨h3, h4⟩ := Lib.indexByte_some h2
    generalize (Lib.indexByte (lit ++ tail4).data.toList 37).toNat = i at h3 h4
    rcases Nat.lt_trichotomy i (lit.size + 1) with h5 | h5 | h5
    · exact absurd h3 (hbefore i h5)
    · exact h5
    · exact absurd hat (h4 _ h5)
theorem parse_deep {lit : ByteArray} (h : NoP lit) : parseD (lit ++ tail4) = [{ pieceZ with text := lit ++ ⟨#[60]⟩ }, pieceV, { pieceZ with text := ⟨#[62]⟩ }] := by
  have hz : (lit ++ tail4).size = lit.size + 4 := by rw [ByteArray.size_append, size_tail4]
  have hn := len_list lit
  have e1 : (lit ++ tail4).extract 0 (lit.size + 1) = lit ++ ⟨#[60]⟩ := by
    apply ext_list
    rw [extract_list, list_app, list_app, List.drop_zero, List.take_append, hn, List.take_of_length_le (by omega)]
    rw [show lit.size + 1 - lit.size = 1 by omega]
    rfl
  have e2 : (lit ++ tail4).extract (lit.size + 1) (lit ++ tail4).size = tailV := by
    apply ext_list
    rw [extract_list, List.take_of_length_le (by rw [len_list]; exact Nat.le_refl _), list_app, List.drop_append, hn, List.drop_eq_nil_of_le (by omega)]
    rw [show lit.size + 1 - lit.size = 1 by omega]
    rfl
  unfold parseD
  rw [hz, show lit.size + 4 = (lit.size + 3) + 1 by rfl, parseF, if_neg (by omega), if_pos (by rw [cutP_tail h]; omega), cutP_tail h, e1, e2, parse_tail]
theorem at_deep {lit : ByteArray} (h : NoP lit) (sh : V → SpecD → Option ByteArray) (q : ByteArray) (hq : sh hkV specV = some q) : atP sh (([hkD].take 16).map buildV) (lit ++ tail4) = some (outT (wrapB lit q)) := by
  have e : ([hkD].take 16).map buildV = [hkV] := by kernel_rfl
  unfold atP formatP
  rw [e, parse_deep h]
  have e1 : stepP sh [hkV] { pieceZ with text := lit ++ ⟨#[60]⟩ } ⟨⟨#[]⟩, 0, false⟩ = some ⟨lit ++ ⟨#[60]⟩, 0, false⟩ := by
    show some (PrS.mk (⟨#[]⟩ ++ (lit ++ ⟨#[60]⟩)) 0 false) = _
    rw [empty_append]
  rw [runP, e1, Option.bind_some, runP, step_v sh _ q hq, Option.bind_some]
  show Option.map (fun s : PrS => outT s.out) (some ⟨((lit ++ ⟨#[60]⟩) ++ q) ++ ⟨#[62]⟩, 1, false⟩) = _
  have e2 : ((lit ++ ⟨#[60]⟩) ++ q) ++ ⟨#[62]⟩ = wrapB lit q := by
    unfold wrapB
    apply ext_list
    simp only [list_app, List.append_assoc]
  rw [e2]
  rfl
/-- What a print of the hook's format is at so many levels from the deepest. -/
def deepB (lit : ByteArray) : Nat → ByteArray
  | 0 => badDepthB
  | n + 1 => wrapB lit (deepB lit n)
theorem wrap_size (lit q : ByteArray) : (wrapB lit q).size = lit.size + q.size + 2 := by
  unfold wrapB
  rw [ByteArray.size_append, ByteArray.size_append, ByteArray.size_append]
  show lit.size + (1 + (q.size + 1)) = _
  omega
theorem deep_size (lit : ByteArray) : ∀ n, (deepB lit n).size = n * (lit.size + 2) + badDepthB.size
  | 0 => by rw [Nat.zero_mul, Nat.zero_add]; rfl
  | n + 1 => by rw [deepB, wrap_size, deep_size lit n, Nat.succ_mul]; omega
theorem out_small {t : ByteArray} (h : t.size ≤ 4096) : outT t = t := by
  unfold outT
  rw [if_neg (by omega)]
end Go.Proofs.YtnalppgjbllehaaGreatDoor

/- Prints within prints: printer's At where the table has one hook that prints its value in angles again. Condition: the text is short and without a percent sign; the table and the argument lie in memory. -/
namespace Go.Proofs.YtnalppgjbllehaaGreatDoor
set_option linter.unusedVariables false
set_option linter.unusedSimpArgs false
open Go.RowKit

def actNone : ActD := ⟨0, ⟨#[]⟩, ⟨#[]⟩, none, 0, 0, 0, ⟨#[]⟩, 0, 0, ⟨#[]⟩, none, 0, 0, none, 0, 0, 0⟩
/-- It prints a format with one argument. -/
def actPrints (t : ByteArray) (pb : Nat) : ActD := ⟨3, ⟨#[]⟩, t, some ⟨pb, 0, none⟩, 1, 1, 0, ⟨#[]⟩, 0, 0, ⟨#[]⟩, none, 0, 0, none, 0, 0, 0⟩
def hookDeep (t : ByteArray) (pb : Nat) : HookD := ⟨actNone, actNone, actNone, actPrints t pb⟩
theorem parts_of_block {W : World} {pb : Nat} (ds : List D) (hn : ds.length ≤ 16) (h : ∀ d ∈ ds, (∀ W, IsD W (aggD d none 0 none 0) d) ∧ d.names = [] ∧ d.parts = [])
    (hb : W.heap[pb]? = some (.cells (flatDs ds).toArray 29 (0, 0))) : PartsAt W (some ⟨pb, 0, none⟩) ds.length ds := by
  refine ⟨Nat.le_refl _, by unfold cap47; omega, pb, 0, fun _ => rfl, fun i hi => ?_⟩
  obtain ⟨h1, h2, h3⟩ := h ds[i] (List.getElem_mem hi)
  have hc : ∀ j, j < 8 → W.cell? ⟨pb, 0 + i * 8 + j, none⟩ = (cells8 ds[i])[j]? := fun j hj => by
    rw [cell_of_heap' hb, List.getElem?_toArray, Nat.zero_add, flatDs_get ds i hi j hj]
  have hr : RowD W pb (0 + i * 8) ds[i] none 0 none 0 :=
    ⟨hc 0 (by omega), hc 1 (by omega), hc 2 (by omega), hc 3 (by omega), hc 4 (by omega), by rw [h2]; exact hc 5 (by omega), by rw [h3]; exact hc 6 (by omega), hc 7 (by omega)⟩
  rw [hr.eq]
  exact h1 _
theorem isD_hk (W : World) : IsD W (aggD hkD none 0 none 0) hkD :=
  .mk _ none 0 none 0 0 0 (show I64 6 from ⟨by decide, by decide⟩) (show U64 0 from ⟨by decide, by decide⟩) (show U64 0 from ⟨by decide, by decide⟩) (show I64 1 from ⟨by decide, by decide⟩) (Nat.zero_le _) (Nat.zero_le _) ⟨Nat.le_refl _, Nat.zero_le _, 0, 0, fun h => absurd h (Nat.not_lt_zero _), fun i h => absurd h (Nat.not_lt_zero _), fun x h => by cases h⟩ (Nat.le_refl _) (Nat.zero_le _) (fun h => absurd h (Nat.not_lt_zero _)) (fun i h => absurd h (Nat.not_lt_zero _))
structure DeepW (t : ByteArray) (tb pb : Nat) (W : World) : Prop where
  tab : W.heap[tb]? = some (.cells (hookC (hookDeep t pb)) 33 (0, 0))
  args : W.heap[pb]? = some (.cells (flatDs [hkD]).toArray 29 (0, 0))
  tabs : Lib.Utf8Tabs 1 2 W
theorem DeepW.later {t : ByteArray} {tb pb : Nat} {W W' : World} (hb : Below W.heap.size W W') (h : DeepW t tb pb W) : DeepW t tb pb W' :=
  ⟨(hb.block _ (lt_of_some h.tab)).trans h.tab, (hb.block _ (lt_of_some h.args)).trans h.args, Utf8Tabs.below h.tabs (Utf8Tabs.two h.tabs) hb⟩
/-- What Show says of a value with the hook, by v. -/
def shD (q : ByteArray) (x : V) (f : SpecD) : Option ByteArray :=
  match x with
  | .leaf l => if l.base.hook = 1 ∧ f.verb = 118 ∧ f.sharp = false ∧ (padB (cutB q f.prec) f).size ≤ 1000000000 then some (padB (cutB q f.prec) f) else none
  | _ => none
theorem pad_spec (q : ByteArray) : padB (cutB q specV.prec) specV = q := by
  have e : cutB q specV.prec = q := by unfold cutB; rw [if_pos (by decide)]
  rw [e]
  unfold padB
  rw [if_pos (by unfold padN; show max 0 (min (-1 : Int) 1000) - _ ≤ 0; omega)]
theorem shD_is (q : ByteArray) (h : q.size ≤ 1000000000) : shD q hkV specV = some q := by
  show (if (1 : Int) = 1 ∧ (118 : Int) = 118 ∧ false = false ∧ (padB (cutB q specV.prec) specV).size ≤ 1000000000 then some (padB (cutB q specV.prec) specV) else none) = _
  rw [pad_spec, if_pos ⟨rfl, rfl, rfl, h⟩]
theorem shD_H {w : World} {t : ByteArray} {tb pb : Nat} (hd : DeepW t tb pb w) (depth : Int) (h0 : 0 ≤ depth) (h3 : depth ≤ 3) (q : ByteArray) (hq : q.size ≤ 1000000000)
    (hat : ∀ W, DeepW t tb pb W → Calls Tryz.prog 8 #[.int .i64 (depth + 1), .slice (some ⟨tb, 0, none⟩) 1 1, .string t, .slice (some ⟨pb, 0, none⟩) 1 1] W (Ret W (.string q)))
    (WB : World) (av : Value) (hb : Below w.heap.size w WB) : ShowH WB w.heap.size depth (.slice (some ⟨tb, 0, none⟩) 1 1) av (shD q) := by
  refine ⟨fun {out bv next re W v x f s} hst hv hf hs => ?_, fun {x f s} hs => ?_⟩
  · cases x with
    | nil => cases hs
    | great => cases hs
    | leaf l =>
      have hvl : v = l.val := by cases hv; rfl
      subst hvl
      have hs2 : (if l.base.hook = 1 ∧ f.verb = 118 ∧ f.sharp = false ∧ (padB (cutB q f.prec) f).size ≤ 1000000000 then some (padB (cutB q f.prec) f) else none) = some s := hs
      by_cases hc : l.base.hook = 1 ∧ f.verb = 118 ∧ f.sharp = false ∧ (padB (cutB q f.prec) f).size ≤ 1000000000
      · rw [if_pos hc] at hs2
        obtain rfl := Option.some.inj hs2
        have hdW : ∀ W', StW WB w.heap.size out bv depth (.slice (some ⟨tb, 0, none⟩) 1 1) av next re W' → DeepW t tb pb W' := fun W' h => hd.later (h.back hb rfl)
        have hask : ∀ W', StW WB w.heap.size out bv depth (.slice (some ⟨tb, 0, none⟩) 1 1) av next re W' → Calls Tryz.prog 27 #[.pointer (some ⟨w.heap.size, 0, none⟩), l.val, .agg (specCells f)] W' (Ret W' (.tuple #[.string (padB (cutB q f.prec) f), .bool true])) := fun W' hW' => by
          refine ask_hook l f tb 1 (hookDeep t pb) _ hW' (hdW W' hW').tab (Nat.le_refl _) hc.1 fun W2 hW2 => ?_
          refine say_string (hookDeep t pb) f false w.heap.size q W2 rfl rfl rfl hc.2.1 hc.2.2.1 hf hq fun W3 hW3 => ?_
          refine run_any (actPrints t pb) w.heap.size (fun W => TX WB w.heap.size out bv depth (.slice (some ⟨tb, 0, none⟩) 1 1) av next re W' W) (fun hb h => TX.next hb h) q W3 (.inr ⟨rfl, fun W4 hW4 => ?_⟩) (hW2.next hW3)
          exact deeper_any t (some ⟨pb, 0, none⟩) 1 1 q hW4.1 h0 h3 fun W5 hW5 => hat W5 ((hdW W4 hW4.1).later hW5)
        cases l with
        | bool b y => exact show_hook f _ _ _ (by decide) (by rw [hc.2.1]; decide) hst hask
        | int b y => exact show_hook f _ _ _ (by decide) (by rw [hc.2.1]; decide) hst hask
        | uint b y => exact show_hook f _ _ _ (by decide) (by rw [hc.2.1]; decide) hst hask
        | float b y z => exact show_hook f _ _ _ (by decide) (by rw [hc.2.1]; decide) hst hask
        | cplx b y z u => exact show_hook f _ _ _ (by decide) (by rw [hc.2.1]; decide) hst hask
        | text b y => exact show_hook f _ _ _ (by decide) (by rw [hc.2.1]; decide) hst hask
        | bytes b y => exact show_hook f _ _ _ (by decide) (by rw [hc.2.1]; decide) hst hask
      · rw [if_neg hc] at hs2
        cases hs2
  · unfold shD at hs
    split at hs
    · split at hs
      · rename_i h
        obtain rfl := Option.some.inj hs
        exact h.2.2.2
      · cases hs
    · cases hs
set_option maxHeartbeats 4000000 in
set_option maxRecDepth 1000000 in
theorem at_over (d : Int) (hd : 3 < d) (tab : Value) (t : ByteArray) (a : Value) (w : World) : Calls Tryz.prog 8 #[.int .i64 d, tab, .string t, a] w (Ret w (.string badDepthB)) := by
  have HBD := Lib.hid (badDepth_any w)
  go_enter Tryz.func8, Tryz.ntmps8
  go_wp2_with fail
  refine HBD.out.mono ?_
  rintro e w2 ⟨rfl, hb⟩
  have HB := Lib.hid hb
  clear hb HBD
  go_wp2_with fail
  go_ret
  exact ⟨rfl, HB.out⟩
theorem ty_hk : TyOk (([hkD].take 16).map buildV) := by
  intro x hx
  have e : ([hkD].take 16).map buildV = [hkV] := by kernel_rfl
  rw [e] at hx
  obtain rfl := List.mem_singleton.1 hx
  exact ⟨⟨(show (0 : Int) ≤ 6 by decide), (show (6 : Int) ≤ 22 by decide)⟩, (show (3 : Nat) ≤ 1000000 by decide)⟩
theorem hk_args {pb : Nat} {W : World} (h : W.heap[pb]? = some (.cells (flatDs [hkD]).toArray 29 (0, 0))) : PartsAt W (some ⟨pb, 0, none⟩) 1 [hkD] :=
  parts_of_block [hkD] (by decide) (fun d hd => by obtain rfl := List.mem_singleton.1 hd; exact ⟨isD_hk, rfl, rfl⟩) h
/-- A print of a depth, where a depth deeper is known. -/
theorem at_step {t : ByteArray} {tb pb : Nat} (d : Int) (hd : d ≤ 3) (q : ByteArray) (hq : q.size ≤ 1000000000)
    (hat : ∀ W, DeepW t tb pb W → Calls Tryz.prog 8 #[.int .i64 (max 0 d + 1), .slice (some ⟨tb, 0, none⟩) 1 1, .string t, .slice (some ⟨pb, 0, none⟩) 1 1] W (Ret W (.string q)))
    (u r : ByteArray) (hu : u.size ≤ 1000000) (hr : atP (shD q) (([hkD].take 16).map buildV) u = some r) (w : World) (hw : DeepW t tb pb w) (qb : Nat) (hqb : w.heap[qb]? = some (.cells (flatDs [hkD]).toArray 29 (0, 0))) :
    Calls Tryz.prog 8 #[.int .i64 d, .slice (some ⟨tb, 0, none⟩) 1 1, .string u, .slice (some ⟨qb, 0, none⟩) 1 1] w (Ret w (.string r)) :=
  at_hook d hd (some ⟨tb, 0, none⟩) 1 1 u [hkD] (some ⟨qb, 0, none⟩) 1 (hk_args hqb) (shD q) (fun WB av hb => shD_H hw (max 0 d) (by omega) (by omega) q hq hat WB av hb) hw.tabs hu ty_hk r hr
theorem deep_small {lit : ByteArray} (hl : lit.size ≤ 200) (n : Nat) (hn : n ≤ 4) : (deepB lit n).size ≤ 4096 := by
  rw [deep_size]
  have e : badDepthB.size = 9 := by kernel_rfl
  rw [e]
  have : n * (lit.size + 2) ≤ 4 * (lit.size + 2) := Nat.mul_le_mul_right _ hn
  omega
theorem deep_at {lit : ByteArray} (hl : lit.size ≤ 200) (hn : NoP lit) {tb pb : Nat} : ∀ (n : Nat) (d : Int), n ≤ 4 → d = 4 - n → ∀ w, DeepW (lit ++ tail4) tb pb w →
    Calls Tryz.prog 8 #[.int .i64 d, .slice (some ⟨tb, 0, none⟩) 1 1, .string (lit ++ tail4), .slice (some ⟨pb, 0, none⟩) 1 1] w (Ret w (.string (deepB lit n)))
  | 0, d, _, hd, w, hw => at_over d (by omega) _ _ _ w
  | n + 1, d, h4, hd, w, hw => by
    have hz : (lit ++ tail4).size = lit.size + 4 := by rw [ByteArray.size_append, size_tail4]
    have hs := deep_small hl n (by omega)
    refine at_step d (by omega) (deepB lit n) (by omega) (fun W hW => deep_at hl hn n (max 0 d + 1) (by omega) (by omega) W hW) (lit ++ tail4) _ (by omega) ?_ w hw pb hw.args
    rw [at_deep hn (shD (deepB lit n)) (deepB lit n) (shD_is _ (by omega)), out_small (show (wrapB lit (deepB lit n)).size ≤ 4096 from deep_small hl (n + 1) h4)]
    rfl
/-- The law's own print. -/
theorem deep_top {lit : ByteArray} (hl : lit.size ≤ 200) (hn : NoP lit) {tb pb : Nat} (d : Int) (hd : d ≤ 3) (w : World) (hw : DeepW (lit ++ tail4) tb pb w) (qb : Nat) (hqb : w.heap[qb]? = some (.cells (flatDs [hkD]).toArray 29 (0, 0))) :
    Calls Tryz.prog 8 #[.int .i64 d, .slice (some ⟨tb, 0, none⟩) 1 1, .string ⟨#[37, 118]⟩, .slice (some ⟨qb, 0, none⟩) 1 1] w (Ret w (.string (deepB lit (3 - (max 0 d).toNat)))) := by
  have hs := deep_small hl (3 - (max 0 d).toNat) (by omega)
  refine at_step d hd (deepB lit (3 - (max 0 d).toNat)) (by omega) (fun W hW => deep_at hl hn (3 - (max 0 d).toNat) (max 0 d + 1) (by omega) (by omega) W hW) ⟨#[37, 118]⟩ _ (by decide) ?_ w hw qb hqb
  rw [at_v (shD _) _ (shD_is _ (by omega)), out_small hs]
end Go.Proofs.YtnalppgjbllehaaGreatDoor

/- The law PrinterDeep is true of any depth and text: the walk. Condition: the tables of utf8; the text's size. -/
namespace Go.Proofs.YtnalppgjbllehaaGreatDoor
set_option linter.unusedVariables false
set_option linter.unusedSimpArgs false
open Go.RowKit

def builtSlice (P : Program) (e : TypeId) (len : Nat) (vals : List (Nat × Value)) : Option (Array Value) :=
  match P.info? e with
  | some ie => match ie.zero with
    | some z => if len * ie.size = 0 ∨ len * ie.size > 2 ^ 24 then none else Instr.fill (fun i => some (i * ie.size, ie.size)) ((Array.range (len * ie.size)).map (z.cells[· % z.cells.size]!)) vals
    | none => none
  | none => none
theorem wpList_buildSlice_is {P : Program} {ops : Array Oper} {rest : List Oper} {o : Oper} {a : Act} {w : World} {Q : Exit → Act → World → Prop} (hg : o.guard = none) (t e : TypeId) (len : Nat) (parts : Array (Nat × Operand)) (ho : o.op = .buildSlice t len parts)
    (vals : List (Nat × Value)) (hv : (parts.toList.map fun (i, x) => (i, a.eval x)) = vals) (cells : Array Value) (hu : P.underlying t = some (.slice e)) (hc : builtSlice P e len vals = some cells)
    (h : wpList P ops Q rest (a.put o.dst (.slice (some ⟨w.heap.size, 0, none⟩) len len)) (w.alloc (.cells cells e))) : wpList P ops Q (o :: rest) a w := by
  unfold builtSlice at hc
  split at hc
  · rename_i ie hie
    split at hc
    · rename_i z hz
      split at hc
      · cases hc
      · rename_i hn
        exact wpList_buildSlice hg t e len parts ho cells ie z hu hie hz (fun h => hn (.inr h)) (fun h => hn (.inl h)) (by rw [Array.toList_map, hv]; exact hc) h
    · cases hc
  · cases hc
theorem index_is' (t : ByteArray) (k : Nat) (W : World) (h : k < t.size) : (Instr.index 9 (.string t) (.int .i64 (k : Int))).run Tryz.prog W = .ok (.int .u8 (t[k].toNat : Int)) W := by
  rw [run_index_string (P := Tryz.prog) W 9 t .i64 _ Tryz.underlying9, dif_pos ⟨by omega, by omega⟩]
  rfl
/-- The table's row, as the law builds it. -/
theorem built_hook (t : ByteArray) (pb : Nat) : Tryz.prog.built 33 [(3, .agg #[.int .i64 3, .string ⟨#[]⟩, .string t, .slice (some ⟨pb, 0, none⟩) 1 1, .int .i64 0, .string ⟨#[]⟩, .int .u64 0, .int .u64 0, .string ⟨#[]⟩, .slice none 0 0, .slice none 0 0, .int .i64 0])] = some (hookC (hookDeep t pb)) := by kernel_rfl
theorem slice_hook (t : ByteArray) (pb : Nat) : builtSlice Tryz.prog 33 1 [(0, .agg (hookC (hookDeep t pb)))] = some (hookC (hookDeep t pb)) := by kernel_rfl
/-- The world that the law makes. -/
theorem deepW_new (t : ByteArray) (wr : World) (hT : Lib.Utf8Tabs 1 2 wr) : DeepW (t ++ tail4) (wr.heap.size + 2) (wr.heap.size + 1) (((wr.alloc (.cells #[.int .i64 6, .string ⟨#[]⟩, .int .u64 0, .int .u64 0, .string ⟨#[]⟩, .slice none 0 0, .slice none 0 0, .int .i64 1] 29)).alloc (.cells #[.int .i64 6, .string ⟨#[]⟩, .int .u64 0, .int .u64 0, .string ⟨#[]⟩, .slice none 0 0, .slice none 0 0, .int .i64 1] 29)).alloc (.cells (hookC (hookDeep (t ++ ⟨#[60, 37, 118, 62]⟩) (wr.heap.size + 1))) 33)) ∧ (((wr.alloc (.cells #[.int .i64 6, .string ⟨#[]⟩, .int .u64 0, .int .u64 0, .string ⟨#[]⟩, .slice none 0 0, .slice none 0 0, .int .i64 1] 29)).alloc (.cells #[.int .i64 6, .string ⟨#[]⟩, .int .u64 0, .int .u64 0, .string ⟨#[]⟩, .slice none 0 0, .slice none 0 0, .int .i64 1] 29)).alloc (.cells (hookC (hookDeep (t ++ ⟨#[60, 37, 118, 62]⟩) (wr.heap.size + 1))) 33)).heap[wr.heap.size]? = some (.cells #[.int .i64 6, .string ⟨#[]⟩, .int .u64 0, .int .u64 0, .string ⟨#[]⟩, .slice none 0 0, .slice none 0 0, .int .i64 1] 29 (0, 0)) ∧ Below wr.heap.size wr (((wr.alloc (.cells #[.int .i64 6, .string ⟨#[]⟩, .int .u64 0, .int .u64 0, .string ⟨#[]⟩, .slice none 0 0, .slice none 0 0, .int .i64 1] 29)).alloc (.cells #[.int .i64 6, .string ⟨#[]⟩, .int .u64 0, .int .u64 0, .string ⟨#[]⟩, .slice none 0 0, .slice none 0 0, .int .i64 1] 29)).alloc (.cells (hookC (hookDeep (t ++ ⟨#[60, 37, 118, 62]⟩) (wr.heap.size + 1))) 33)) := by
  have s1 : (wr.alloc (.cells #[.int .i64 6, .string ⟨#[]⟩, .int .u64 0, .int .u64 0, .string ⟨#[]⟩, .slice none 0 0, .slice none 0 0, .int .i64 1] 29)).heap.size = wr.heap.size + 1 := World.size_alloc _ _
  have s2 : ((wr.alloc (.cells #[.int .i64 6, .string ⟨#[]⟩, .int .u64 0, .int .u64 0, .string ⟨#[]⟩, .slice none 0 0, .slice none 0 0, .int .i64 1] 29)).alloc (.cells #[.int .i64 6, .string ⟨#[]⟩, .int .u64 0, .int .u64 0, .string ⟨#[]⟩, .slice none 0 0, .slice none 0 0, .int .i64 1] 29)).heap.size = wr.heap.size + 2 := by rw [World.size_alloc, s1]
  have hb := ((Below.new (w := wr) (.cells #[.int .i64 6, .string ⟨#[]⟩, .int .u64 0, .int .u64 0, .string ⟨#[]⟩, .slice none 0 0, .slice none 0 0, .int .i64 1] 29)).push (.cells #[.int .i64 6, .string ⟨#[]⟩, .int .u64 0, .int .u64 0, .string ⟨#[]⟩, .slice none 0 0, .slice none 0 0, .int .i64 1] 29)).push (.cells (hookC (hookDeep (t ++ ⟨#[60, 37, 118, 62]⟩) (wr.heap.size + 1))) 33)
  have h0 := heap_alloc_new wr (.cells #[.int .i64 6, .string ⟨#[]⟩, .int .u64 0, .int .u64 0, .string ⟨#[]⟩, .slice none 0 0, .slice none 0 0, .int .i64 1] 29)
  have h1 := heap_alloc_new (wr.alloc (.cells #[.int .i64 6, .string ⟨#[]⟩, .int .u64 0, .int .u64 0, .string ⟨#[]⟩, .slice none 0 0, .slice none 0 0, .int .i64 1] 29)) (.cells #[.int .i64 6, .string ⟨#[]⟩, .int .u64 0, .int .u64 0, .string ⟨#[]⟩, .slice none 0 0, .slice none 0 0, .int .i64 1] 29)
  have h2 := heap_alloc_new ((wr.alloc (.cells #[.int .i64 6, .string ⟨#[]⟩, .int .u64 0, .int .u64 0, .string ⟨#[]⟩, .slice none 0 0, .slice none 0 0, .int .i64 1] 29)).alloc (.cells #[.int .i64 6, .string ⟨#[]⟩, .int .u64 0, .int .u64 0, .string ⟨#[]⟩, .slice none 0 0, .slice none 0 0, .int .i64 1] 29)) (.cells (hookC (hookDeep (t ++ ⟨#[60, 37, 118, 62]⟩) (wr.heap.size + 1))) 33)
  rw [s1] at h1
  rw [s2] at h2
  refine ⟨⟨h2, ?_, Utf8Tabs.below hT (Utf8Tabs.two hT) hb⟩, ?_, hb⟩
  · exact ((Below.new _).block _ (by rw [s2]; omega)).trans h1
  · exact ((Below.new _).block _ (by rw [s2]; omega)).trans (((Below.new _).block _ (by rw [s1]; omega)).trans h0)
theorem wrap_eq (t q : ByteArray) : t ++ ⟨#[60]⟩ ++ q ++ ⟨#[62]⟩ = wrapB t q := by
  unfold wrapB
  apply ext_list
  simp only [list_app, List.append_assoc]
set_option maxHeartbeats 4000000 in
set_option maxRecDepth 1000000 in
theorem deep_law (d : Int) (s : ByteArray) (w : World) (hT : Lib.Utf8Tabs 1 2 w) (hs : s.size ≤ 9223372036854775807) (hd : I64 d) : Calls Tryz.prog 4 #[.int .i64 d, .string s] w (Ret w (.bool true)) := by
  have HT := Lib.hid hT
  obtain ⟨hd1, hd2⟩ := hd
  obtain ⟨e, he⟩ : ∃ e, max (-5) (min d 9) = e := ⟨_, rfl⟩
  have he1 : -5 ≤ e := by omega
  have he2 : e ≤ 9 := by omega
  obtain ⟨g, hg⟩ : ∃ g, max 0 e = g := ⟨_, rfl⟩
  have hg1 : 0 ≤ g := by omega
  have hg2 : g ≤ 9 := by omega
  clear hT
  by_cases h0 : 200 < s.size
  · have h0' : 200 < (s.size : Int) := by omega
    have hu : (s.extract 0 200).size ≤ 200 := by rw [ByteArray.size_extract]; omega
    go_enter Tryz.func4, Tryz.ntmps4
    go_upto_region 3 with fail
    generalize s.extract 0 200 = u at hu ⊢
    clear h0 h0' hs
    go_wp2_with fail
    go_loopw [5, 6] (fun v5 k wr => ∃ (t : ByteArray) (j : Nat), v5 = .string t ∧ k = .int .i64 (j : Int) ∧ j ≤ u.size ∧ t.size ≤ j ∧ Hid (NoP t) ∧ wr = w) (fun _ k _ => u.size - (intOf k).toNat)
    case atStart => exact ⟨⟨#[]⟩, 0, rfl, rfl, Nat.zero_le _, Nat.le_refl _, Lib.hid (by unfold NoP; simp), rfl⟩
    case round =>
      obtain ⟨t, j, rfl, rfl, hju, htj, HN, rfl⟩ := hrel
      by_cases h3 : j < u.size
      · have h3' : (j : Int) < (u.size : Int) := by omega
        have hix := fun W => index_is' u j W h3
        have hz1 : (u.extract j (j + 1)).size = 1 := by rw [ByteArray.size_extract]; omega
        have hcat : ¬ 9223372036854775807 < t.size + (u.extract j (j + 1)).size := by rw [hz1]; omega
        have HCZ : Hid ((t ++ u.extract j (j + 1)).size = t.size + 1) := by show _ = _; rw [ByteArray.size_append, hz1]
        by_cases h5 : u[j] = 37
        · have e5 : ((u[j].toNat : Int) != 37) = false := by rw [h5]; rfl
          clear h5 hz1
          go_wp2_with fail
          go_roundw
          case rel => exact ⟨t, j + 1, rfl, by go_num, by omega, by omega, HN, (by first | rfl | trivial)⟩
          case measure => simp [intOf]; omega
        · have e5 : ((u[j].toNat : Int) != 37) = true := by
            have h : u[j].toNat ≠ 37 := fun h => h5 (UInt8.toNat_inj.1 h)
            simp
            omega
          have HNN := Lib.hid (noP_byte HN.out j h3 h5)
          clear h5 hz1
          go_wp2_with fail
          go_roundw
          case rel => exact ⟨_, j + 1, rfl, by go_num, by omega, by rw [HCZ.out]; omega, HNN, (by first | rfl | trivial)⟩
          case measure => simp [intOf]; omega
      · have h3' : ¬ (j : Int) < (u.size : Int) := by omega
        have ht : t.size ≤ 200 := by omega
        have hcat : ¬ 9223372036854775807 < t.size + (⟨#[60, 37, 118, 62]⟩ : ByteArray).size := by show ¬ 9223372036854775807 < t.size + 4; omega
        have HBH := Lib.hid (built_hook (t ++ ⟨#[60, 37, 118, 62]⟩) (wr.heap.size + 1))
        have HBS := Lib.hid (slice_hook (t ++ ⟨#[60, 37, 118, 62]⟩) (wr.heap.size + 1))
        clear h3 hju htj
        go_upto_region 11 with (first
          | (refine wpList_build_is (by rfl) 33 _ (by rfl) [(3, .agg #[.int .i64 3, .string ⟨#[]⟩, .string (t ++ ⟨#[60, 37, 118, 62]⟩), .slice (some ⟨wr.heap.size + 1, 0, none⟩) 1 1, .int .i64 0, .string ⟨#[]⟩, .int .u64 0, .int .u64 0, .string ⟨#[]⟩, .slice none 0 0, .slice none 0 0, .int .i64 0])] (by rfl) (hookC (hookDeep (t ++ ⟨#[60, 37, 118, 62]⟩) (wr.heap.size + 1))) ?_ ?_; (with_reducible exact HBH.out))
          | (refine wpList_buildSlice_is (by rfl) 34 33 1 _ (by rfl) [(0, .agg (hookC (hookDeep (t ++ ⟨#[60, 37, 118, 62]⟩) (wr.heap.size + 1))))] (by rfl) (hookC (hookDeep (t ++ ⟨#[60, 37, 118, 62]⟩) (wr.heap.size + 1))) Tryz.underlying34 ?_ ?_; (with_reducible exact HBS.out)))
        have HD0 := Lib.hid (deepW_new t wr HT.out)
        generalize (((wr.alloc (.cells #[.int .i64 6, .string ⟨#[]⟩, .int .u64 0, .int .u64 0, .string ⟨#[]⟩, .slice none 0 0, .slice none 0 0, .int .i64 1] 29)).alloc (.cells #[.int .i64 6, .string ⟨#[]⟩, .int .u64 0, .int .u64 0, .string ⟨#[]⟩, .slice none 0 0, .slice none 0 0, .int .i64 1] 29)).alloc (.cells (hookC (hookDeep (t ++ ⟨#[60, 37, 118, 62]⟩) (wr.heap.size + 1))) 33)) = W1 at HD0 ⊢
        have HW1 := Lib.hid HD0.out.1
        have HC1 := Lib.hid HD0.out.2.1
        have HB1 := Lib.hid HD0.out.2.2
        clear HD0 HBH HBS
        go_wp2_with fail
        refine (badDepth_any _).mono ?_
        rintro e' W2 ⟨rfl, hb⟩
        have HW2 := Lib.hid (HW1.out.later hb)
        have HC2 := Lib.hid ((hb.block _ (lt_of_some HC1.out)).trans HC1.out)
        have HB2 := Lib.hid (HB1.out.next hb)
        clear hb HW1 HC1 HB1
        go_wp2_with fail
        go_loop [9, 10] (fun v9 k => ∃ (n : Nat) (i : Int), v9 = .string (deepB t n) ∧ k = .int .i64 i ∧ i ≤ 3 ∧ -1 ≤ i ∧ n ≤ 4 ∧ Hid (n = (3 - max i g).toNat)) (fun _ k => (intOf k + 1).toNat)
        case atStart => exact ⟨0, 3, rfl, rfl, by omega, by omega, by omega, Lib.hid (by omega)⟩
        case round =>
          obtain ⟨n, i, rfl, rfl, hi3, hi0, hn4, HNN⟩ := hrel
          by_cases c1 : g ≤ i
          · by_cases c2 : g < i
            · have hzn := deep_small ht n hn4
              have k1 : ¬ 9223372036854775807 < t.size + (⟨#[60]⟩ : ByteArray).size := by show ¬ 9223372036854775807 < t.size + 1; omega
              have k2 : ¬ 9223372036854775807 < (t ++ ⟨#[60]⟩).size + (deepB t n).size := by rw [ByteArray.size_append]; show ¬ 9223372036854775807 < t.size + 1 + _; omega
              have k3 : ¬ 9223372036854775807 < (t ++ ⟨#[60]⟩ ++ deepB t n).size + (⟨#[62]⟩ : ByteArray).size := by rw [ByteArray.size_append, ByteArray.size_append]; show ¬ 9223372036854775807 < t.size + 1 + _ + 1; omega
              have HWE : Hid (t ++ ⟨#[60]⟩ ++ deepB t n ++ ⟨#[62]⟩ = deepB t (n + 1)) := Lib.hid (wrap_eq t _)
              clear hzn
              go_wp2_with fail
              go_round
              case rel => exact ⟨n + 1, i - 1, by rw [HWE.out], by go_num, by omega, by omega, by have := HNN.out; omega, Lib.hid (by have := HNN.out; omega)⟩
              case measure => simp [intOf]; omega
            · go_wp2_with fail
              go_round
              case rel => exact ⟨n, i - 1, rfl, by go_num, by omega, by omega, hn4, Lib.hid (by have := HNN.out; omega)⟩
              case measure => simp [intOf]; omega
          · have HNE : Hid (n = (3 - g).toNat) := Lib.hid (by have := HNN.out; omega)
            clear HNN
            have d0 : W2.cell? ⟨wr.heap.size, 0, none⟩ = some (.int .i64 6) := cell_of_heap' HC2.out 0
            have d1 : W2.cell? ⟨wr.heap.size, 1, none⟩ = some (.string ⟨#[]⟩) := cell_of_heap' HC2.out 1
            have d2 : W2.cell? ⟨wr.heap.size, 2, none⟩ = some (.int .u64 0) := cell_of_heap' HC2.out 2
            have d3 : W2.cell? ⟨wr.heap.size, 3, none⟩ = some (.int .u64 0) := cell_of_heap' HC2.out 3
            have d4 : W2.cell? ⟨wr.heap.size, 4, none⟩ = some (.string ⟨#[]⟩) := cell_of_heap' HC2.out 4
            have d5 : W2.cell? ⟨wr.heap.size, 5, none⟩ = some (.slice none 0 0) := cell_of_heap' HC2.out 5
            have d6 : W2.cell? ⟨wr.heap.size, 6, none⟩ = some (.slice none 0 0) := cell_of_heap' HC2.out 6
            have d7 : W2.cell? ⟨wr.heap.size, 7, none⟩ = some (.int .i64 1) := cell_of_heap' HC2.out 7
            have HW3 := Lib.hid (HW2.out.later (Below.new (.cells #[.int .i64 6, .string ⟨#[]⟩, .int .u64 0, .int .u64 0, .string ⟨#[]⟩, .slice none 0 0, .slice none 0 0, .int .i64 1] 29)))
            have HQ3 := Lib.hid (heap_alloc_new W2 (.cells #[.int .i64 6, .string ⟨#[]⟩, .int .u64 0, .int .u64 0, .string ⟨#[]⟩, .slice none 0 0, .slice none 0 0, .int .i64 1] 29))
            have HB3 := Lib.hid (HB2.out.push (.cells #[.int .i64 6, .string ⟨#[]⟩, .int .u64 0, .int .u64 0, .string ⟨#[]⟩, .slice none 0 0, .slice none 0 0, .int .i64 1] 29))
            by_cases c3 : 3 < e
            · go_wp2_with fail
              refine (at_over e c3 _ _ _ _).mono ?_
              rintro e' W4 ⟨rfl, hb⟩
              have HW4 := Lib.hid (HW3.out.later hb)
              have HB4 := Lib.hid (HB3.out.next hb)
              clear hb d0 d1 d2 d3 d4 d5 d6 d7
              go_wp2_with fail
              refine (badDepth_any _).mono ?_
              rintro e' W5 ⟨rfl, hb⟩
              have HW5 := Lib.hid (HW4.out.later hb)
              have HB5 := Lib.hid (HB4.out.next hb)
              clear hb
              go_wp2_with fail
              refine (lives_any _ HW5.out.tabs).mono ?_
              rintro e' W6 ⟨rfl, hb⟩
              have HB6 := Lib.hid (HB5.out.next hb)
              clear hb
              go_wp2_with fail
              go_ret
              exact ⟨rfl, HB6.out⟩
            · have HAT := Lib.hid (deep_top ht HN.out e (by omega) _ HW3.out W2.heap.size HQ3.out)
              have hge : 3 - (max 0 e).toNat = n := by have := HNE.out; omega
              rw [hge] at HAT
              clear hge
              go_wp2_with fail
              refine HAT.out.mono ?_
              rintro e' W4 ⟨rfl, hb⟩
              have HW4 := Lib.hid (HW3.out.later hb)
              have HB4 := Lib.hid (HB3.out.next hb)
              clear hb d0 d1 d2 d3 d4 d5 d6 d7
              go_wp2_with fail
              refine (lives_any _ HW4.out.tabs).mono ?_
              rintro e' W6 ⟨rfl, hb⟩
              have HB6 := Lib.hid (HB4.out.next hb)
              clear hb
              go_wp2_with fail
              go_ret
              exact ⟨rfl, HB6.out⟩
  · have h0' : ¬ 200 < (s.size : Int) := by omega
    have hu : s.size ≤ 200 := by omega
    go_enter Tryz.func4, Tryz.ntmps4
    go_upto_region 3 with fail
    generalize s = u at hu ⊢
    clear h0 h0' hs
    go_wp2_with fail
    go_loopw [5, 6] (fun v5 k wr => ∃ (t : ByteArray) (j : Nat), v5 = .string t ∧ k = .int .i64 (j : Int) ∧ j ≤ u.size ∧ t.size ≤ j ∧ Hid (NoP t) ∧ wr = w) (fun _ k _ => u.size - (intOf k).toNat)
    case atStart => exact ⟨⟨#[]⟩, 0, rfl, rfl, Nat.zero_le _, Nat.le_refl _, Lib.hid (by unfold NoP; simp), rfl⟩
    case round =>
      obtain ⟨t, j, rfl, rfl, hju, htj, HN, rfl⟩ := hrel
      by_cases h3 : j < u.size
      · have h3' : (j : Int) < (u.size : Int) := by omega
        have hix := fun W => index_is' u j W h3
        have hz1 : (u.extract j (j + 1)).size = 1 := by rw [ByteArray.size_extract]; omega
        have hcat : ¬ 9223372036854775807 < t.size + (u.extract j (j + 1)).size := by rw [hz1]; omega
        have HCZ : Hid ((t ++ u.extract j (j + 1)).size = t.size + 1) := by show _ = _; rw [ByteArray.size_append, hz1]
        by_cases h5 : u[j] = 37
        · have e5 : ((u[j].toNat : Int) != 37) = false := by rw [h5]; rfl
          clear h5 hz1
          go_wp2_with fail
          go_roundw
          case rel => exact ⟨t, j + 1, rfl, by go_num, by omega, by omega, HN, (by first | rfl | trivial)⟩
          case measure => simp [intOf]; omega
        · have e5 : ((u[j].toNat : Int) != 37) = true := by
            have h : u[j].toNat ≠ 37 := fun h => h5 (UInt8.toNat_inj.1 h)
            simp
            omega
          have HNN := Lib.hid (noP_byte HN.out j h3 h5)
          clear h5 hz1
          go_wp2_with fail
          go_roundw
          case rel => exact ⟨_, j + 1, rfl, by go_num, by omega, by rw [HCZ.out]; omega, HNN, (by first | rfl | trivial)⟩
          case measure => simp [intOf]; omega
      · have h3' : ¬ (j : Int) < (u.size : Int) := by omega
        have ht : t.size ≤ 200 := by omega
        have hcat : ¬ 9223372036854775807 < t.size + (⟨#[60, 37, 118, 62]⟩ : ByteArray).size := by show ¬ 9223372036854775807 < t.size + 4; omega
        have HBH := Lib.hid (built_hook (t ++ ⟨#[60, 37, 118, 62]⟩) (wr.heap.size + 1))
        have HBS := Lib.hid (slice_hook (t ++ ⟨#[60, 37, 118, 62]⟩) (wr.heap.size + 1))
        clear h3 hju htj
        go_upto_region 11 with (first
          | (refine wpList_build_is (by rfl) 33 _ (by rfl) [(3, .agg #[.int .i64 3, .string ⟨#[]⟩, .string (t ++ ⟨#[60, 37, 118, 62]⟩), .slice (some ⟨wr.heap.size + 1, 0, none⟩) 1 1, .int .i64 0, .string ⟨#[]⟩, .int .u64 0, .int .u64 0, .string ⟨#[]⟩, .slice none 0 0, .slice none 0 0, .int .i64 0])] (by rfl) (hookC (hookDeep (t ++ ⟨#[60, 37, 118, 62]⟩) (wr.heap.size + 1))) ?_ ?_; (with_reducible exact HBH.out))
          | (refine wpList_buildSlice_is (by rfl) 34 33 1 _ (by rfl) [(0, .agg (hookC (hookDeep (t ++ ⟨#[60, 37, 118, 62]⟩) (wr.heap.size + 1))))] (by rfl) (hookC (hookDeep (t ++ ⟨#[60, 37, 118, 62]⟩) (wr.heap.size + 1))) Tryz.underlying34 ?_ ?_; (with_reducible exact HBS.out)))
        have HD0 := Lib.hid (deepW_new t wr HT.out)
        generalize (((wr.alloc (.cells #[.int .i64 6, .string ⟨#[]⟩, .int .u64 0, .int .u64 0, .string ⟨#[]⟩, .slice none 0 0, .slice none 0 0, .int .i64 1] 29)).alloc (.cells #[.int .i64 6, .string ⟨#[]⟩, .int .u64 0, .int .u64 0, .string ⟨#[]⟩, .slice none 0 0, .slice none 0 0, .int .i64 1] 29)).alloc (.cells (hookC (hookDeep (t ++ ⟨#[60, 37, 118, 62]⟩) (wr.heap.size + 1))) 33)) = W1 at HD0 ⊢
        have HW1 := Lib.hid HD0.out.1
        have HC1 := Lib.hid HD0.out.2.1
        have HB1 := Lib.hid HD0.out.2.2
        clear HD0 HBH HBS
        go_wp2_with fail
        refine (badDepth_any _).mono ?_
        rintro e' W2 ⟨rfl, hb⟩
        have HW2 := Lib.hid (HW1.out.later hb)
        have HC2 := Lib.hid ((hb.block _ (lt_of_some HC1.out)).trans HC1.out)
        have HB2 := Lib.hid (HB1.out.next hb)
        clear hb HW1 HC1 HB1
        go_wp2_with fail
        go_loop [9, 10] (fun v9 k => ∃ (n : Nat) (i : Int), v9 = .string (deepB t n) ∧ k = .int .i64 i ∧ i ≤ 3 ∧ -1 ≤ i ∧ n ≤ 4 ∧ Hid (n = (3 - max i g).toNat)) (fun _ k => (intOf k + 1).toNat)
        case atStart => exact ⟨0, 3, rfl, rfl, by omega, by omega, by omega, Lib.hid (by omega)⟩
        case round =>
          obtain ⟨n, i, rfl, rfl, hi3, hi0, hn4, HNN⟩ := hrel
          by_cases c1 : g ≤ i
          · by_cases c2 : g < i
            · have hzn := deep_small ht n hn4
              have k1 : ¬ 9223372036854775807 < t.size + (⟨#[60]⟩ : ByteArray).size := by show ¬ 9223372036854775807 < t.size + 1; omega
              have k2 : ¬ 9223372036854775807 < (t ++ ⟨#[60]⟩).size + (deepB t n).size := by rw [ByteArray.size_append]; show ¬ 9223372036854775807 < t.size + 1 + _; omega
              have k3 : ¬ 9223372036854775807 < (t ++ ⟨#[60]⟩ ++ deepB t n).size + (⟨#[62]⟩ : ByteArray).size := by rw [ByteArray.size_append, ByteArray.size_append]; show ¬ 9223372036854775807 < t.size + 1 + _ + 1; omega
              have HWE : Hid (t ++ ⟨#[60]⟩ ++ deepB t n ++ ⟨#[62]⟩ = deepB t (n + 1)) := Lib.hid (wrap_eq t _)
              clear hzn
              go_wp2_with fail
              go_round
              case rel => exact ⟨n + 1, i - 1, by rw [HWE.out], by go_num, by omega, by omega, by have := HNN.out; omega, Lib.hid (by have := HNN.out; omega)⟩
              case measure => simp [intOf]; omega
            · go_wp2_with fail
              go_round
              case rel => exact ⟨n, i - 1, rfl, by go_num, by omega, by omega, hn4, Lib.hid (by have := HNN.out; omega)⟩
              case measure => simp [intOf]; omega
          · have HNE : Hid (n = (3 - g).toNat) := Lib.hid (by have := HNN.out; omega)
            clear HNN
            have d0 : W2.cell? ⟨wr.heap.size, 0, none⟩ = some (.int .i64 6) := cell_of_heap' HC2.out 0
            have d1 : W2.cell? ⟨wr.heap.size, 1, none⟩ = some (.string ⟨#[]⟩) := cell_of_heap' HC2.out 1
            have d2 : W2.cell? ⟨wr.heap.size, 2, none⟩ = some (.int .u64 0) := cell_of_heap' HC2.out 2
            have d3 : W2.cell? ⟨wr.heap.size, 3, none⟩ = some (.int .u64 0) := cell_of_heap' HC2.out 3
            have d4 : W2.cell? ⟨wr.heap.size, 4, none⟩ = some (.string ⟨#[]⟩) := cell_of_heap' HC2.out 4
            have d5 : W2.cell? ⟨wr.heap.size, 5, none⟩ = some (.slice none 0 0) := cell_of_heap' HC2.out 5
            have d6 : W2.cell? ⟨wr.heap.size, 6, none⟩ = some (.slice none 0 0) := cell_of_heap' HC2.out 6
            have d7 : W2.cell? ⟨wr.heap.size, 7, none⟩ = some (.int .i64 1) := cell_of_heap' HC2.out 7
            have HW3 := Lib.hid (HW2.out.later (Below.new (.cells #[.int .i64 6, .string ⟨#[]⟩, .int .u64 0, .int .u64 0, .string ⟨#[]⟩, .slice none 0 0, .slice none 0 0, .int .i64 1] 29)))
            have HQ3 := Lib.hid (heap_alloc_new W2 (.cells #[.int .i64 6, .string ⟨#[]⟩, .int .u64 0, .int .u64 0, .string ⟨#[]⟩, .slice none 0 0, .slice none 0 0, .int .i64 1] 29))
            have HB3 := Lib.hid (HB2.out.push (.cells #[.int .i64 6, .string ⟨#[]⟩, .int .u64 0, .int .u64 0, .string ⟨#[]⟩, .slice none 0 0, .slice none 0 0, .int .i64 1] 29))
            by_cases c3 : 3 < e
            · go_wp2_with fail
              refine (at_over e c3 _ _ _ _).mono ?_
              rintro e' W4 ⟨rfl, hb⟩
              have HW4 := Lib.hid (HW3.out.later hb)
              have HB4 := Lib.hid (HB3.out.next hb)
              clear hb d0 d1 d2 d3 d4 d5 d6 d7
              go_wp2_with fail
              refine (badDepth_any _).mono ?_
              rintro e' W5 ⟨rfl, hb⟩
              have HW5 := Lib.hid (HW4.out.later hb)
              have HB5 := Lib.hid (HB4.out.next hb)
              clear hb
              go_wp2_with fail
              refine (lives_any _ HW5.out.tabs).mono ?_
              rintro e' W6 ⟨rfl, hb⟩
              have HB6 := Lib.hid (HB5.out.next hb)
              clear hb
              go_wp2_with fail
              go_ret
              exact ⟨rfl, HB6.out⟩
            · have HAT := Lib.hid (deep_top ht HN.out e (by omega) _ HW3.out W2.heap.size HQ3.out)
              have hge : 3 - (max 0 e).toNat = n := by have := HNE.out; omega
              rw [hge] at HAT
              clear hge
              go_wp2_with fail
              refine HAT.out.mono ?_
              rintro e' W4 ⟨rfl, hb⟩
              have HW4 := Lib.hid (HW3.out.later hb)
              have HB4 := Lib.hid (HB3.out.next hb)
              clear hb d0 d1 d2 d3 d4 d5 d6 d7
              go_wp2_with fail
              refine (lives_any _ HW4.out.tabs).mono ?_
              rintro e' W6 ⟨rfl, hb⟩
              have HB6 := Lib.hid (HB4.out.next hb)
              clear hb
              go_wp2_with fail
              go_ret
              exact ⟨rfl, HB6.out⟩
end Go.Proofs.YtnalppgjbllehaaGreatDoor
