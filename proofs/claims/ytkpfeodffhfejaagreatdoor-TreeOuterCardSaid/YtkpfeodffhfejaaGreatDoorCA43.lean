/- A group's text: tree's group. Condition: what the iterator hands over; the texts' sizes. -/
import Derived.Test.YtkpfeodffhfejaaGreatDoorCA42
import Derived.RangeFuncNested
import Derived.RangeFuncBound
import Derived.RangeFuncCalls
import Derived.RangeFuncLeaves
import Derived.Shelf.Abstract
import Derived.Shelf.RegionOpen
import Derived.WalkKit
import Derived.OwnWalkIn
import Derived.TacticsInMore
import Derived.LoopNIn
import Derived.LoopIn
import Derived.Laws.EntriesVeiled
namespace Go.Proofs.YtkpfeodffhfejaaGreatDoor
set_option linter.unusedVariables false
set_option linter.unusedSimpArgs false
open Go.RowKit Go.Shelf
attribute [local go_sem] Oper.semAt_some

/-- Texts that are not too great. -/
abbrev Tx := { s : ByteArray // s.size ≤ 1000000000 }
/-- What an iterator over texts hands over. -/
def Gives (gi : Nat) (lb : Array Value) (ss : List Tx) (w : World) : Prop :=
  SeqStopsK Fence.wide 2 Tryz.prog gi lb (fun s : Tx => #[.string s.1]) (Below w.heap.size) (fun xs => xs = ss) (fun _ => True) ss.length w
def txs (l : List Tx) : List ByteArray := l.map (·.1)
theorem txs_snoc (l : List Tx) (x : Tx) : txs (l ++ [x]) = txs l ++ [x.1] := by unfold txs; rw [List.map_append]; rfl
theorem tail_bound (sep : ByteArray) (hs : sep.size ≤ 10) : ∀ l : List Tx, (tailS sep (txs l)).size ≤ l.length * 1000000010
  | [] => Nat.zero_le _
  | x :: l => by
    have h := tail_bound sep hs l
    have hx := x.2
    show (sep ++ (x.1 ++ tailS sep (txs l))).size ≤ _
    rw [size_app, size_app, List.length_cons, Nat.succ_mul]
    omega
theorem join_bound (sep : ByteArray) (hs : sep.size ≤ 10) (l : List Tx) : (joinS sep (txs l)).size ≤ l.length * 1000000010 := by
  cases l with
  | nil => exact Nat.zero_le _
  | cons x l =>
    have h := tail_bound sep hs l
    have hx := x.2
    show (x.1 ++ tailS sep (txs l)).size ≤ _
    rw [size_app, List.length_cons, Nat.succ_mul]
    omega
def nextV (b fb sb : Nat) : Value := .func (.func 105) #[] #[.pointer (some ⟨fb, 0, none⟩), .pointer (some ⟨b, 0, none⟩), .pointer (some ⟨sb, 0, none⟩)]
/-- The world in which a group begins. -/
theorem group_new (w W1 : World) (sep : ByteArray) (sb : Nat) (hb : Below w.heap.size w W1) (hs : W1.heap[sb]? = some (.cells #[.string sep] 9 (0, 0))) :
    GW w.heap.size W1.heap.size (W1.heap.size + 1) sb sep ⟨#[]⟩ [] (((W1.alloc (.cells #[.pointer none, .slice none 0 0] 175)).alloc (.cells #[.bool true] 4)).alloc (.cells #[nextV W1.heap.size (W1.heap.size + 1) sb] 180)) ∧
    (((W1.alloc (.cells #[.pointer none, .slice none 0 0] 175)).alloc (.cells #[.bool true] 4)).alloc (.cells #[nextV W1.heap.size (W1.heap.size + 1) sb] 180)).heap[W1.heap.size + 1 + 1]? = some (.cells #[nextV W1.heap.size (W1.heap.size + 1) sb] 180 (0, 0)) ∧
    Below w.heap.size w (((W1.alloc (.cells #[.pointer none, .slice none 0 0] 175)).alloc (.cells #[.bool true] 4)).alloc (.cells #[nextV W1.heap.size (W1.heap.size + 1) sb] 180)) := by
  have hsb := lt_of_some hs
  have s1 : (W1.alloc (.cells #[.pointer none, .slice none 0 0] 175)).heap.size = W1.heap.size + 1 := World.size_alloc _ _
  have s2 : ((W1.alloc (.cells #[.pointer none, .slice none 0 0] 175)).alloc (.cells #[.bool true] 4)).heap.size = W1.heap.size + 1 + 1 := by rw [World.size_alloc, s1]
  have h0 := heap_alloc_new W1 (.cells #[.pointer none, .slice none 0 0] 175)
  have h1 := heap_alloc_new (W1.alloc (.cells #[.pointer none, .slice none 0 0] 175)) (.cells #[.bool true] 4)
  have h2 := heap_alloc_new ((W1.alloc (.cells #[.pointer none, .slice none 0 0] 175)).alloc (.cells #[.bool true] 4)) (.cells #[nextV W1.heap.size (W1.heap.size + 1) sb] 180)
  rw [s1] at h1
  rw [s2] at h2
  have b2 := Below.new (w := (W1.alloc (.cells #[.pointer none, .slice none 0 0] 175)).alloc (.cells #[.bool true] 4)) (.cells #[nextV W1.heap.size (W1.heap.size + 1) sb] 180)
  have b1 := Below.new (w := W1.alloc (.cells #[.pointer none, .slice none 0 0] 175)) (.cells #[.bool true] 4)
  have b0 := Below.new (w := W1) (.cells #[.pointer none, .slice none 0 0] 175)
  have hz := hb.size
  refine ⟨⟨.inl ⟨hb.size, .slice none 0 0, ?_, ⟨rfl, .inl ⟨rfl, rfl⟩⟩, fun e => by cases e⟩, ?_, ?_, by omega, by omega, by omega, by omega, ?_⟩, h2, ?_⟩
  · exact (b2.block _ (by rw [s2]; omega)).trans ((b1.block _ (by rw [s1]; omega)).trans h0)
  · exact (b2.block _ (by rw [s2]; omega)).trans h1
  · exact (b2.block _ (by rw [s2]; omega)).trans ((b1.block _ (by rw [s1]; omega)).trans ((b0.block _ hsb).trans hs))
  · rw [World.size_alloc, s2]; omega
  · exact ((hb.push _).push _).push _
theorem GW.front {B b fb sb : Nat} {sep front : ByteArray} {w w' : World} (h : GW B b fb sb sep ⟨#[]⟩ [] w) (hbl : Lib.BuilderAt 175 5 B b (.pointer (some ⟨b, 0, none⟩)) (Lib.strCells (⟨#[]⟩ ++ joinS sep []) ++ Lib.strCells front) w') (hb : Below B w w') (hk : Lib.OthersKept 5 (some b) w w') : GW B b fb sb sep front [] w' := by
  obtain ⟨h1, h2, h3, h4⟩ := h.put hbl hb hk
  refine ⟨?_, h2, h3, h.nf, h.ns, h.nn, h.lf, Nat.le_trans h.hB hb.size⟩
  have e : front ++ joinS sep [] = ⟨#[]⟩ ++ joinS sep [] ++ front := by
    show front ++ ⟨#[]⟩ = ⟨#[]⟩ ++ ⟨#[]⟩ ++ front
    rw [app_nil, app_nil, nil_app]
  rw [e]
  exact h1
theorem cells_grown {W W' : World} {row : Option Nat} (hg : W.grownBy W' row) {B : Nat} (hr : ∀ r, row = some r → B ≤ r ∧ ∃ o : Obj, W.heap[r]? = some o ∧ o.isCells = false) (k : Nat) (cs : Array Value) (t : TypeId) (fr : Nat × Nat) (hk : W.heap[k]? = some (.cells cs t fr)) : W'.heap[k]? = W.heap[k]? := by
  refine hg.block k (lt_of_some hk) fun e => ?_
  obtain ⟨_, o, h1, h2⟩ := hr k e.symm
  rw [hk] at h1
  injection h1 with h1
  subst h1
  cases h2
theorem own_group {B b fb sb nb n0 : Nat} {sep front : ByteArray} {w0 : World} {v : Value} {t : TypeId} (hB : n0 ≤ B) (hn0 : n0 ≤ w0.heap.size) : OwnFrom B (fun (pre : List Tx) W => GW n0 b fb sb sep front (txs pre) W ∧ W.heap[nb]? = some (.cells #[v] t (0, 0)) ∧ Below n0 w0 W) :=
  fun s W W' row hs hg hr => ⟨hs.1.same (cells_grown hg hr) hg.size, (cells_grown hg hr _ _ _ _ hs.2.1).trans hs.2.1, hs.2.2.grown hg (Nat.le_trans hn0 hs.2.2.size) fun k e => Nat.le_trans hB (hr k e).1⟩
def groupB (f : SpecD) (ty front back : ByteArray) (ss : List ByteArray) : ByteArray :=
  if tsharpB f = true then (ty ++ ⟨#[123]⟩) ++ (joinS ⟨#[44, 32]⟩ ss ++ ⟨#[125]⟩) else front ++ (joinS ⟨#[32]⟩ ss ++ back)
set_option maxHeartbeats 4000000 in
set_option maxRecDepth 1000000 in
theorem group_plain (f : SpecD) (k v : Value) (front back : ByteArray) (gi : Nat) (lb : Array Value) (ss : List Tx) (w : World) (hsh : tsharpB f = false) (hf : front.size ≤ 1000) (hbk : back.size ≤ 1000) (hn : ss.length ≤ 2000)
    (hg : Gives gi lb ss w) (hen : ∀ args w, (callFunc gi args).run Tryz.prog w = .ok (.enter gi args) w) :
    Calls Tryz.prog 80 #[.agg #[.bool f.plus, .bool f.minus, .bool f.sharp, .bool f.space, .bool f.zero, .int .i64 f.wid, .int .i64 f.prec, .int .i32 f.verb, k], v, .string front, .string back, .func (.func gi) #[] lb] w (Ret w (.string (front ++ (joinS ⟨#[32]⟩ (txs ss) ++ back)))) := by
  have HSH : Hid (∀ W, Calls Tryz.prog 104 #[.agg #[.bool f.plus, .bool f.minus, .bool f.sharp, .bool f.space, .bool f.zero, .int .i64 f.wid, .int .i64 f.prec, .int .i32 f.verb, k]] W (Ret W (.bool false))) := Lib.hid fun W => hsh ▸ tsharp_is f k W
  have HG := Lib.hid hg
  have HE := Lib.hid hen
  clear hsh hg hen
  refine (callsIn_wide (n := 3)).1 ?_
  refine callsIn_of_wp_marks Tryz.func80 rfl trivial ?_ rfl
  simp only [Tryz.ntmps80, List.size_toArray, List.length_cons, List.length_nil, Nat.reduceAdd, Nat.reduceSub, Array.replicate_succ, Array.replicate_zero, List.push_toArray, List.append_toArray, List.nil_append, List.cons_append]
  have HB0 := Lib.hid ((Below.new (w := w) (.cells #[.bool f.plus, .bool f.minus, .bool f.sharp, .bool f.space, .bool f.zero, .int .i64 f.wid, .int .i64 f.prec, .int .i32 f.verb, k] 57)).push (.cells #[.string ⟨#[32]⟩] 9))
  have HS0 : Hid (((w.alloc (.cells #[.bool f.plus, .bool f.minus, .bool f.sharp, .bool f.space, .bool f.zero, .int .i64 f.wid, .int .i64 f.prec, .int .i32 f.verb, k] 57)).alloc (.cells #[.string ⟨#[32]⟩] 9)).heap[w.heap.size + 1]? = some (.cells #[.string ⟨#[32]⟩] 9 (0, 0))) := by
    have h := heap_alloc_new (w.alloc (.cells #[.bool f.plus, .bool f.minus, .bool f.sharp, .bool f.space, .bool f.zero, .int .i64 f.wid, .int .i64 f.prec, .int .i32 f.verb, k] 57)) (.cells #[.string ⟨#[32]⟩] 9)
    rw [World.size_alloc] at h
    exact Lib.hid h
  gi_wp2_with fail
  generalize ((w.alloc (.cells #[.bool f.plus, .bool f.minus, .bool f.sharp, .bool f.space, .bool f.zero, .int .i64 f.wid, .int .i64 f.prec, .int .i32 f.verb, k] 57)).alloc (.cells #[.string ⟨#[32]⟩] 9)) = W0 at HB0 HS0 ⊢
  refine ⟨trivial, (callsIn_wide.2 (HSH.out _)).mono ?_⟩
  rintro e W1 ⟨rfl, hb⟩
  have HB1 := Lib.hid (HB0.out.next hb)
  have HS1 := Lib.hid ((hb.block _ (lt_of_some HS0.out)).trans HS0.out)
  clear hb HB0 HS0 HSH
  gi_wp2_with fail
  obtain ⟨g1, g2, g3⟩ := group_new w W1 ⟨#[32]⟩ (w.heap.size + 1) HB1.out HS1.out
  unfold nextV at g1 g2 g3
  generalize (((W1.alloc (.cells #[.pointer none, .slice none 0 0] 175)).alloc (.cells #[.bool true] 4)).alloc (.cells #[.func (.func 105) #[] #[.pointer (some ⟨W1.heap.size + 1, 0, none⟩), .pointer (some ⟨W1.heap.size, 0, none⟩), .pointer (some ⟨w.heap.size + 1, 0, none⟩)]] 180)) = W2 at g1 g2 g3 ⊢
  have hsb : w.heap.size + 1 < W1.heap.size := lt_of_some HS1.out
  obtain ⟨b, hbb⟩ : ∃ b, W1.heap.size = b := ⟨_, rfl⟩
  obtain ⟨sb, hsbb⟩ : ∃ sb, w.heap.size + 1 = sb := ⟨_, rfl⟩
  rw [hbb, hsbb] at g1 g2 ⊢
  rw [hbb, hsbb] at hsb
  clear hbb HB1 HS1
  refine ⟨trivial, (callsIn_wide.2 (write_string w.heap.size b _ front W2 g1.bld (by rw [strCells_len]; show 0 + _ ≤ _; omega) g1.hB)).mono ?_⟩
  rintro e W3 ⟨rfl, hbl, hb, hk⟩
  have G3 := g1.front hbl hb hk
  have N3 := hk (b + 1 + 1) _ g2 (fun e => by injection e with e; omega) (fun c fz e => by injection e with _ e; cases e)
  have B3 := g3.trans hb
  clear hbl hb hk g1 g2 g3
  gi_wp2_with fail
  have hws : w.heap.size ≤ W3.heap.size := B3.size
  refine wpIn_rangeFunc_ownF rfl (by omega) (gf := gi) (lb := lb) rfl trivial HE.out (w0 := w) HG.out belowK_t (belowK_b hws) B3 (fun _ => rfl)
    (fun (pre : List Tx) W => GW w.heap.size b (b + 1) sb ⟨#[32]⟩ front (txs pre) W ∧ W.heap[b + 1 + 1]? = some (.cells #[.func (.func 105) #[] #[.pointer (some ⟨b + 1, 0, none⟩), .pointer (some ⟨b, 0, none⟩), .pointer (some ⟨sb, 0, none⟩)]] 180 (0, 0)) ∧ Below w.heap.size w W)
    (fun _ _ _ => False) (own_group hws (Nat.le_refl _)) (fun _ _ _ _ _ hs _ _ => hs) ⟨G3, N3, B3⟩
    (fun x => { tmps := #[.agg #[.bool f.plus, .bool f.minus, .bool f.sharp, .bool f.space, .bool f.zero, .int .i64 f.wid, .int .i64 f.prec, .int .i32 f.verb, k], v, .string front, .string back, .func (.func gi) #[] lb, .pointer (some ⟨w.heap.size, 0, none⟩), undef, undef, undef, undef, .string ⟨#[]⟩, .pointer (some ⟨sb, 0, none⟩), .pointer (some ⟨b, 0, none⟩), .pointer (some ⟨b + 1, 0, none⟩), .pointer (some ⟨b + 1 + 1, 0, none⟩), .string x.1, .agg #[.bool f.plus, .bool f.minus, .bool f.sharp, .bool f.space, .bool f.zero, .int .i64 f.wid, .int .i64 f.prec, .int .i32 f.verb, k], .bool false, undef, undef, undef, .func (.func 105) #[] #[.pointer (some ⟨b + 1, 0, none⟩), .pointer (some ⟨b, 0, none⟩), .pointer (some ⟨sb, 0, none⟩)], .string front, .tuple #[.int .i64 front.size, .nilIface], .func (.func gi) #[] lb, .string x.1, undef, undef, undef, undef, undef, undef], defers := [] }) ?assign ?body ?done ?stop
  case assign =>
    intro l x W K hK
    gi_wp2
    exact hK
  case body =>
    rintro l pre x W ⟨hG, hN, hB⟩ hlen
    have c0 : W.cell? ⟨b + 1 + 1, 0, none⟩ = some (.func (.func 105) #[] #[.pointer (some ⟨b + 1, 0, none⟩), .pointer (some ⟨b, 0, none⟩), .pointer (some ⟨sb, 0, none⟩)]) := cell_of_heap' hN 0
    have hbd : (front ++ joinS ⟨#[32]⟩ (txs pre ++ [x.1])).size ≤ 140737488355328 := by
      rw [← txs_snoc, size_app]
      have := join_bound ⟨#[32]⟩ (by decide) (pre ++ [x])
      rw [List.length_append, List.length_singleton] at this
      omega
    have HBD := Lib.hid hbd
    clear hbd
    gi_wp2_with fail
    refine ⟨trivial, (CallsIn.inRound l (callsIn_wide.2 (next_any x.1 hG HBD.out))).mono ?_⟩
    rintro e W' ⟨rfl, hG', hb, hk, hgk⟩
    gi_wp2_with fail
    refine ⟨hk, hb, by rw [txs_snoc]; exact hG', hgk _ _ _ _ (by omega) (by omega) (by decide) hN, hB.trans hb⟩
  case done =>
    rintro D ys W hD rfl ⟨hG, hN, hB⟩ hK
    have hbd : (Lib.strCells (front ++ joinS ⟨#[32]⟩ (txs ys))).length + back.size ≤ 140737488355328 := by
      rw [strCells_len, size_app]
      have := join_bound ⟨#[32]⟩ (by decide) ys
      omega
    have hDb : D ≠ b := by
      rintro rfl
      obtain ⟨cs, t, fr, h⟩ := IsBuilder_block hG.bld
      rw [h] at hK
      cases hK
    have HBD := Lib.hid hbd
    clear hbd
    gi_wp2_with fail
    refine ⟨trivial, (callsIn_wide.2 (write_string w.heap.size b _ back W hG.bld HBD.out hG.hB)).mono ?_⟩
    rintro e W4 ⟨rfl, hbl, hb, hk⟩
    have hK4 := hk D _ hK (fun e => hDb (by injection e)) (fun c fz e => by cases e)
    have hB4 := hB.trans hb
    have e4 : Lib.strCells (front ++ joinS ⟨#[32]⟩ (txs ys)) ++ Lib.strCells back = Lib.byteCells (front ++ (joinS ⟨#[32]⟩ (txs ys) ++ back)).data.toList := by
      rw [← app_assoc]
      show _ = Lib.strCells (front ++ joinS ⟨#[32]⟩ (txs ys) ++ back)
      unfold Lib.strCells
      rw [bytes_app (front ++ joinS ⟨#[32]⟩ (txs ys)) back, List.map_append]
    rw [e4] at hbl
    have HBL := Lib.hid (Lib.IsBuilderF.of (.inr hbl))
    clear e4 hbl hb hk
    gi_wp2_with fail
    refine ⟨trivial, (callsIn_wide.2 (Tryz.Builder_String_any_k w.heap.size b _ W4 HBL.out hB4.size)).mono ?_⟩
    rintro e W5 ⟨rfl, _, hb, hk⟩
    have hK5 := hk D _ hK4 (fun e => hDb (by injection e)) (fun c fz e => by cases e)
    have hB5 := hB4.trans hb
    gi_wp2_with fail
    refine ⟨by simp, .inl ⟨_, _, rfl, run_takeDeferred hK5, ?_⟩⟩
    exact ⟨_, results_tmp rfl _ _ _, rfl, hB5.trans (belowK_b (w := w) (Nat.le_refl _) W5 D _ _ (by omega) hK5 rfl rfl)⟩
  case stop =>
    rintro D c pre W _ _ h _
    exact h.elim
end Go.Proofs.YtkpfeodffhfejaaGreatDoor

/- A group's text as in a program: tree's group. Condition: what the iterator hands over; the texts' sizes. -/
namespace Go.Proofs.YtkpfeodffhfejaaGreatDoor
set_option linter.unusedVariables false
set_option linter.unusedSimpArgs false
open Go.RowKit Go.Shelf
attribute [local go_sem] Oper.semAt_some

set_option maxHeartbeats 4000000 in
set_option maxRecDepth 1000000 in
theorem group_sharp (f : SpecD) (k v : Value) (fr0 bk0 : ByteArray) (ty : ByteArray) (gi : Nat) (lb : Array Value) (ss : List Tx) (w : World) (hsh : tsharpB f = true) (hf : ty.size ≤ 900) (hn : ss.length ≤ 2000)
    (hty : ∀ W, Below w.heap.size w W → Calls Tryz.prog 13 #[v] W (Ret W (.string ty))) (hg : Gives gi lb ss w) (hen : ∀ args w, (callFunc gi args).run Tryz.prog w = .ok (.enter gi args) w) :
    Calls Tryz.prog 80 #[.agg #[.bool f.plus, .bool f.minus, .bool f.sharp, .bool f.space, .bool f.zero, .int .i64 f.wid, .int .i64 f.prec, .int .i32 f.verb, k], v, .string fr0, .string bk0, .func (.func gi) #[] lb] w (Ret w (.string ((ty ++ ⟨#[123]⟩) ++ (joinS ⟨#[44, 32]⟩ (txs ss) ++ ⟨#[125]⟩)))) := by
  have HSH : Hid (∀ W, Calls Tryz.prog 104 #[.agg #[.bool f.plus, .bool f.minus, .bool f.sharp, .bool f.space, .bool f.zero, .int .i64 f.wid, .int .i64 f.prec, .int .i32 f.verb, k]] W (Ret W (.bool true))) := Lib.hid fun W => hsh ▸ tsharp_is f k W
  have HG := Lib.hid hg
  have HTY := Lib.hid hty
  obtain ⟨front, hfr⟩ : ∃ front, ty ++ ⟨#[123]⟩ = front := ⟨_, rfl⟩
  have hfz : front.size ≤ 1000 := by rw [← hfr, size_app]; show ty.size + 1 ≤ 1000; omega
  have hcat : ¬ 9223372036854775807 < ty.size + (⟨#[123]⟩ : ByteArray).size := by show ¬ 9223372036854775807 < ty.size + 1; omega
  rw [hfr]
  have HE := Lib.hid hen
  clear hsh hg hen hty
  refine (callsIn_wide (n := 3)).1 ?_
  refine callsIn_of_wp_marks Tryz.func80 rfl trivial ?_ rfl
  simp only [Tryz.ntmps80, List.size_toArray, List.length_cons, List.length_nil, Nat.reduceAdd, Nat.reduceSub, Array.replicate_succ, Array.replicate_zero, List.push_toArray, List.append_toArray, List.nil_append, List.cons_append]
  have HB0 := Lib.hid ((Below.new (w := w) (.cells #[.bool f.plus, .bool f.minus, .bool f.sharp, .bool f.space, .bool f.zero, .int .i64 f.wid, .int .i64 f.prec, .int .i32 f.verb, k] 57)).push (.cells #[.string ⟨#[32]⟩] 9))
  have HS0 : Hid (((w.alloc (.cells #[.bool f.plus, .bool f.minus, .bool f.sharp, .bool f.space, .bool f.zero, .int .i64 f.wid, .int .i64 f.prec, .int .i32 f.verb, k] 57)).alloc (.cells #[.string ⟨#[32]⟩] 9)).heap[w.heap.size + 1]? = some (.cells #[.string ⟨#[32]⟩] 9 (0, 0))) := by
    have h := heap_alloc_new (w.alloc (.cells #[.bool f.plus, .bool f.minus, .bool f.sharp, .bool f.space, .bool f.zero, .int .i64 f.wid, .int .i64 f.prec, .int .i32 f.verb, k] 57)) (.cells #[.string ⟨#[32]⟩] 9)
    rw [World.size_alloc] at h
    exact Lib.hid h
  gi_wp2_with fail
  generalize ((w.alloc (.cells #[.bool f.plus, .bool f.minus, .bool f.sharp, .bool f.space, .bool f.zero, .int .i64 f.wid, .int .i64 f.prec, .int .i32 f.verb, k] 57)).alloc (.cells #[.string ⟨#[32]⟩] 9)) = W0 at HB0 HS0 ⊢
  refine ⟨trivial, (callsIn_wide.2 (HSH.out _)).mono ?_⟩
  rintro e W1 ⟨rfl, hb⟩
  have HB1 := Lib.hid (HB0.out.next hb)
  have HS1 := Lib.hid ((hb.block _ (lt_of_some HS0.out)).trans HS0.out)
  clear hb HB0 HS0 HSH
  gi_wp2_with fail
  refine ⟨trivial, (callsIn_wide.2 (HTY.out _ HB1.out)).mono ?_⟩
  rintro e W5 ⟨rfl, hb⟩
  have HB5 := Lib.hid (HB1.out.next hb)
  have hs5 := (hb.block _ (lt_of_some HS1.out)).trans HS1.out
  have c5 : W5.cell? ⟨w.heap.size + 1, 0, none⟩ = some (.string ⟨#[32]⟩) := cell_of_heap' hs5 0
  have z5 : W5.frozen? ⟨w.heap.size + 1, 0, none⟩ = false := frozen_of_heap' hs5 0
  have HS6 : Hid ((W5.setCell ⟨w.heap.size + 1, 0, none⟩ (.string ⟨#[44, 32]⟩)).heap[w.heap.size + 1]? = some (.cells #[.string ⟨#[44, 32]⟩] 9 (0, 0))) := by
    refine Lib.hid ?_
    rw [set_block hs5 _]
    rfl
  have HB6 := Lib.hid (HB5.out.setCell (p := ⟨w.heap.size + 1, 0, none⟩) (Nat.le_succ _) (.string ⟨#[44, 32]⟩))
  clear hb hs5 HB1 HS1 HTY HB5
  gi_wp2_with fail
  have hsz : (W5.setCell ⟨w.heap.size + 1, 0, none⟩ (.string ⟨#[44, 32]⟩)).heap.size = W5.heap.size := by simp
  generalize (W5.setCell ⟨w.heap.size + 1, 0, none⟩ (.string ⟨#[44, 32]⟩)) = W7 at HB6 HS6 hsz ⊢
  rw [← hsz]
  clear hsz
  obtain ⟨g1, g2, g3⟩ := group_new w W7 ⟨#[44, 32]⟩ (w.heap.size + 1) HB6.out HS6.out
  unfold nextV at g1 g2 g3
  generalize (((W7.alloc (.cells #[.pointer none, .slice none 0 0] 175)).alloc (.cells #[.bool true] 4)).alloc (.cells #[.func (.func 105) #[] #[.pointer (some ⟨W7.heap.size + 1, 0, none⟩), .pointer (some ⟨W7.heap.size, 0, none⟩), .pointer (some ⟨w.heap.size + 1, 0, none⟩)]] 180)) = W2 at g1 g2 g3 ⊢
  have hsb : w.heap.size + 1 < W7.heap.size := lt_of_some HS6.out
  obtain ⟨b, hbb⟩ : ∃ b, W7.heap.size = b := ⟨_, rfl⟩
  obtain ⟨sb, hsbb⟩ : ∃ sb, w.heap.size + 1 = sb := ⟨_, rfl⟩
  rw [hbb, hsbb] at g1 g2 ⊢
  rw [hbb, hsbb] at hsb
  clear hbb HB6 HS6
  refine ⟨trivial, (callsIn_wide.2 (write_string w.heap.size b _ front W2 g1.bld (by rw [strCells_len]; show 0 + _ ≤ _; omega) g1.hB)).mono ?_⟩
  rintro e W3 ⟨rfl, hbl, hb, hk⟩
  have G3 := g1.front hbl hb hk
  have N3 := hk (b + 1 + 1) _ g2 (fun e => by injection e with e; omega) (fun c fz e => by injection e with _ e; cases e)
  have B3 := g3.trans hb
  clear hbl hb hk g1 g2 g3
  gi_wp2_with fail
  have hws : w.heap.size ≤ W3.heap.size := B3.size
  refine wpIn_rangeFunc_ownF rfl (by omega) (gf := gi) (lb := lb) rfl trivial HE.out (w0 := w) HG.out belowK_t (belowK_b hws) B3 (fun _ => rfl)
    (fun (pre : List Tx) W => GW w.heap.size b (b + 1) sb ⟨#[44, 32]⟩ front (txs pre) W ∧ W.heap[b + 1 + 1]? = some (.cells #[.func (.func 105) #[] #[.pointer (some ⟨b + 1, 0, none⟩), .pointer (some ⟨b, 0, none⟩), .pointer (some ⟨sb, 0, none⟩)]] 180 (0, 0)) ∧ Below w.heap.size w W)
    (fun _ _ _ => False) (own_group hws (Nat.le_refl _)) (fun _ _ _ _ _ hs _ _ => hs) ⟨G3, N3, B3⟩
    (fun x => { tmps := #[.agg #[.bool f.plus, .bool f.minus, .bool f.sharp, .bool f.space, .bool f.zero, .int .i64 f.wid, .int .i64 f.prec, .int .i32 f.verb, k], v, .string front, .string ⟨#[125]⟩, .func (.func gi) #[] lb, .pointer (some ⟨w.heap.size, 0, none⟩), undef, undef, undef, undef, .string ⟨#[]⟩, .pointer (some ⟨sb, 0, none⟩), .pointer (some ⟨b, 0, none⟩), .pointer (some ⟨b + 1, 0, none⟩), .pointer (some ⟨b + 1 + 1, 0, none⟩), .string x.1, .agg #[.bool f.plus, .bool f.minus, .bool f.sharp, .bool f.space, .bool f.zero, .int .i64 f.wid, .int .i64 f.prec, .int .i32 f.verb, k], .bool true, v, .string ty, .string front, .func (.func 105) #[] #[.pointer (some ⟨b + 1, 0, none⟩), .pointer (some ⟨b, 0, none⟩), .pointer (some ⟨sb, 0, none⟩)], .string front, .tuple #[.int .i64 front.size, .nilIface], .func (.func gi) #[] lb, .string x.1, undef, undef, undef, undef, undef, undef], defers := [] }) ?assign ?body ?done ?stop
  case assign =>
    intro l x W K hK
    gi_wp2
    exact hK
  case body =>
    rintro l pre x W ⟨hG, hN, hB⟩ hlen
    have c0 : W.cell? ⟨b + 1 + 1, 0, none⟩ = some (.func (.func 105) #[] #[.pointer (some ⟨b + 1, 0, none⟩), .pointer (some ⟨b, 0, none⟩), .pointer (some ⟨sb, 0, none⟩)]) := cell_of_heap' hN 0
    have hbd : (front ++ joinS ⟨#[44, 32]⟩ (txs pre ++ [x.1])).size ≤ 140737488355328 := by
      rw [← txs_snoc, size_app]
      have := join_bound ⟨#[44, 32]⟩ (by decide) (pre ++ [x])
      rw [List.length_append, List.length_singleton] at this
      omega
    have HBD := Lib.hid hbd
    clear hbd
    gi_wp2_with fail
    refine ⟨trivial, (CallsIn.inRound l (callsIn_wide.2 (next_any x.1 hG HBD.out))).mono ?_⟩
    rintro e W' ⟨rfl, hG', hb, hk, hgk⟩
    gi_wp2_with fail
    refine ⟨hk, hb, by rw [txs_snoc]; exact hG', hgk _ _ _ _ (by omega) (by omega) (by decide) hN, hB.trans hb⟩
  case done =>
    rintro D ys W hD rfl ⟨hG, hN, hB⟩ hK
    have hbd : (Lib.strCells (front ++ joinS ⟨#[44, 32]⟩ (txs ys))).length + (⟨#[125]⟩ : ByteArray).size ≤ 140737488355328 := by
      rw [strCells_len, size_app]
      have := join_bound ⟨#[44, 32]⟩ (by decide) ys
      show _ + 1 ≤ _
      omega
    have hDb : D ≠ b := by
      rintro rfl
      obtain ⟨cs, t, fr, h⟩ := IsBuilder_block hG.bld
      rw [h] at hK
      cases hK
    have HBD := Lib.hid hbd
    clear hbd
    gi_wp2_with fail
    refine ⟨trivial, (callsIn_wide.2 (write_string w.heap.size b _ ⟨#[125]⟩ W hG.bld HBD.out hG.hB)).mono ?_⟩
    rintro e W4 ⟨rfl, hbl, hb, hk⟩
    have hK4 := hk D _ hK (fun e => hDb (by injection e)) (fun c fz e => by cases e)
    have hB4 := hB.trans hb
    have e4 : Lib.strCells (front ++ joinS ⟨#[44, 32]⟩ (txs ys)) ++ Lib.strCells ⟨#[125]⟩ = Lib.byteCells (front ++ (joinS ⟨#[44, 32]⟩ (txs ys) ++ ⟨#[125]⟩)).data.toList := by
      rw [← app_assoc]
      show _ = Lib.strCells (front ++ joinS ⟨#[44, 32]⟩ (txs ys) ++ ⟨#[125]⟩)
      unfold Lib.strCells
      rw [bytes_app (front ++ joinS ⟨#[44, 32]⟩ (txs ys)) ⟨#[125]⟩, List.map_append]
    rw [e4] at hbl
    have HBL := Lib.hid (Lib.IsBuilderF.of (.inr hbl))
    clear e4 hbl hb hk
    gi_wp2_with fail
    refine ⟨trivial, (callsIn_wide.2 (Tryz.Builder_String_any_k w.heap.size b _ W4 HBL.out hB4.size)).mono ?_⟩
    rintro e W5 ⟨rfl, _, hb, hk⟩
    have hK5 := hk D _ hK4 (fun e => hDb (by injection e)) (fun c fz e => by cases e)
    have hB5 := hB4.trans hb
    gi_wp2_with fail
    refine ⟨by simp, .inl ⟨_, _, rfl, run_takeDeferred hK5, ?_⟩⟩
    exact ⟨_, results_tmp rfl _ _ _, rfl, hB5.trans (belowK_b (w := w) (Nat.le_refl _) W5 D _ _ (by omega) hK5 rfl rfl)⟩
  case stop =>
    rintro D c pre W _ _ h _
    exact h.elim
end Go.Proofs.YtkpfeodffhfejaaGreatDoor
