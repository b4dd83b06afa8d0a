/- The contracts of the store free.Free at three element types: what New, Put, Get, Len and Made do to the store's two blocks. No condition. -/
import Derived.Test.YtdhbnldigbjkkaaChecked
import Derived.WalkKit
import Derived.WalkLawsBesides
import Derived.WalkSpells
import Derived.Conc.LoneSelect
import Derived.Conc.LoneSelectN
import Derived.Lib.Hide
namespace Go.Proofs.Ytdhbnldigbjkkaa
open Go.RowKit Go.Conc

def CodeN (P : Program) (c : Code) (Q : Exit → Act → World → Prop) (a : Act) (w : World) : Prop :=
  ∀ (b : Frame) (k : List Item) (cs : List Frame), b.kind = .normal →
    ∃ e a' w', Q e a' w' ∧ Arrives P (lone (b.at a (.code c :: k)) cs w) b k cs e a' w'

theorem codeN_of {P : Program} {c : Code} {Q : Exit → Act → World → Prop} {a : Act} {w : World} (h : c.wp P Q a w) : CodeN P c Q a w :=
  fun b k cs _ => h b k cs

theorem codeN_seq {P : Program} {Q : Exit → Act → World → Prop} {a : Act} {w : World} {x y : Code}
    (h : CodeN P x (Exit.then (CodeN P y Q) Q) a w) : CodeN P (Code.seq x y) Q a w := by
  intro b k cs hk
  obtain ⟨e, a₁, w₁, hq, harr⟩ := h b (.code y :: k) cs hk
  cases e with
  | normal =>
    obtain ⟨e₂, a₂, w₂, hq₂, harr₂⟩ := hq b k cs hk
    exact ⟨e₂, a₂, w₂, hq₂, .of_steps (.head step_seq harr) harr₂⟩
  | exit id => exact ⟨_, a₁, w₁, hq, .of_steps (.one step_seq) (.pass (x := .code y) rfl (fun _ _ => .inl (by simp)) harr)⟩
  | goto l => exact ⟨_, a₁, w₁, hq, .of_steps (.one step_seq) (.pass (x := .code y) rfl (fun _ _ => .inl (by simp)) harr)⟩
  | ret => exact ⟨_, a₁, w₁, hq, .of_steps (.one step_seq) (.pass (x := .code y) rfl (fun _ _ => .inl (by simp)) harr)⟩
  | panic ch => exact ⟨_, a₁, w₁, hq, .of_steps (.one step_seq) (.pass (x := .code y) rfl (fun _ _ => .inl (by simp)) harr)⟩
  | outgrown => exact ⟨_, a₁, w₁, hq, .of_steps (.one step_seq) (.pass (x := .code y) rfl (fun _ _ => .inl (by simp)) harr)⟩

theorem callsN {P : Program} {f : FuncId} {fn : Func} {c : Code} {args : Array Value} {w : World} {R : Ending → World → Prop}
    (hf : P.funcs[f]? = some fn) (hb : fn.body = some c)
    (h : CodeN P c (bodyPost P fn R) { tmps := args ++ Array.replicate (fn.ntmps - args.size) undef, defers := [] } w) :
    Calls P f args w R := by
  intro cs
  let b : Frame := { (default : Frame) with fn := f, kind := .normal }
  have henter : Frame.enter P f args .normal =
      b.at { tmps := args ++ Array.replicate (fn.ntmps - args.size) undef, defers := [] } [.code c] := by
    simp [Frame.enter, Frame.at, hf, hb, b]
  obtain ⟨e, a', w', hq, harr⟩ := h b [] cs rfl
  rw [← henter] at harr
  cases e with
  | normal =>
    obtain ⟨hd, v, hr, hR⟩ := hq
    exact ⟨.returned v, w', _, hR, Steps.trans harr (.one step_end), rfl, rfl, hd, rfl, fn, hf, hr⟩
  | ret =>
    obtain ⟨hd, v, hr, hR⟩ := hq
    obtain ⟨todo, hs⟩ := harr
    exact ⟨.returned v, w', _, hR, hs, rfl, rfl, hd, rfl, fn, hf, hr⟩
  | panic chain =>
    obtain ⟨hd, hR⟩ := hq
    obtain ⟨todo, hs⟩ := harr
    exact ⟨.panicked chain, w', _, hR, hs, rfl, rfl, hd, fn, hf⟩
  | exit id => exact hq.elim
  | goto l => exact hq.elim
  | outgrown => exact ⟨.outgrown, w', b, hq, harr.resolve_left (by simp [b]), rfl, trivial⟩

theorem codeN_seq_k {P : Program} {Q : Exit → Act → World → Prop} {a : Act} {w : World} {x y : Code}
    (h : ∀ K : Act → World → Prop, (∀ a w, CodeN P y Q a w → K a w) → CodeN P x (Exit.then K Q) a w) : CodeN P (Code.seq x y) Q a w :=
  codeN_seq (h _ fun _ _ h => h)

theorem codeN_sel {P : Program} {Q : Exit → Act → World → Prop} {a : Act} {w w' w'' : World} {id : Nat} {o : Oper} {l : List Oper} {cases : Array CommCase} {v : Value}
    (hw : Region.wanted o (yielded (o :: l).toArray a.tmps) = true)
    (hr : (execOp a.eval o).run P w = .ok (.comm cases false .select) w')
    (hstep : ∀ fr cs es, stepG P true (G fr cs) w = .comm (G fr cs) cases false .select w' es → step P (solo (G fr cs) w) = .next (solo (G (fr.finish v) cs) w''))
    (h : wpList P (o :: l).toArray Q l (a.put o.dst v) w'') : CodeN P (.region id (o :: l).toArray false) Q a w := by
  intro b k cs hk
  have h' : wpOps P (o :: l).toArray Q (List.range' 1 l.length) (a.put o.dst v) w'' := by
    rw [wpOps_eq_wpList l 1 (fun j => by simp [Nat.add_comm 1 j])]; exact h
  obtain ⟨e, a', w3, q, r⟩ := wp_ops _ _ w'' h' b k cs
  refine ⟨e, a', w3, q, .of_steps (.head step_region ?_) r⟩
  have h0 : List.range (o :: l).toArray.size = 0 :: List.range' 1 l.length := by
    rw [List.range_eq_range']; simp [List.range'_succ]
  have ho : (o :: l).toArray[0]? = some o := by simp
  rw [h0]
  have hs := hstep (b.at a (.inRegion (o :: l).toArray (0 :: List.range' 1 l.length) :: k)) cs _ (stepG_comm (P := P) (main := true) (b := b) (a := a) (k := k) (cs := cs) (w := w) ho hw (by rw [hk]; decide) hr)
  rw [Frame.finish_at, ho] at hs
  exact .one hs

/-- A store: its block, its channel's block. -/
def Lie (T : TypeId) (w : World) (b c cap : Nat) (buf : Array Value) (more : Value) (made : Int) : Prop :=
  w.heap[b]? = some (.cells #[.chan (some c), more, .int .i64 made] T (0, 0)) ∧ ∃ s r, w.heap[c]? = some (.chan cap buf false s r false)

theorem Lie.ne {T : TypeId} {w : World} {b c cap : Nat} {buf : Array Value} {more : Value} {made : Int} (h : Lie T w b c cap buf more made) : b ≠ c := by
  rintro rfl
  obtain ⟨h1, s, r, h2⟩ := h
  rw [h1] at h2; cases h2

/-- But for two blocks the world is as it was. -/
structure Keep (b c : Nat) (w w' : World) : Prop where
  os : w'.os = w.os
  tape : w'.tape = w.tape
  output : w'.output = w.output
  size : w.heap.size ≤ w'.heap.size
  block : ∀ k, k < w.heap.size → k ≠ b → k ≠ c → w'.heap[k]? = w.heap[k]?

theorem Keep.refl (b c : Nat) (w : World) : Keep b c w w := ⟨rfl, rfl, rfl, Nat.le_refl _, fun _ _ _ _ => rfl⟩
theorem Keep.trans {b c : Nat} {u v w : World} (h : Keep b c u v) (k : Keep b c v w) : Keep b c u w :=
  ⟨k.os.trans h.os, k.tape.trans h.tape, k.output.trans h.output, Nat.le_trans h.size k.size, fun i hi h1 h2 => (k.block i (Nat.lt_of_lt_of_le hi h.size) h1 h2).trans (h.block i hi h1 h2)⟩
theorem Keep.chan (b c : Nat) (w : World) (cap : Nat) (buf : Array Value) (s r : Nat) : Keep b c w (w.setChan c cap buf false s r false) :=
  ⟨rfl, rfl, rfl, by simp [World.setChan], fun k _ _ h => by simp only [World.setChan]; rw [Array.getElem?_setIfInBounds_ne (by omega)]⟩
theorem Keep.cell (b c o : Nat) (w : World) (v : Value) : Keep b c w (w.setCell ⟨b, o, none⟩ v) :=
  ⟨rfl, rfl, rfl, by simp [World.setCell], fun k _ h _ => Below.heap_setCell _ _ _ _ h⟩

theorem Lie.setChan {T : TypeId} {w : World} {b c cap : Nat} {buf : Array Value} {more : Value} {made : Int} (h : Lie T w b c cap buf more made) (buf' : Array Value) (s r : Nat) :
    Lie T (w.setChan c cap buf' false s r false) b c cap buf' more made := by
  have hn := h.ne
  obtain ⟨h1, s0, r0, h2⟩ := h
  have hlt := lt_of_block h2
  refine ⟨?_, s, r, heap_setChan w c cap buf' false s r false hlt⟩
  simp only [World.setChan]
  rw [Array.getElem?_setIfInBounds_ne (by omega)]; exact h1

theorem Lie.setMade {T : TypeId} {w : World} {b c cap : Nat} {buf : Array Value} {more : Value} {made : Int} (h : Lie T w b c cap buf more made) (n : Int) :
    Lie T (w.setCell ⟨b, 2, none⟩ (.int .i64 n)) b c cap buf more n := by
  have hn := h.ne
  obtain ⟨h1, s0, r0, h2⟩ := h
  have hlt := lt_of_block h1
  refine ⟨?_, s0, r0, ?_⟩
  · have h' : w.heap[b] = .cells #[.chan (some c), more, .int .i64 made] T (0, 0) := by simpa [Array.getElem?_eq_getElem hlt] using h1
    show (w.heap.modify b _)[b]? = _
    rw [Array.getElem?_eq_getElem (by simpa using hlt), Array.getElem_modify_self, h']
    rfl
  · rw [Below.heap_setCell _ _ _ _ (by exact fun e => hn e.symm)]; exact h2

theorem equalInChanNil {P : Program} {t e : TypeId} {dir : ChanDir} (h : P.underlying t = some (.chan dir e)) (w : World) (d : Nat) (a : Option Nat) :
    Sem.run P (Op.equalIn (d + 1) t (.chan a) (.chan none)) w = .ok (a == none) w := by
  simp [Op.equalIn, run_underlying h]
theorem eqlChanNil {P : Program} {t e : TypeId} {dir : ChanDir} (h : P.underlying t = some (.chan dir e)) (w : World) (a : Option Nat) :
    Sem.run P (binOp .eql t (.chan a) (.chan none)) w = .ok (.bool (a == none)) w := by
  simp only [binOp]
  simp [Op.equal, Op.maxDepth, equalInChanNil h w 9999]
theorem eqlChanNil_some {P : Program} {t e : TypeId} {dir : ChanDir} (h : P.underlying t = some (.chan dir e)) (w : World) (a : Nat) :
    Sem.run P (binOp .eql t (.chan (some a)) (.chan none)) w = .ok (.bool false) w := eqlChanNil h w (some a)

theorem Keep.alloc (b c : Nat) (w : World) (o : Obj) : Keep b c w (w.alloc o) :=
  ⟨rfl, rfl, rfl, by simp, fun k hk _ _ => Below.heap_alloc _ _ _ hk⟩
theorem Lie.alloc {T : TypeId} {w : World} {b c cap : Nat} {buf : Array Value} {more : Value} {made : Int} (h : Lie T w b c cap buf more made) (o : Obj) :
    Lie T (w.alloc o) b c cap buf more made := by
  obtain ⟨h1, s0, r0, h2⟩ := h
  exact ⟨by rw [Below.heap_alloc _ _ _ (lt_of_block h1)]; exact h1, s0, r0, by rw [Below.heap_alloc _ _ _ (lt_of_block h2)]; exact h2⟩

theorem equalInFuncNil {P : Program} {t : TypeId} {ps rs : Array TypeId} {v : Bool} (h : P.underlying t = some (.func ps rs v)) (w : World) (d : Nat) (f : Fn) (a c : Array Value) :
    Sem.run P (Op.equalIn (d + 1) t (.func f a c) .nilFunc) w = .ok false w ∧ Sem.run P (Op.equalIn (d + 1) t .nilFunc .nilFunc) w = .ok true w := by
  constructor <;> simp [Op.equalIn, run_underlying h]
theorem eqlFuncNil {P : Program} {t : TypeId} {ps rs : Array TypeId} {v : Bool} (h : P.underlying t = some (.func ps rs v)) (w : World) (f : Fn) (a c : Array Value) :
    Sem.run P (binOp .eql t (.func f a c) .nilFunc) w = .ok (.bool false) w := by
  simp only [binOp]
  simp [Op.equal, Op.maxDepth, equalInFuncNil h w 9999]
theorem eqlNilNil {P : Program} {t : TypeId} {ps rs : Array TypeId} {v : Bool} (h : P.underlying t = some (.func ps rs v)) (w : World) :
    Sem.run P (binOp .eql t .nilFunc .nilFunc) w = .ok (.bool true) w := by
  simp only [binOp]
  simp [Op.equal, Op.maxDepth, (equalInFuncNil h w 9999 default #[] #[]).2]

theorem heap_alloc_new' (w : World) (o : Obj) (k : Nat) (h : k = w.heap.size) : (w.alloc o).heap[k]? = some o := by rw [h]; exact heap_alloc_new w o
theorem size_setCell (w : World) (a : Addr) (v : Value) : (w.setCell a v).heap.size = w.heap.size := Array.size_modify

/-- What New leaves. -/
def NewPost (T : TypeId) (w : World) (n : Nat) (more : Value) (e : Ending) (w' : World) : Prop :=
  ∃ b c, e = .returned (.pointer (some ⟨b, 0, none⟩)) ∧ Lie T w' b c n #[] more 0 ∧ w.heap.size ≤ b ∧ w.heap.size ≤ c ∧ b < w'.heap.size ∧ c < w'.heap.size ∧ Below w.heap.size w w'


set_option maxHeartbeats 400000 in
theorem putI_room {w : World} {b c cap : Nat} {buf : Array Value} {more : Value} {made : Int} (x : Int) (h : Lie 58 w b c cap buf more made) (hroom : buf.size < cap) :
    Calls Try.prog 13 #[.pointer (some ⟨b, 0, none⟩), .int .i64 x] w fun e w' => e = .returned (.bool true) ∧ Lie 58 w' b c cap (buf.push (.int .i64 x)) more made ∧ Keep b c w w' := by
  obtain ⟨hb, s, r, hc⟩ := id h
  have hcell : w.cell? ⟨b, 0, none⟩ = some (.chan (some c)) := by simp [World.cell?, hb]
  refine callsN Try.func13 rfl ?_
  simp only [Try.ntmps13, List.size_toArray, List.length_cons, List.length_nil, Nat.reduceAdd, Nat.reduceSub, Array.replicate_succ, Array.replicate_zero, List.push_toArray, List.append_toArray, List.nil_append, List.cons_append]
  refine codeN_seq_k fun K hK => codeN_of ?_
  go_wp2
  refine codeN_seq_k fun K hK => codeN_of ?_
  go_wp2
  refine codeN_seq_k fun K hK => codeN_of ?_
  go_wp2
  refine codeN_seq_k fun K hK => ?_
  refine codeN_sel (cases := #[scase c (.int .i64 x) (.int .i64 0)]) (by rfl) (w' := w) (by simp [go_sem, execOp, scase, Act.eval]) (fun fr cs es hh => step_lone_select_send_room hh hc hroom) ?_
  go_wp2
  refine codeN_of ?_
  go_wp2
  go_ret
  exact ⟨rfl, h.setChan _ _ _, Keep.chan _ _ _ _ _ _ _⟩

set_option maxHeartbeats 400000 in
theorem putI_full {w : World} {b c cap : Nat} {buf : Array Value} {more : Value} {made : Int} (x : Int) (h : Lie 58 w b c cap buf more made) (hfull : cap ≤ buf.size) :
    Calls Try.prog 13 #[.pointer (some ⟨b, 0, none⟩), .int .i64 x] w fun e w' => e = .returned (.bool false) ∧ w = w' := by
  obtain ⟨hb, s, r, hc⟩ := id h
  have hcell : w.cell? ⟨b, 0, none⟩ = some (.chan (some c)) := by simp [World.cell?, hb]
  refine callsN Try.func13 rfl ?_
  simp only [Try.ntmps13, List.size_toArray, List.length_cons, List.length_nil, Nat.reduceAdd, Nat.reduceSub, Array.replicate_succ, Array.replicate_zero, List.push_toArray, List.append_toArray, List.nil_append, List.cons_append]
  refine codeN_seq_k fun K hK => codeN_of ?_
  go_wp2
  refine codeN_seq_k fun K hK => codeN_of ?_
  go_wp2
  refine codeN_seq_k fun K hK => codeN_of ?_
  go_wp2
  refine codeN_seq_k fun K hK => ?_
  refine codeN_sel (cases := #[scase c (.int .i64 x) (.int .i64 0)]) (by rfl) (w' := w) (by simp [go_sem, execOp, scase, Act.eval]) (fun fr cs es hh => step_lone_select_send_full hh hc hfull) ?_
  go_wp2
  refine codeN_of ?_
  go_wp2
  go_ret
  exact ⟨rfl, rfl⟩

set_option maxHeartbeats 400000 in
theorem getI_some {w : World} {b c cap : Nat} {buf : Array Value} {more : Value} {made : Int} {x : Value} (h : Lie 58 w b c cap buf more made) (hsome : 0 < buf.size) (hz : buf.getD 0 undef = x) :
    Calls Try.prog 15 #[.pointer (some ⟨b, 0, none⟩)] w fun e w' => e = .returned x ∧ Lie 58 w' b c cap (buf.extract 1 buf.size) more made ∧ Keep b c w w' := by
  obtain ⟨hb, s, r, hc⟩ := id h
  have hcell : w.cell? ⟨b, 0, none⟩ = some (.chan (some c)) := by simp [World.cell?, hb]
  have hnil := eqlChanNil_some Try.underlying56 w c
  refine callsN Try.func15 rfl ?_
  simp only [Try.ntmps15, List.size_toArray, List.length_cons, List.length_nil, Nat.reduceAdd, Nat.reduceSub, Array.replicate_succ, Array.replicate_zero, List.push_toArray, List.append_toArray, List.nil_append, List.cons_append]
  refine codeN_seq_k fun K hK => codeN_of ?_
  go_wp2
  refine codeN_seq_k fun K hK => codeN_of ?_
  go_wp2
  refine codeN_seq_k fun K hK => codeN_of ?_
  go_wp2
  refine codeN_seq_k fun K hK => ?_
  refine codeN_sel (cases := #[rcase c (.int .i64 0)]) (by rfl) (w' := w) (by simp [go_sem, execOp, rcase, Act.eval]) (fun fr cs es hh => step_lone_select_recv_buf hh hc hsome) ?_
  rw [hz]
  clear hz
  go_wp2
  refine codeN_of ?_
  go_wp2
  go_ret
  exact ⟨rfl, h.setChan _ _ _, Keep.chan _ _ _ _ _ _ _⟩

set_option maxHeartbeats 400000 in
theorem getI_none {w : World} {b c cap : Nat} {made : Int} {f : Nat} {cap0 : Array Value} {R : Ending → World → Prop} (h : Lie 58 w b c cap #[] (.func (.func f) #[] cap0) made) (h0 : 0 ≤ made) (h1 : made ≤ 1000)
    (hcf : ∀ W, Sem.run Try.prog (callFunc f cap0) W = .ok (.enter f cap0) W)
    (hcall : ∀ w1, Lie 58 w1 b c cap #[] (.func (.func f) #[] cap0) (made + 1) → Keep b c w w1 → Calls Try.prog f cap0 w1 fun e w' => ∃ v, e = .returned v ∧ R e w') :
    Calls Try.prog 15 #[.pointer (some ⟨b, 0, none⟩)] w R := by
  obtain ⟨hb, s, r, hc⟩ := id h
  have hcell : w.cell? ⟨b, 0, none⟩ = some (.chan (some c)) := by simp [World.cell?, hb]
  have hcell1 : w.cell? ⟨b, 1, none⟩ = some (.func (.func f) #[] cap0) := by simp [World.cell?, hb]
  have hcell2 : w.cell? ⟨b, 2, none⟩ = some (.int .i64 made) := by simp [World.cell?, hb]
  have hfr : ∀ o, w.frozen? ⟨b, o, none⟩ = false := by intro o; simp [World.frozen?, hb]
  have hnil := eqlChanNil_some Try.underlying56 w c
  have H := Lib.hid hcall
  clear hcall
  refine callsN Try.func15 rfl ?_
  simp only [Try.ntmps15, List.size_toArray, List.length_cons, List.length_nil, Nat.reduceAdd, Nat.reduceSub, Array.replicate_succ, Array.replicate_zero, List.push_toArray, List.append_toArray, List.nil_append, List.cons_append]
  refine codeN_seq_k fun K hK => codeN_of ?_
  go_wp2
  refine codeN_seq_k fun K hK => codeN_of ?_
  go_wp2
  refine codeN_seq_k fun K hK => codeN_of ?_
  go_wp2
  refine codeN_seq_k fun K hK => ?_
  refine codeN_sel (cases := #[rcase c (.int .i64 0)]) (by rfl) (w' := w) (by simp [go_sem, execOp, rcase, Act.eval]) (fun fr cs es hh => step_lone_select_default hh hc) ?_
  go_wp2
  refine codeN_of ?_
  go_wp2_with fail
  refine (H.out _ (h.setMade _) (Keep.cell _ _ _ _ _)).mono ?_
  rintro e w' ⟨v, rfl, hR⟩
  go_wp2
  exact hR

theorem lenI_any {w : World} {b c cap : Nat} {buf : Array Value} {more : Value} {made : Int} (h : Lie 58 w b c cap buf more made) :
    Calls Try.prog 17 #[.pointer (some ⟨b, 0, none⟩)] w fun e w' => e = .returned (.int .i64 buf.size) ∧ w = w' := by
  obtain ⟨hb, s, r, hc⟩ := id h
  have hcell : w.cell? ⟨b, 0, none⟩ = some (.chan (some c)) := by simp [World.cell?, hb]
  have hlen := fun ty => run_len_chan (P := Try.prog) 56 ty Try.underlying56 hc
  go_enter Try.func17, Try.ntmps17
  go_wp2
  go_ret
  exact ⟨rfl, rfl⟩

theorem madeI_any {w : World} {b c cap : Nat} {buf : Array Value} {more : Value} {made : Int} (h : Lie 58 w b c cap buf more made) :
    Calls Try.prog 18 #[.pointer (some ⟨b, 0, none⟩)] w fun e w' => e = .returned (.int .i64 made) ∧ w = w' := by
  obtain ⟨hb, s, r, hc⟩ := id h
  have hcell : w.cell? ⟨b, 2, none⟩ = some (.int .i64 made) := by simp [World.cell?, hb]
  go_enter Try.func18, Try.ntmps18
  go_wp2
  go_ret
  exact ⟨rfl, rfl⟩

theorem zeroI_any (w : World) : Calls Try.prog 30 #[] w fun e w' => e = .returned (.int .i64 0) ∧ w = w' := by
  go_enter Try.func30, Try.ntmps30
  go_wp2
  go_ret
  exact ⟨rfl, rfl⟩


set_option maxHeartbeats 400000 in
theorem putS_room {w : World} {b c cap : Nat} {buf : Array Value} {more : Value} {made : Int} (x : ByteArray) (h : Lie 47 w b c cap buf more made) (hroom : buf.size < cap) :
    Calls Try.prog 22 #[.pointer (some ⟨b, 0, none⟩), .string x] w fun e w' => e = .returned (.bool true) ∧ Lie 47 w' b c cap (buf.push (.string x)) more made ∧ Keep b c w w' := by
  obtain ⟨hb, s, r, hc⟩ := id h
  have hcell : w.cell? ⟨b, 0, none⟩ = some (.chan (some c)) := by simp [World.cell?, hb]
  refine callsN Try.func22 rfl ?_
  simp only [Try.ntmps22, List.size_toArray, List.length_cons, List.length_nil, Nat.reduceAdd, Nat.reduceSub, Array.replicate_succ, Array.replicate_zero, List.push_toArray, List.append_toArray, List.nil_append, List.cons_append]
  refine codeN_seq_k fun K hK => codeN_of ?_
  go_wp2
  refine codeN_seq_k fun K hK => codeN_of ?_
  go_wp2
  refine codeN_seq_k fun K hK => codeN_of ?_
  go_wp2
  refine codeN_seq_k fun K hK => ?_
  refine codeN_sel (cases := #[scase c (.string x) (.string ⟨#[]⟩)]) (by rfl) (w' := w) (by simp [go_sem, execOp, scase, Act.eval]) (fun fr cs es hh => step_lone_select_send_room hh hc hroom) ?_
  go_wp2
  refine codeN_of ?_
  go_wp2
  go_ret
  exact ⟨rfl, h.setChan _ _ _, Keep.chan _ _ _ _ _ _ _⟩

set_option maxHeartbeats 400000 in
theorem putS_full {w : World} {b c cap : Nat} {buf : Array Value} {more : Value} {made : Int} (x : ByteArray) (h : Lie 47 w b c cap buf more made) (hfull : cap ≤ buf.size) :
    Calls Try.prog 22 #[.pointer (some ⟨b, 0, none⟩), .string x] w fun e w' => e = .returned (.bool false) ∧ w = w' := by
  obtain ⟨hb, s, r, hc⟩ := id h
  have hcell : w.cell? ⟨b, 0, none⟩ = some (.chan (some c)) := by simp [World.cell?, hb]
  refine callsN Try.func22 rfl ?_
  simp only [Try.ntmps22, List.size_toArray, List.length_cons, List.length_nil, Nat.reduceAdd, Nat.reduceSub, Array.replicate_succ, Array.replicate_zero, List.push_toArray, List.append_toArray, List.nil_append, List.cons_append]
  refine codeN_seq_k fun K hK => codeN_of ?_
  go_wp2
  refine codeN_seq_k fun K hK => codeN_of ?_
  go_wp2
  refine codeN_seq_k fun K hK => codeN_of ?_
  go_wp2
  refine codeN_seq_k fun K hK => ?_
  refine codeN_sel (cases := #[scase c (.string x) (.string ⟨#[]⟩)]) (by rfl) (w' := w) (by simp [go_sem, execOp, scase, Act.eval]) (fun fr cs es hh => step_lone_select_send_full hh hc hfull) ?_
  go_wp2
  refine codeN_of ?_
  go_wp2
  go_ret
  exact ⟨rfl, rfl⟩

set_option maxHeartbeats 400000 in
theorem getS_some {w : World} {b c cap : Nat} {buf : Array Value} {more : Value} {made : Int} {x : Value} (h : Lie 47 w b c cap buf more made) (hsome : 0 < buf.size) (hz : buf.getD 0 undef = x) :
    Calls Try.prog 24 #[.pointer (some ⟨b, 0, none⟩)] w fun e w' => e = .returned x ∧ Lie 47 w' b c cap (buf.extract 1 buf.size) more made ∧ Keep b c w w' := by
  obtain ⟨hb, s, r, hc⟩ := id h
  have hcell : w.cell? ⟨b, 0, none⟩ = some (.chan (some c)) := by simp [World.cell?, hb]
  have hnil := eqlChanNil_some Try.underlying45 w c
  refine callsN Try.func24 rfl ?_
  simp only [Try.ntmps24, List.size_toArray, List.length_cons, List.length_nil, Nat.reduceAdd, Nat.reduceSub, Array.replicate_succ, Array.replicate_zero, List.push_toArray, List.append_toArray, List.nil_append, List.cons_append]
  refine codeN_seq_k fun K hK => codeN_of ?_
  go_wp2
  refine codeN_seq_k fun K hK => codeN_of ?_
  go_wp2
  refine codeN_seq_k fun K hK => codeN_of ?_
  go_wp2
  refine codeN_seq_k fun K hK => ?_
  refine codeN_sel (cases := #[rcase c (.string ⟨#[]⟩)]) (by rfl) (w' := w) (by simp [go_sem, execOp, rcase, Act.eval]) (fun fr cs es hh => step_lone_select_recv_buf hh hc hsome) ?_
  rw [hz]
  clear hz
  go_wp2
  refine codeN_of ?_
  go_wp2
  go_ret
  exact ⟨rfl, h.setChan _ _ _, Keep.chan _ _ _ _ _ _ _⟩

set_option maxHeartbeats 400000 in
theorem getS_none {w : World} {b c cap : Nat} {made : Int} {f : Nat} {cap0 : Array Value} {R : Ending → World → Prop} (h : Lie 47 w b c cap #[] (.func (.func f) #[] cap0) made) (h0 : 0 ≤ made) (h1 : made ≤ 1000)
    (hcf : ∀ W, Sem.run Try.prog (callFunc f cap0) W = .ok (.enter f cap0) W)
    (hcall : ∀ w1, Lie 47 w1 b c cap #[] (.func (.func f) #[] cap0) (made + 1) → Keep b c w w1 → Calls Try.prog f cap0 w1 fun e w' => ∃ v, e = .returned v ∧ R e w') :
    Calls Try.prog 24 #[.pointer (some ⟨b, 0, none⟩)] w R := by
  obtain ⟨hb, s, r, hc⟩ := id h
  have hcell : w.cell? ⟨b, 0, none⟩ = some (.chan (some c)) := by simp [World.cell?, hb]
  have hcell1 : w.cell? ⟨b, 1, none⟩ = some (.func (.func f) #[] cap0) := by simp [World.cell?, hb]
  have hcell2 : w.cell? ⟨b, 2, none⟩ = some (.int .i64 made) := by simp [World.cell?, hb]
  have hfr : ∀ o, w.frozen? ⟨b, o, none⟩ = false := by intro o; simp [World.frozen?, hb]
  have hnil := eqlChanNil_some Try.underlying45 w c
  have H := Lib.hid hcall
  clear hcall
  refine callsN Try.func24 rfl ?_
  simp only [Try.ntmps24, List.size_toArray, List.length_cons, List.length_nil, Nat.reduceAdd, Nat.reduceSub, Array.replicate_succ, Array.replicate_zero, List.push_toArray, List.append_toArray, List.nil_append, List.cons_append]
  refine codeN_seq_k fun K hK => codeN_of ?_
  go_wp2
  refine codeN_seq_k fun K hK => codeN_of ?_
  go_wp2
  refine codeN_seq_k fun K hK => codeN_of ?_
  go_wp2
  refine codeN_seq_k fun K hK => ?_
  refine codeN_sel (cases := #[rcase c (.string ⟨#[]⟩)]) (by rfl) (w' := w) (by simp [go_sem, execOp, rcase, Act.eval]) (fun fr cs es hh => step_lone_select_default hh hc) ?_
  go_wp2
  refine codeN_of ?_
  go_wp2_with fail
  refine (H.out _ (h.setMade _) (Keep.cell _ _ _ _ _)).mono ?_
  rintro e w' ⟨v, rfl, hR⟩
  go_wp2
  exact hR

theorem lenS_any {w : World} {b c cap : Nat} {buf : Array Value} {more : Value} {made : Int} (h : Lie 47 w b c cap buf more made) :
    Calls Try.prog 23 #[.pointer (some ⟨b, 0, none⟩)] w fun e w' => e = .returned (.int .i64 buf.size) ∧ w = w' := by
  obtain ⟨hb, s, r, hc⟩ := id h
  have hcell : w.cell? ⟨b, 0, none⟩ = some (.chan (some c)) := by simp [World.cell?, hb]
  have hlen := fun ty => run_len_chan (P := Try.prog) 45 ty Try.underlying45 hc
  go_enter Try.func23, Try.ntmps23
  go_wp2
  go_ret
  exact ⟨rfl, rfl⟩

theorem madeS_any {w : World} {b c cap : Nat} {buf : Array Value} {more : Value} {made : Int} (h : Lie 47 w b c cap buf more made) :
    Calls Try.prog 25 #[.pointer (some ⟨b, 0, none⟩)] w fun e w' => e = .returned (.int .i64 made) ∧ w = w' := by
  obtain ⟨hb, s, r, hc⟩ := id h
  have hcell : w.cell? ⟨b, 2, none⟩ = some (.int .i64 made) := by simp [World.cell?, hb]
  go_enter Try.func25, Try.ntmps25
  go_wp2
  go_ret
  exact ⟨rfl, rfl⟩

theorem zeroS_any (w : World) : Calls Try.prog 32 #[] w fun e w' => e = .returned (.string ⟨#[]⟩) ∧ w = w' := by
  go_enter Try.func32, Try.ntmps32
  go_wp2
  go_ret
  exact ⟨rfl, rfl⟩

theorem zeroA_any (w : World) : Calls Try.prog 33 #[] w fun e w' => e = .returned (.agg #[.int .i64 0, .int .i64 0]) ∧ Below w.heap.size w w' := by
  go_enter Try.func33, Try.ntmps33
  go_wp2
  exact bodyPost_ret (v := .agg #[.int .i64 0, .int .i64 0]) (by simp [results, Try.f33, go_sem]) rfl ⟨rfl, ((Below.refl _ _).alloc (Nat.le_refl _) _).alloc (by simp) _⟩

theorem madeA_any {w : World} {b c cap : Nat} {buf : Array Value} {more : Value} {made : Int} (h : Lie 61 w b c cap buf more made) :
    Calls Try.prog 29 #[.pointer (some ⟨b, 0, none⟩)] w fun e w' => e = .returned (.int .i64 made) ∧ w = w' := by
  obtain ⟨hb, s, r, hc⟩ := id h
  have hcell : w.cell? ⟨b, 2, none⟩ = some (.int .i64 made) := by simp [World.cell?, hb]
  go_enter Try.func29, Try.ntmps29
  go_wp2
  go_ret
  exact ⟨rfl, rfl⟩

set_option maxHeartbeats 400000 in
theorem putA_room {w : World} {b c cap : Nat} {buf : Array Value} {more : Value} {made : Int} (x y : Int) (h : Lie 61 w b c cap buf more made) (hroom : buf.size < cap) :
    Calls Try.prog 28 #[.pointer (some ⟨b, 0, none⟩), .agg #[.int .i64 x, .int .i64 y]] w fun e w' => e = .returned (.bool true) ∧ Lie 61 w' b c cap (buf.push (.agg #[.int .i64 x, .int .i64 y])) more made ∧ Keep b c w w' := by
  obtain ⟨hb, s, r, hc⟩ := h.alloc (.cells #[.int .i64 x, .int .i64 y] 49)
  have hlt : b < w.heap.size := lt_of_block h.1
  have hcell : w.cell? ⟨b, 0, none⟩ = some (.chan (some c)) := by simp [World.cell?, h.1]
  clear hb
  refine callsN Try.func28 rfl ?_
  simp only [Try.ntmps28, List.size_toArray, List.length_cons, List.length_nil, Nat.reduceAdd, Nat.reduceSub, Array.replicate_succ, Array.replicate_zero, List.push_toArray, List.append_toArray, List.nil_append, List.cons_append]
  refine codeN_seq_k fun K hK => codeN_of ?_
  go_wp2
  refine codeN_seq_k fun K hK => codeN_of ?_
  go_wp2
  refine codeN_seq_k fun K hK => codeN_of ?_
  go_wp2
  refine codeN_seq_k fun K hK => ?_
  refine codeN_sel (cases := #[scase c (.agg #[.int .i64 x, .int .i64 y]) (.agg #[.int .i64 0, .int .i64 0])]) (by rfl) (w' := w.alloc (.cells #[.int .i64 x, .int .i64 y] 49)) (by simp [go_sem, execOp, scase, Act.eval]) (fun fr cs es hh => step_lone_select_send_room hh hc hroom) ?_
  go_wp2
  refine codeN_of ?_
  go_wp2
  go_ret
  exact ⟨rfl, (h.alloc _).setChan _ _ _, (Keep.alloc _ _ _ _).trans (Keep.chan _ _ _ _ _ _ _)⟩

set_option maxHeartbeats 400000 in
theorem putA_full {w : World} {b c cap : Nat} {buf : Array Value} {more : Value} {made : Int} (x y : Int) (h : Lie 61 w b c cap buf more made) (hfull : cap ≤ buf.size) :
    Calls Try.prog 28 #[.pointer (some ⟨b, 0, none⟩), .agg #[.int .i64 x, .int .i64 y]] w fun e w' => e = .returned (.bool false) ∧ Lie 61 w' b c cap buf more made ∧ Keep b c w w' := by
  obtain ⟨hb, s, r, hc⟩ := h.alloc (.cells #[.int .i64 x, .int .i64 y] 49)
  have hlt : b < w.heap.size := lt_of_block h.1
  have hcell : w.cell? ⟨b, 0, none⟩ = some (.chan (some c)) := by simp [World.cell?, h.1]
  clear hb
  refine callsN Try.func28 rfl ?_
  simp only [Try.ntmps28, List.size_toArray, List.length_cons, List.length_nil, Nat.reduceAdd, Nat.reduceSub, Array.replicate_succ, Array.replicate_zero, List.push_toArray, List.append_toArray, List.nil_append, List.cons_append]
  refine codeN_seq_k fun K hK => codeN_of ?_
  go_wp2
  refine codeN_seq_k fun K hK => codeN_of ?_
  go_wp2
  refine codeN_seq_k fun K hK => codeN_of ?_
  go_wp2
  refine codeN_seq_k fun K hK => ?_
  refine codeN_sel (cases := #[scase c (.agg #[.int .i64 x, .int .i64 y]) (.agg #[.int .i64 0, .int .i64 0])]) (by rfl) (w' := w.alloc (.cells #[.int .i64 x, .int .i64 y] 49)) (by simp [go_sem, execOp, scase, Act.eval]) (fun fr cs es hh => step_lone_select_send_full hh hc hfull) ?_
  go_wp2
  refine codeN_of ?_
  go_wp2
  go_ret
  exact ⟨rfl, h.alloc _, Keep.alloc _ _ _ _⟩

theorem Keep.setNew {b c : Nat} {w w1 : World} (h : Keep b c w w1) {p : Addr} (hp : w.heap.size ≤ p.block) (v : Value) : Keep b c w (w1.setCell p v) :=
  ⟨h.os, h.tape, h.output, Nat.le_trans h.size (by simp [World.setCell]), fun k hk h1 h2 => (Below.heap_setCell _ _ _ _ (by omega)).trans (h.block k hk h1 h2)⟩

theorem Lie.setNew {T : TypeId} {w : World} {b c cap : Nat} {buf : Array Value} {more : Value} {made : Int} (h : Lie T w b c cap buf more made) {p : Addr} (h1 : p.block ≠ b) (h2 : p.block ≠ c) (v : Value) :
    Lie T (w.setCell p v) b c cap buf more made := by
  obtain ⟨h3, s0, r0, h4⟩ := h
  exact ⟨by rw [Below.heap_setCell _ _ _ _ (fun e => h1 e.symm)]; exact h3, s0, r0, by rw [Below.heap_setCell _ _ _ _ (fun e => h2 e.symm)]; exact h4⟩

set_option maxHeartbeats 400000 in
theorem getA_some {w : World} {b c cap : Nat} {more : Value} {made x y : Int} (h : Lie 61 w b c cap #[.agg #[.int .i64 x, .int .i64 y]] more made) :
    Calls Try.prog 27 #[.pointer (some ⟨b, 0, none⟩)] w fun e w' => e = .returned (.agg #[.int .i64 x, .int .i64 y]) ∧ Lie 61 w' b c cap #[] more made ∧ Keep b c w w' := by
  obtain ⟨hb, s, r, hc⟩ := h.alloc (.cells #[.int .i64 0, .int .i64 0] 49)
  have hlt : b < w.heap.size := lt_of_block h.1
  have hltc : c < w.heap.size := by obtain ⟨_, s, r, hc⟩ := h; exact lt_of_block hc
  have hcell : w.cell? ⟨b, 0, none⟩ = some (.chan (some c)) := by simp [World.cell?, h.1]
  have hnil := fun W => eqlChanNil_some Try.underlying59 W c
  clear hb
  refine callsN Try.func27 rfl ?_
  simp only [Try.ntmps27, List.size_toArray, List.length_cons, List.length_nil, Nat.reduceAdd, Nat.reduceSub, Array.replicate_succ, Array.replicate_zero, List.push_toArray, List.append_toArray, List.nil_append, List.cons_append]
  refine codeN_seq_k fun K hK => codeN_of ?_
  go_wp2
  refine codeN_seq_k fun K hK => codeN_of ?_
  go_wp2
  refine codeN_seq_k fun K hK => codeN_of ?_
  go_wp2
  refine codeN_seq_k fun K hK => ?_
  refine codeN_sel (cases := #[rcase c (.agg #[.int .i64 0, .int .i64 0])]) (by rfl) (w' := w.alloc (.cells #[.int .i64 0, .int .i64 0] 49)) (by simp [go_sem, execOp, rcase, Act.eval]) (fun fr cs es hh => step_lone_select_recv_buf hh hc (by simp)) ?_
  have hS : ((w.alloc (.cells #[.int .i64 0, .int .i64 0] 49)).setChan c cap (#[Value.agg #[.int .i64 x, .int .i64 y]].extract 1 #[Value.agg #[.int .i64 x, .int .i64 y]].size) false s (r + 1) false).heap.size = w.heap.size + 1 := by simp [World.setChan]
  have hN : ∀ i : Nat, ((w.alloc (.cells #[.int .i64 0, .int .i64 0] 49)).setChan c cap (#[Value.agg #[.int .i64 x, .int .i64 y]].extract 1 #[Value.agg #[.int .i64 x, .int .i64 y]].size) false s (r + 1) false).heap[w.heap.size]? = some (.cells #[.int .i64 0, .int .i64 0] 49) := by
    intro _; simp only [World.setChan]; rw [Array.getElem?_setIfInBounds_ne (by omega)]; exact heap_alloc_new w _
  have hL := (h.alloc (.cells #[.int .i64 0, .int .i64 0] 49)).setChan (#[Value.agg #[.int .i64 x, .int .i64 y]].extract 1 #[Value.agg #[.int .i64 x, .int .i64 y]].size) s (r + 1)
  have hK1 := (Keep.alloc b c w (.cells #[.int .i64 0, .int .i64 0] 49)).trans (Keep.chan b c _ cap (#[Value.agg #[.int .i64 x, .int .i64 y]].extract 1 #[Value.agg #[.int .i64 x, .int .i64 y]].size) s (r + 1))
  generalize ((w.alloc (.cells #[.int .i64 0, .int .i64 0] 49)).setChan c cap (#[Value.agg #[.int .i64 x, .int .i64 y]].extract 1 #[Value.agg #[.int .i64 x, .int .i64 y]].size) false s (r + 1) false) = W1 at hS hN hL hK1 ⊢
  have hc0 : W1.cell? ⟨w.heap.size, 0, none⟩ = some (.int .i64 0) := by simp [World.cell?, hN 0]
  have hc1 : W1.cell? ⟨w.heap.size, 1, none⟩ = some (.int .i64 0) := by simp [World.cell?, hN 0]
  have hf0 : ∀ o, W1.frozen? ⟨w.heap.size, o, none⟩ = false := by intro o; simp [World.frozen?, hN 0]
  clear hN hnil hc hcell
  go_wp2
  refine codeN_of ?_
  go_wp2
  exact bodyPost_ret (v := .agg #[.int .i64 x, .int .i64 y]) (by simp [results, Try.f27, go_sem, hS, hc0, hc1]) rfl ⟨rfl, ((hL.setNew (by simp; omega) (by simp; omega) _).setNew (by simp; omega) (by simp; omega) _).alloc _, ((hK1.setNew (by simp) _).setNew (by simp) _).trans (Keep.alloc _ _ _ _)⟩

theorem Lie.below {T : TypeId} {w w1 : World} {b c cap : Nat} {buf : Array Value} {more : Value} {made : Int} (h : Lie T w b c cap buf more made) (hb : Below w.heap.size w w1) :
    Lie T w1 b c cap buf more made := by
  obtain ⟨h1, s0, r0, h2⟩ := h
  exact ⟨(hb.block _ (lt_of_block h1)).trans h1, s0, r0, (hb.block _ (lt_of_block h2)).trans h2⟩
theorem Keep.below {b c : Nat} {w w1 w2 : World} (h : Keep b c w w1) (hb : Below w1.heap.size w1 w2) : Keep b c w w2 :=
  h.trans ⟨hb.os, hb.tape, hb.output, hb.size, fun k hk _ _ => hb.block k hk⟩

set_option maxHeartbeats 400000 in
theorem getA_none {w : World} {b c cap : Nat} {made : Int} (h : Lie 61 w b c cap #[] (.func (.func 33) #[] #[]) made) (h0 : 0 ≤ made) (h1 : made ≤ 1000) :
    Calls Try.prog 27 #[.pointer (some ⟨b, 0, none⟩)] w fun e w' => e = .returned (.agg #[.int .i64 0, .int .i64 0]) ∧ Lie 61 w' b c cap #[] (.func (.func 33) #[] #[]) (made + 1) ∧ Keep b c w w' := by
  obtain ⟨hb, s, r, hc⟩ := h.alloc (.cells #[.int .i64 0, .int .i64 0] 49)
  have hlt : b < w.heap.size := lt_of_block h.1
  have hltc : c < w.heap.size := by obtain ⟨_, s, r, hc⟩ := h; exact lt_of_block hc
  have hcell : w.cell? ⟨b, 0, none⟩ = some (.chan (some c)) := by simp [World.cell?, h.1]
  have hcell1 : w.cell? ⟨b, 1, none⟩ = some (.func (.func 33) #[] #[]) := by simp [World.cell?, h.1]
  have hcell2 : w.cell? ⟨b, 2, none⟩ = some (.int .i64 made) := by simp [World.cell?, h.1]
  have hfr : ∀ o, w.frozen? ⟨b, o, none⟩ = false := by intro o; simp [World.frozen?, h.1]
  have hnil := fun W => eqlChanNil_some Try.underlying59 W c
  clear hb
  refine callsN Try.func27 rfl ?_
  simp only [Try.ntmps27, List.size_toArray, List.length_cons, List.length_nil, Nat.reduceAdd, Nat.reduceSub, Array.replicate_succ, Array.replicate_zero, List.push_toArray, List.append_toArray, List.nil_append, List.cons_append]
  refine codeN_seq_k fun K hK => codeN_of ?_
  go_wp2
  refine codeN_seq_k fun K hK => codeN_of ?_
  go_wp2
  refine codeN_seq_k fun K hK => codeN_of ?_
  go_wp2
  refine codeN_seq_k fun K hK => ?_
  refine codeN_sel (cases := #[rcase c (.agg #[.int .i64 0, .int .i64 0])]) (by rfl) (w' := w.alloc (.cells #[.int .i64 0, .int .i64 0] 49)) (by simp [go_sem, execOp, rcase, Act.eval]) (fun fr cs es hh => step_lone_select_default hh hc) ?_
  go_wp2
  refine codeN_of ?_
  go_wp2_with fail
  have hL := (h.setMade (made + 1)).alloc (.cells #[.int .i64 0, .int .i64 0] 49)
  have hK1 := (Keep.cell b c 2 w (.int .i64 (made + 1))).trans (Keep.alloc b c _ (.cells #[.int .i64 0, .int .i64 0] 49))
  have hN : (((w.setCell ⟨b, 2, none⟩ (.int .i64 (made + 1))).alloc (.cells #[.int .i64 0, .int .i64 0] 49))).heap[w.heap.size]? = some (.cells #[.int .i64 0, .int .i64 0] 49) := by
    rw [← size_setCell w ⟨b, 2, none⟩ (.int .i64 (made + 1))]; exact heap_alloc_new _ _
  have hS : (((w.setCell ⟨b, 2, none⟩ (.int .i64 (made + 1))).alloc (.cells #[.int .i64 0, .int .i64 0] 49))).heap.size = w.heap.size + 1 := by rw [World.size_alloc, size_setCell]
  generalize ((w.setCell ⟨b, 2, none⟩ (.int .i64 (made + 1))).alloc (.cells #[.int .i64 0, .int .i64 0] 49)) = W1 at hL hK1 hN hS ⊢
  refine (zeroA_any _).mono ?_
  rintro e W2 ⟨rfl, hB⟩
  have hN2 := (hB.block w.heap.size (by omega)).trans hN
  have hc0 : W2.cell? ⟨w.heap.size, 0, none⟩ = some (.int .i64 0) := by simp [World.cell?, hN2]
  have hc1 : W2.cell? ⟨w.heap.size, 1, none⟩ = some (.int .i64 0) := by simp [World.cell?, hN2]
  have hf0 : ∀ o, W2.frozen? ⟨w.heap.size, o, none⟩ = false := by intro o; simp [World.frozen?, hN2]
  have hL2 := hL.below hB
  have hK2 := hK1.below hB
  have hS2 : w.heap.size < W2.heap.size := by have := hB.size; omega
  clear hN hN2 hB hL hK1 hS hfr hcell hcell1 hcell2 hc hnil
  go_wp2
  exact bodyPost_ret (v := (.agg #[.int .i64 0, .int .i64 0])) (by simp [results, Try.f27, go_sem, hc0, hc1]) rfl ⟨rfl, (hL2.setNew (by simp; omega) (by simp; omega) _).setNew (by simp; omega) (by simp; omega) _, (hK2.setNew (by simp) _).setNew (by simp) _⟩

theorem mkchanI (w : World) (n : Int) (h0 : 0 ≤ n) (hn : n ≤ 64) : (Instr.makeChan 56 (.int .i64 n)).run Try.prog w = .ok (.chan (some w.heap.size)) (w.alloc (.chan n.toNat #[] false 0 0 false)) := by
  have h : ((Try.prog.info? 3).map (·.bytes)).all (· ≤ 16) = true := by kernel_rfl
  have h2 : (Try.prog.info? 3).isSome = true := by kernel_rfl
  obtain ⟨i, hi⟩ := Option.isSome_iff_exists.1 h2
  have hb : i.bytes ≤ 16 := by simpa [hi] using h
  obtain ⟨m, rfl⟩ := Int.eq_ofNat_of_zero_le h0
  have hm : i.bytes * m ≤ 16 * 64 := Nat.mul_le_mul hb (by omega)
  have hm' : (i.bytes : Int) * (m : Int) ≤ 1024 := by rw [← Int.natCast_mul]; omega
  exact run_makeChan (P := Try.prog) (w := w) Try.underlying56 hi .i64 m (by omega) (by omega)

def room (n : Int) : Nat := (max 0 (min n 64)).toNat

set_option maxHeartbeats 400000 in
theorem newI_any (n : Int) (more : Value) (more' : Value) (hm : more = .nilFunc ∧ more' = .func (.func 30) #[] #[] ∨ ∃ f c, more = .func (.func f) #[] c ∧ more' = more) (w : World) :
    Calls Try.prog 9 #[.int .i64 n, more] w (NewPost 58 w (room n) more') := by
  have hq := fun f a c => eqlFuncNil Try.underlying25 w f a c
  have hq2 := eqlNilNil Try.underlying25 w
  by_cases hn0 : 64 < n
  · have hmk := mkchanI w 64 (by omega) (by omega)
    have hr : room n = 64 := by unfold room; omega
    rw [hr]
    rcases hm with ⟨rfl, rfl⟩ | ⟨f, cc, rfl, rfl⟩
    all_goals
      go_enter Try.func9, Try.ntmps9
      go_wp2
      go_ret
      exact ⟨w.heap.size + 1, w.heap.size, rfl, ⟨by rw [heap_alloc_new' _ _ _ (by simp)], 0, 0, by rw [Below.heap_alloc _ _ _ (by simp)]; exact heap_alloc_new w _⟩, by (simp <;> omega), by (simp <;> omega), by (simp <;> omega), by (simp <;> omega), ((Below.refl _ w).alloc (Nat.le_refl _) _).alloc (by simp) _⟩
  · by_cases hn1 : 0 < n
    · have hmk := mkchanI w n (by omega) (by omega)
      have hr : n.toNat = room n := by unfold room; omega
      rw [hr] at hmk
      clear hr
      rcases hm with ⟨rfl, rfl⟩ | ⟨f, cc, rfl, rfl⟩
      all_goals
        go_enter Try.func9, Try.ntmps9
        go_wp2
        go_ret
        exact ⟨w.heap.size + 1, w.heap.size, rfl, ⟨by rw [heap_alloc_new' _ _ _ (by simp)], 0, 0, by rw [Below.heap_alloc _ _ _ (by simp)]; exact heap_alloc_new w _⟩, by (simp <;> omega), by (simp <;> omega), by (simp <;> omega), by (simp <;> omega), ((Below.refl _ w).alloc (Nat.le_refl _) _).alloc (by simp) _⟩
    · have hmk := mkchanI w 0 (by omega) (by omega)
      have hr : room n = 0 := by unfold room; omega
      rw [hr]
      rcases hm with ⟨rfl, rfl⟩ | ⟨f, cc, rfl, rfl⟩
      all_goals
        go_enter Try.func9, Try.ntmps9
        go_wp2
        go_ret
        exact ⟨w.heap.size + 1, w.heap.size, rfl, ⟨by rw [heap_alloc_new' _ _ _ (by simp)], 0, 0, by rw [Below.heap_alloc _ _ _ (by simp)]; exact heap_alloc_new w _⟩, by (simp <;> omega), by (simp <;> omega), by (simp <;> omega), by (simp <;> omega), ((Below.refl _ w).alloc (Nat.le_refl _) _).alloc (by simp) _⟩

theorem mkchanS (w : World) (n : Int) (h0 : 0 ≤ n) (hn : n ≤ 64) : (Instr.makeChan 45 (.int .i64 n)).run Try.prog w = .ok (.chan (some w.heap.size)) (w.alloc (.chan n.toNat #[] false 0 0 false)) := by
  have h : ((Try.prog.info? 9).map (·.bytes)).all (· ≤ 16) = true := by kernel_rfl
  have h2 : (Try.prog.info? 9).isSome = true := by kernel_rfl
  obtain ⟨i, hi⟩ := Option.isSome_iff_exists.1 h2
  have hb : i.bytes ≤ 16 := by simpa [hi] using h
  obtain ⟨m, rfl⟩ := Int.eq_ofNat_of_zero_le h0
  have hm : i.bytes * m ≤ 16 * 64 := Nat.mul_le_mul hb (by omega)
  have hm' : (i.bytes : Int) * (m : Int) ≤ 1024 := by rw [← Int.natCast_mul]; omega
  exact run_makeChan (P := Try.prog) (w := w) Try.underlying45 hi .i64 m (by omega) (by omega)



set_option maxHeartbeats 400000 in
theorem newS_any (n : Int) (more : Value) (more' : Value) (hm : more = .nilFunc ∧ more' = .func (.func 32) #[] #[] ∨ ∃ f c, more = .func (.func f) #[] c ∧ more' = more) (w : World) :
    Calls Try.prog 20 #[.int .i64 n, more] w (NewPost 47 w (room n) more') := by
  have hq := fun f a c => eqlFuncNil Try.underlying42 w f a c
  have hq2 := eqlNilNil Try.underlying42 w
  by_cases hn0 : 64 < n
  · have hmk := mkchanS w 64 (by omega) (by omega)
    have hr : room n = 64 := by unfold room; omega
    rw [hr]
    rcases hm with ⟨rfl, rfl⟩ | ⟨f, cc, rfl, rfl⟩
    all_goals
      go_enter Try.func20, Try.ntmps20
      go_wp2
      go_ret
      exact ⟨w.heap.size + 1, w.heap.size, rfl, ⟨by rw [heap_alloc_new' _ _ _ (by simp)], 0, 0, by rw [Below.heap_alloc _ _ _ (by simp)]; exact heap_alloc_new w _⟩, by (simp <;> omega), by (simp <;> omega), by (simp <;> omega), by (simp <;> omega), ((Below.refl _ w).alloc (Nat.le_refl _) _).alloc (by simp) _⟩
  · by_cases hn1 : 0 < n
    · have hmk := mkchanS w n (by omega) (by omega)
      have hr : n.toNat = room n := by unfold room; omega
      rw [hr] at hmk
      clear hr
      rcases hm with ⟨rfl, rfl⟩ | ⟨f, cc, rfl, rfl⟩
      all_goals
        go_enter Try.func20, Try.ntmps20
        go_wp2
        go_ret
        exact ⟨w.heap.size + 1, w.heap.size, rfl, ⟨by rw [heap_alloc_new' _ _ _ (by simp)], 0, 0, by rw [Below.heap_alloc _ _ _ (by simp)]; exact heap_alloc_new w _⟩, by (simp <;> omega), by (simp <;> omega), by (simp <;> omega), by (simp <;> omega), ((Below.refl _ w).alloc (Nat.le_refl _) _).alloc (by simp) _⟩
    · have hmk := mkchanS w 0 (by omega) (by omega)
      have hr : room n = 0 := by unfold room; omega
      rw [hr]
      rcases hm with ⟨rfl, rfl⟩ | ⟨f, cc, rfl, rfl⟩
      all_goals
        go_enter Try.func20, Try.ntmps20
        go_wp2
        go_ret
        exact ⟨w.heap.size + 1, w.heap.size, rfl, ⟨by rw [heap_alloc_new' _ _ _ (by simp)], 0, 0, by rw [Below.heap_alloc _ _ _ (by simp)]; exact heap_alloc_new w _⟩, by (simp <;> omega), by (simp <;> omega), by (simp <;> omega), by (simp <;> omega), ((Below.refl _ w).alloc (Nat.le_refl _) _).alloc (by simp) _⟩

theorem mkchanA (w : World) (n : Int) (h0 : 0 ≤ n) (hn : n ≤ 64) : (Instr.makeChan 59 (.int .i64 n)).run Try.prog w = .ok (.chan (some w.heap.size)) (w.alloc (.chan n.toNat #[] false 0 0 false)) := by
  have h : ((Try.prog.info? 49).map (·.bytes)).all (· ≤ 16) = true := by kernel_rfl
  have h2 : (Try.prog.info? 49).isSome = true := by kernel_rfl
  obtain ⟨i, hi⟩ := Option.isSome_iff_exists.1 h2
  have hb : i.bytes ≤ 16 := by simpa [hi] using h
  obtain ⟨m, rfl⟩ := Int.eq_ofNat_of_zero_le h0
  have hm : i.bytes * m ≤ 16 * 64 := Nat.mul_le_mul hb (by omega)
  have hm' : (i.bytes : Int) * (m : Int) ≤ 1024 := by rw [← Int.natCast_mul]; omega
  exact run_makeChan (P := Try.prog) (w := w) Try.underlying59 hi .i64 m (by omega) (by omega)



set_option maxHeartbeats 400000 in
theorem newA_any (n : Int) (more : Value) (more' : Value) (hm : more = .nilFunc ∧ more' = .func (.func 33) #[] #[] ∨ ∃ f c, more = .func (.func f) #[] c ∧ more' = more) (w : World) :
    Calls Try.prog 26 #[.int .i64 n, more] w (NewPost 61 w (room n) more') := by
  have hq := fun f a c => eqlFuncNil Try.underlying52 w f a c
  have hq2 := eqlNilNil Try.underlying52 w
  by_cases hn0 : 64 < n
  · have hmk := mkchanA w 64 (by omega) (by omega)
    have hr : room n = 64 := by unfold room; omega
    rw [hr]
    rcases hm with ⟨rfl, rfl⟩ | ⟨f, cc, rfl, rfl⟩
    all_goals
      go_enter Try.func26, Try.ntmps26
      go_wp2
      go_ret
      exact ⟨w.heap.size + 1, w.heap.size, rfl, ⟨by rw [heap_alloc_new' _ _ _ (by simp)], 0, 0, by rw [Below.heap_alloc _ _ _ (by simp)]; exact heap_alloc_new w _⟩, by (simp <;> omega), by (simp <;> omega), by (simp <;> omega), by (simp <;> omega), ((Below.refl _ w).alloc (Nat.le_refl _) _).alloc (by simp) _⟩
  · by_cases hn1 : 0 < n
    · have hmk := mkchanA w n (by omega) (by omega)
      have hr : n.toNat = room n := by unfold room; omega
      rw [hr] at hmk
      clear hr
      rcases hm with ⟨rfl, rfl⟩ | ⟨f, cc, rfl, rfl⟩
      all_goals
        go_enter Try.func26, Try.ntmps26
        go_wp2
        go_ret
        exact ⟨w.heap.size + 1, w.heap.size, rfl, ⟨by rw [heap_alloc_new' _ _ _ (by simp)], 0, 0, by rw [Below.heap_alloc _ _ _ (by simp)]; exact heap_alloc_new w _⟩, by (simp <;> omega), by (simp <;> omega), by (simp <;> omega), by (simp <;> omega), ((Below.refl _ w).alloc (Nat.le_refl _) _).alloc (by simp) _⟩
    · have hmk := mkchanA w 0 (by omega) (by omega)
      have hr : room n = 0 := by unfold room; omega
      rw [hr]
      rcases hm with ⟨rfl, rfl⟩ | ⟨f, cc, rfl, rfl⟩
      all_goals
        go_enter Try.func26, Try.ntmps26
        go_wp2
        go_ret
        exact ⟨w.heap.size + 1, w.heap.size, rfl, ⟨by rw [heap_alloc_new' _ _ _ (by simp)], 0, 0, by rw [Below.heap_alloc _ _ _ (by simp)]; exact heap_alloc_new w _⟩, by (simp <;> omega), by (simp <;> omega), by (simp <;> omega), by (simp <;> omega), ((Below.refl _ w).alloc (Nat.le_refl _) _).alloc (by simp) _⟩

/-- But for some blocks the world is as it was. -/
structure KeepS (S : List Nat) (w w' : World) : Prop where
  os : w'.os = w.os
  tape : w'.tape = w.tape
  output : w'.output = w.output
  size : w.heap.size ≤ w'.heap.size
  block : ∀ k, k < w.heap.size → k ∉ S → w'.heap[k]? = w.heap[k]?

theorem KeepS.refl (S : List Nat) (w : World) : KeepS S w w := ⟨rfl, rfl, rfl, Nat.le_refl _, fun _ _ _ => rfl⟩
theorem KeepS.trans {S : List Nat} {u v w : World} (h : KeepS S u v) (k : KeepS S v w) : KeepS S u w :=
  ⟨k.os.trans h.os, k.tape.trans h.tape, k.output.trans h.output, Nat.le_trans h.size k.size, fun i hi h1 => (k.block i (Nat.lt_of_lt_of_le hi h.size) h1).trans (h.block i hi h1)⟩
theorem KeepS.mono {S S' : List Nat} {u v : World} (h : KeepS S u v) (hs : ∀ k, k ∈ S → k ∈ S') : KeepS S' u v :=
  ⟨h.os, h.tape, h.output, h.size, fun k hk hn => h.block k hk fun hh => hn (hs k hh)⟩
theorem Keep.toS {b c : Nat} {w w' : World} (h : Keep b c w w') : KeepS [b, c] w w' :=
  ⟨h.os, h.tape, h.output, h.size, fun k hk hn => h.block k hk (fun e => hn (by simp [e])) (fun e => hn (by simp [e]))⟩
theorem KeepS.drew (S : List Nat) (w : World) : KeepS S w w.drew := ⟨rfl, rfl, rfl, Nat.le_refl _, fun _ _ _ => rfl⟩
theorem KeepS.ofBelow {S : List Nat} {w w' : World} (h : Below w.heap.size w w') : KeepS S w w' :=
  ⟨h.os, h.tape, h.output, h.size, fun k hk _ => h.block k hk⟩
theorem KeepS.cell (L : Nat) (w : World) (v : Value) : KeepS [L] w (w.setCell ⟨L, 0, none⟩ v) :=
  ⟨rfl, rfl, rfl, Nat.le_of_eq (size_setCell _ _ _).symm, fun k _ h => Below.heap_setCell _ _ _ _ (by simpa using h)⟩
theorem KeepS.below {S : List Nat} {B : Nat} {w0 w w' : World} (h : KeepS S w w') (hB : Below B w0 w) (hS : ∀ k ∈ S, B ≤ k) (hz : B ≤ w.heap.size) : Below B w0 w' :=
  hB.trans ⟨h.os, h.tape, h.output, h.size, fun k hk => h.block k (Nat.lt_of_lt_of_le hk hz) fun hh => by have := hS k hh; omega⟩
theorem KeepS.old {S : List Nat} {w w' : World} (h : KeepS S w w') {k : Nat} {o : Obj} (hk : w.heap[k]? = some o) (hn : k ∉ S) : w'.heap[k]? = some o :=
  (h.block k (lt_of_block hk) hn).trans hk
theorem Lie.keepS {T : TypeId} {w w' : World} {b c cap : Nat} {buf : Array Value} {more : Value} {made : Int} {S : List Nat} (h : Lie T w b c cap buf more made) (hk : KeepS S w w') (hb : b ∉ S) (hc : c ∉ S) :
    Lie T w' b c cap buf more made := by
  obtain ⟨h1, s, r, h2⟩ := h
  exact ⟨hk.old h1 hb, s, r, hk.old h2 hc⟩
theorem Lie.blt {T : TypeId} {w : World} {b c cap : Nat} {buf : Array Value} {more : Value} {made : Int} (h : Lie T w b c cap buf more made) : b < w.heap.size := lt_of_block h.1
theorem Lie.clt {T : TypeId} {w : World} {b c cap : Nat} {buf : Array Value} {more : Value} {made : Int} (h : Lie T w b c cap buf more made) : c < w.heap.size := by
  obtain ⟨_, s, r, h2⟩ := h
  exact lt_of_block h2
theorem Lie.neCell {T : TypeId} {w : World} {b c cap L : Nat} {buf : Array Value} {more v : Value} {made : Int} (h : Lie T w b c cap buf more made) (hL : w.heap[L]? = some (.cells #[v] 3 (0, 0))) : L ≠ b ∧ L ≠ c := by
  obtain ⟨h1, s, r, h2⟩ := h
  constructor
  · rintro rfl; rw [h1] at hL; cases hL
  · rintro rfl; rw [h2] at hL; cases hL

theorem more31 {w : World} {L : Nat} {k : Int} (hL : w.heap[L]? = some (.cells #[.int .i64 k] 3 (0, 0))) (h0 : 0 ≤ k) (h1 : k ≤ 1000) :
    Calls Try.prog 31 #[.pointer (some ⟨L, 0, none⟩)] w fun e w' => e = .returned (.int .i64 (-(k + 1))) ∧ w' = w.setCell ⟨L, 0, none⟩ (.int .i64 (k + 1)) := by
  have hc := cell_of_one hL
  have hf := free_of_one hL
  go_enter Try.func31, Try.ntmps31
  go_wp2
  go_ret
  exact ⟨rfl, rfl⟩
theorem more10 {w : World} {L : Nat} {k : Int} (hL : w.heap[L]? = some (.cells #[.int .i64 k] 3 (0, 0))) (h0 : 0 ≤ k) (h1 : k ≤ 1000) :
    Calls Try.prog 10 #[.pointer (some ⟨L, 0, none⟩)] w fun e w' => e = .returned (.int .i64 (-(k + 1))) ∧ w' = w.setCell ⟨L, 0, none⟩ (.int .i64 (k + 1)) := by
  have hc := cell_of_one hL
  have hf := free_of_one hL
  go_enter Try.func10, Try.ntmps10
  go_wp2
  go_ret
  exact ⟨rfl, rfl⟩

theorem cf31 (c : Array Value) (W : World) : Sem.run Try.prog (callFunc 31 c) W = .ok (.enter 31 c) W := by kernel_rfl
theorem cf10 (c : Array Value) (W : World) : Sem.run Try.prog (callFunc 10 c) W = .ok (.enter 10 c) W := by kernel_rfl
theorem cf30 (c : Array Value) (W : World) : Sem.run Try.prog (callFunc 30 c) W = .ok (.enter 30 c) W := by kernel_rfl
theorem cf21 (c : Array Value) (W : World) : Sem.run Try.prog (callFunc 21 c) W = .ok (.enter 21 c) W := by kernel_rfl

/-- What Get leaves where a new one is made by a closure that counts. -/
def MadePost (f L b c cap : Nat) (k made : Int) (w : World) (e : Ending) (w' : World) : Prop :=
  e = .returned (.int .i64 (-(k + 1))) ∧ Lie 58 w' b c cap #[] (.func (.func f) #[] #[.pointer (some ⟨L, 0, none⟩)]) (made + 1) ∧
    w'.heap[L]? = some (.cells #[.int .i64 (k + 1)] 3 (0, 0)) ∧ KeepS [L, b, c] w w'

theorem get_made {f : Nat} (hf : f = 31 ∨ f = 10) {w : World} {L b c cap : Nat} {k made : Int} (hL : w.heap[L]? = some (.cells #[.int .i64 k] 3 (0, 0)))
    (h : Lie 58 w b c cap #[] (.func (.func f) #[] #[.pointer (some ⟨L, 0, none⟩)]) made) (h0 : 0 ≤ k) (h1 : k ≤ 1000) (h2 : 0 ≤ made) (h3 : made ≤ 1000) :
    Calls Try.prog 15 #[.pointer (some ⟨b, 0, none⟩)] w (MadePost f L b c cap k made w) := by
  have hn := h.neCell hL
  refine getI_none h h2 h3 (fun W => by rcases hf with rfl | rfl; exact cf31 _ _; exact cf10 _ _) ?_
  intro w1 hl hk
  have hL1 := hk.toS.old hL (by simp [hn.1, hn.2])
  have post : ∀ (e : Ending) (w' : World), e = .returned (.int .i64 (-(k + 1))) ∧ w' = w1.setCell ⟨L, 0, none⟩ (.int .i64 (k + 1)) → ∃ v, e = .returned v ∧ MadePost f L b c cap k made w e w' := by
    rintro e w' ⟨rfl, rfl⟩
    refine ⟨_, rfl, rfl, ?_, one_setCell hL1, ?_⟩
    · exact Lie.setNew hl hn.1 hn.2 _
    · exact (hk.toS.mono (by simp)).trans ((KeepS.cell L w1 _).mono (by simp))
  rcases hf with rfl | rfl
  · exact (more31 hL1 h0 h1).mono post
  · exact (more10 hL1 h0 h1).mono post

end Go.Proofs.Ytdhbnldigbjkkaa
