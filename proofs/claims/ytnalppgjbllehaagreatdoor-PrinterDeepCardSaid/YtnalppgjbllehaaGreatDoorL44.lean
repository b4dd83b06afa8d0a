/- A value is shown: tree's kind at a Text, value, Show. Condition: what kind says of the value; no hook answers. -/
import Derived.Test.YtnalppgjbllehaaGreatDoorL43
import Derived.Test.YtnalppgjbllehaaGreatDoorL07
namespace Go.Proofs.YtnalppgjbllehaaGreatDoor
set_option linter.unusedVariables false
set_option linter.unusedSimpArgs false
open Go.RowKit

set_option maxHeartbeats 4000000 in
set_option maxRecDepth 1000000 in
theorem kind_text (f : SpecD) (fn : Fn) (fi ca : Array Value) (b : B) (s : ByteArray) (dep : Int) (w : World) (hs : s.size ≤ 140737488355328) (hf : f.Rng) (hv : (f.verb = 118 ∧ f.sharp = false) ∨ f.verb = 115) :
    Calls Tryz.prog 87 #[.agg #[.bool f.plus, .bool f.minus, .bool f.sharp, .bool f.space, .bool f.zero, .int .i64 f.wid, .int .i64 f.prec, .int .i32 f.verb, .func fn fi ca], (Leaf.text b s).val, .int .i64 dep] w (Ret2 w (padB (cutB s f.prec) f) true) := by
  unfold Leaf.val
  have t82 := as82
  have t85 := as85
  have t87 := as87
  have t90 := as90
  have t92 := as92
  have t94 := as94
  obtain ⟨r, hr⟩ : ∃ r, padB (cutB s f.prec) f = r := ⟨_, rfl⟩
  have HQT : Hid (∀ W, Calls Tryz.prog 52 #[.string s, .agg #[.bool f.plus, .bool f.minus, .bool f.sharp, .bool f.space, .bool f.zero, .int .i64 f.wid, .int .i64 f.prec, .int .i32 f.verb]] W (Ret2 W r true)) := Lib.hid fun W => hr ▸ qtext_any s f W hs hf hv
  rw [hr]
  clear hr hs hf hv
  have HB0 := Lib.hid ((Below.new (w := w) (.cells #[.bool f.plus, .bool f.minus, .bool f.sharp, .bool f.space, .bool f.zero, .int .i64 f.wid, .int .i64 f.prec, .int .i32 f.verb, .func fn fi ca] 113)).push (.cells #[.int .i64 b.kind, .string b.name, .int .i64 b.hook, .string s] 78))
  go_enter Tryz.func87, Tryz.ntmps87
  go_wp2_with fail
  refine (HQT.out _).mono ?_
  rintro e w2 ⟨rfl, hb⟩
  have HB := Lib.hid (HB0.out.next hb)
  clear hb
  go_wp2_with fail
  refine bodyPost_ret (v := .tuple #[.string r, .bool true]) (by simp [results, Tryz.f87, go_sem]) rfl ?_
  exact ⟨rfl, HB.out⟩
set_option maxHeartbeats 4000000 in
set_option maxRecDepth 1000000 in
theorem value_any {WB : World} {sb : Nat} {out : ByteArray} {bv : Value} {depth : Int} {tab av : Value} {next : Int} {re : Bool} {w : World} (f : SpecD) (t : TypeId) (y : Value) (r : ByteArray) (ht : t ≠ 129)
    (hst : StW WB sb out bv depth tab av next re w)
    (hask : ∀ W, StW WB sb out bv depth tab av next re W → Calls Tryz.prog 27 #[.pointer (some ⟨sb, 0, none⟩), .iface t y, .agg #[.bool f.plus, .bool f.minus, .bool f.sharp, .bool f.space, .bool f.zero, .int .i64 f.wid, .int .i64 f.prec, .int .i32 f.verb]] W (Ret W (.tuple #[.string ⟨#[]⟩, .bool false])))
    (hkind : ∀ W, Calls Tryz.prog 87 #[.agg #[.bool f.plus, .bool f.minus, .bool f.sharp, .bool f.space, .bool f.zero, .int .i64 f.wid, .int .i64 f.prec, .int .i32 f.verb, .func (.func 27) #[.pointer (some ⟨sb, 0, none⟩)] #[]], .iface t y, .int .i64 0] W (Ret2 W r true)) :
    Calls Tryz.prog 53 #[.agg #[.bool f.plus, .bool f.minus, .bool f.sharp, .bool f.space, .bool f.zero, .int .i64 f.wid, .int .i64 f.prec, .int .i32 f.verb, .func (.func 27) #[.pointer (some ⟨sb, 0, none⟩)] #[]], .iface t y, .int .i64 0] w (Ret w (.string r)) := by
  have HST := Lib.hid (hst.later (Below.new (w := w) (.cells #[.bool f.plus, .bool f.minus, .bool f.sharp, .bool f.space, .bool f.zero, .int .i64 f.wid, .int .i64 f.prec, .int .i32 f.verb, .func (.func 27) #[.pointer (some ⟨sb, 0, none⟩)] #[]] 113)))
  have HB0 := Lib.hid (Below.new (w := w) (.cells #[.bool f.plus, .bool f.minus, .bool f.sharp, .bool f.space, .bool f.zero, .int .i64 f.wid, .int .i64 f.prec, .int .i32 f.verb, .func (.func 27) #[.pointer (some ⟨sb, 0, none⟩)] #[]] 113))
  have HW : Hid ((w.alloc (.cells #[.bool f.plus, .bool f.minus, .bool f.sharp, .bool f.space, .bool f.zero, .int .i64 f.wid, .int .i64 f.prec, .int .i32 f.verb, .func (.func 27) #[.pointer (some ⟨sb, 0, none⟩)] #[]] 113)).heap[w.heap.size]? = some (.cells #[.bool f.plus, .bool f.minus, .bool f.sharp, .bool f.space, .bool f.zero, .int .i64 f.wid, .int .i64 f.prec, .int .i32 f.verb, .func (.func 27) #[.pointer (some ⟨sb, 0, none⟩)] #[]] 113 (0, 0))) := Lib.hid (heap_alloc_new w _)
  have HASK := Lib.hid hask
  have HK := Lib.hid hkind
  have HNIL := Lib.hid (isNil_no t y ht)
  clear hst hask hkind ht
  go_enter Tryz.func53, Tryz.ntmps53
  go_upto_region 1 with fail
  generalize w.alloc (.cells #[.bool f.plus, .bool f.minus, .bool f.sharp, .bool f.space, .bool f.zero, .int .i64 f.wid, .int .i64 f.prec, .int .i32 f.verb, .func (.func 27) #[.pointer (some ⟨sb, 0, none⟩)] #[]] 113) = W1 at HST HB0 HW ⊢
  have c0 : W1.cell? ⟨w.heap.size, 0, none⟩ = some (.bool f.plus) := cell_of_heap' HW.out 0
  have c1 : W1.cell? ⟨w.heap.size, 1, none⟩ = some (.bool f.minus) := cell_of_heap' HW.out 1
  have c2 : W1.cell? ⟨w.heap.size, 2, none⟩ = some (.bool f.sharp) := cell_of_heap' HW.out 2
  have c3 : W1.cell? ⟨w.heap.size, 3, none⟩ = some (.bool f.space) := cell_of_heap' HW.out 3
  have c4 : W1.cell? ⟨w.heap.size, 4, none⟩ = some (.bool f.zero) := cell_of_heap' HW.out 4
  have c5 : W1.cell? ⟨w.heap.size, 5, none⟩ = some (.int .i64 f.wid) := cell_of_heap' HW.out 5
  have c6 : W1.cell? ⟨w.heap.size, 6, none⟩ = some (.int .i64 f.prec) := cell_of_heap' HW.out 6
  have c7 : W1.cell? ⟨w.heap.size, 7, none⟩ = some (.int .i32 f.verb) := cell_of_heap' HW.out 7
  have c8 : W1.cell? ⟨w.heap.size, 8, none⟩ = some (.func (.func 27) #[.pointer (some ⟨sb, 0, none⟩)] #[]) := cell_of_heap' HW.out 8
  have hrun : ∀ W, Sem.run Tryz.prog (binOp BinOp.neq 72 (.func (.func 27) #[.pointer (some ⟨sb, 0, none⟩)] #[]) Value.nilFunc) W = .ok (.bool true) W := fun W => by kernel_rfl
  go_wp2_with fail
  refine (HNIL.out W1).mono ?_
  rintro e w2 ⟨rfl, rfl⟩
  go_wp2_with fail
  refine (HASK.out W1 HST.out).mono ?_
  rintro e W2 ⟨rfl, hb2⟩
  have HB2 := Lib.hid (HB0.out.next hb2)
  replace c0 := cell_below hb2 c0
  replace c1 := cell_below hb2 c1
  replace c2 := cell_below hb2 c2
  replace c3 := cell_below hb2 c3
  replace c4 := cell_below hb2 c4
  replace c5 := cell_below hb2 c5
  replace c6 := cell_below hb2 c6
  replace c7 := cell_below hb2 c7
  replace c8 := cell_below hb2 c8
  clear hb2 HST HB0 HW HASK
  go_wp2_with fail
  refine (HK.out W2).mono ?_
  rintro e W3 ⟨rfl, hb3⟩
  have HB3 := Lib.hid (HB2.out.next hb3)
  clear hb3 HK hrun c0 c1 c2 c3 c4 c5 c6 c7 c8
  go_wp2_with fail
  go_ret
  exact ⟨rfl, HB3.out⟩
/-- What is shown where no hook answers, by what kind says. -/
theorem fcells (f : SpecD) : specCells f = #[.bool f.plus, .bool f.minus, .bool f.sharp, .bool f.space, .bool f.zero, .int .i64 f.wid, .int .i64 f.prec, .int .i32 f.verb] := rfl
set_option maxHeartbeats 4000000 in
set_option maxRecDepth 1000000 in
theorem show_any {WB : World} {sb : Nat} {out : ByteArray} {bv : Value} {depth : Int} {tab av : Value} {next : Int} {re : Bool} {w : World} (f : SpecD) (t : TypeId) (y : Value) (r : ByteArray) (ht : t ≠ 129) (hv : f.verb ≠ 84)
    (hst : StW WB sb out bv depth tab av next re w)
    (hask : ∀ W, StW WB sb out bv depth tab av next re W → Calls Tryz.prog 27 #[.pointer (some ⟨sb, 0, none⟩), .iface t y, .agg #[.bool f.plus, .bool f.minus, .bool f.sharp, .bool f.space, .bool f.zero, .int .i64 f.wid, .int .i64 f.prec, .int .i32 f.verb]] W (Ret W (.tuple #[.string ⟨#[]⟩, .bool false])))
    (hkind : ∀ W, Calls Tryz.prog 87 #[.agg #[.bool f.plus, .bool f.minus, .bool f.sharp, .bool f.space, .bool f.zero, .int .i64 f.wid, .int .i64 f.prec, .int .i32 f.verb, .func (.func 27) #[.pointer (some ⟨sb, 0, none⟩)] #[]], .iface t y, .int .i64 0] W (Ret2 W r true)) :
    Calls Tryz.prog 25 #[.iface t y, .agg #[.bool f.plus, .bool f.minus, .bool f.sharp, .bool f.space, .bool f.zero, .int .i64 f.wid, .int .i64 f.prec, .int .i32 f.verb], .func (.func 27) #[.pointer (some ⟨sb, 0, none⟩)] #[]] w (Ret w (.string r)) := by
  have HST := Lib.hid (hst.later (Below.new (w := w) (.cells #[.bool f.plus, .bool f.minus, .bool f.sharp, .bool f.space, .bool f.zero, .int .i64 f.wid, .int .i64 f.prec, .int .i32 f.verb] 61)))
  have HB0 := Lib.hid (Below.new (w := w) (.cells #[.bool f.plus, .bool f.minus, .bool f.sharp, .bool f.space, .bool f.zero, .int .i64 f.wid, .int .i64 f.prec, .int .i32 f.verb] 61))
  have HVAL := Lib.hid (fun W hW => value_any (w := W) f t y r ht hW hask hkind)
  have hv' : (f.verb == 84) = false := by simpa using hv
  clear hst hask hkind ht hv
  go_enter Tryz.func25, Tryz.ntmps25
  go_wp2_with fail
  refine (HVAL.out _ HST.out).mono ?_
  rintro e W2 ⟨rfl, hb2⟩
  have HB2 := Lib.hid (HB0.out.next hb2)
  clear hb2
  go_wp2_with fail
  go_ret
  exact ⟨rfl, HB2.out⟩
end Go.Proofs.YtnalppgjbllehaaGreatDoor

/- Two operations alone may come up in a region that draws its order. No condition. -/
namespace Go.Proofs.YtnalppgjbllehaaGreatDoor
set_option linter.unusedVariables false
open Go
section
variable {P : Program} {ops : Array Oper} {Q : Exit → Act → World → Prop} {md : Region.Mode} {S T : World → Prop} {late : List Nat}
theorem late_step (k : Nat) {o : Oper} {n : Nat} {listed : Array Bool} {a : Act} {w : World} (ho : ops[k]? = some o)
    (h : ∀ K : Act → World → Prop, (∀ a' w', (quietB late (listed.setIfInBounds k true) = true → S w') → T w' → AnyLate P md ops Q late S T n (listed.setIfInBounds k true) a' w' → K a' w') →
      if Region.wanted o (yielded ops a.tmps) = true then Oper.wp P o a w K Q else K (a.put o.dst undef) w) :
    wpOp P ops Q k (fun a' w' => ((quietB late (listed.setIfInBounds k true) = true → S w') ∧ T w') ∧ AnyLate P md ops Q late S T n (listed.setIfInBounds k true) a' w') a w := by
  have q := h (fun a' w' => ((quietB late (listed.setIfInBounds k true) = true → S w') ∧ T w') ∧ AnyLate P md ops Q late S T n (listed.setIfInBounds k true) a' w') fun a' w' h1 h2 h3 => ⟨⟨h1, h2⟩, h3⟩
  unfold wpOp
  simp only [ho]
  split
  · rename_i hw
    rw [if_pos hw] at q
    exact .inl q
  · rename_i hw
    rw [if_neg hw] at q
    exact q
/-- Two alone may come up. -/
theorem late_two (k l : Nat) {o o2 : Oper} {n : Nat} {listed : Array Bool} {a : Act} {w : World} (ho : ops[k]? = some o) (ho2 : ops[l]? = some o2) (hr : Region.ready md ops listed = [k, l])
    (h : ∀ K : Act → World → Prop, (∀ a' w', (quietB late (listed.setIfInBounds k true) = true → S w') → T w' → AnyLate P md ops Q late S T n (listed.setIfInBounds k true) a' w' → K a' w') →
      if Region.wanted o (yielded ops a.tmps) = true then Oper.wp P o a w K Q else K (a.put o.dst undef) w)
    (h2 : ∀ K : Act → World → Prop, (∀ a' w', (quietB late (listed.setIfInBounds l true) = true → S w') → T w' → AnyLate P md ops Q late S T n (listed.setIfInBounds l true) a' w' → K a' w') →
      if Region.wanted o2 (yielded ops a.tmps) = true then Oper.wp P o2 a w K Q else K (a.put o2.dst undef) w) : AnyLate P md ops Q late S T (n + 1) listed a w := by
  refine ⟨(fun h0 => by rw [hr] at h0; cases h0), fun i hi => ?_⟩
  rw [hr] at hi
  rcases List.mem_cons.1 hi with rfl | hi
  · exact late_step i ho h
  · obtain rfl := List.mem_singleton.1 hi
    exact late_step i ho2 h2
end
end Go.Proofs.YtnalppgjbllehaaGreatDoor
