/- Acts and hooks as plain data; hooks' There, Which, Method and Get. Condition: the hook's own data; the table holds the hook. -/
import Derived.Test.YtnalppgjbllehaaGreatDoorL36
import Derived.Deep.MidRow
import Derived.Defers
import Derived.Recover
import Derived.Deep.RegionLaw
import Derived.Test.YtnalppgjbllehaaGreatDoorL44
import Derived.Test.YtnalppgjbllehaaGreatDoorL43
namespace Go.Proofs.YtnalppgjbllehaaGreatDoor
set_option linter.unusedVariables false
set_option linter.unusedSimpArgs false
open Go.RowKit

/-- A scripted method: what it does, its text, its format, its arguments' slice, the twelve cells' rest. -/
structure ActD where
  kind : Int
  text : ByteArray
  fmt : ByteArray
  aa : Option Addr
  an : Nat
  ac : Nat
  pk : Int
  pt : ByteArray
  pb : Int
  pi : Int
  px : ByteArray
  na : Option Addr
  nn : Nat
  nc : Nat
  qa : Option Addr
  qn : Nat
  qc : Nat
  ph : Int
def actL (a : ActD) : List Value := [.int .i64 a.kind, .string a.text, .string a.fmt, .slice a.aa a.an a.ac, .int .i64 a.pk, .string a.pt, .int .u64 a.pb, .int .u64 a.pi, .string a.px, .slice a.na a.nn a.nc, .slice a.qa a.qn a.qc, .int .i64 a.ph]
structure HookD where
  f : ActD
  s : ActD
  e : ActD
  t : ActD
def hookL (h : HookD) : List Value := actL h.f ++ (actL h.s ++ (actL h.e ++ actL h.t))
def hookC (h : HookD) : Array Value := ⟨hookL h⟩
theorem actL_len (a : ActD) : (actL a).length = 12 := rfl
theorem hookL_len (h : HookD) : (hookL h).length = 48 := by simp [hookL, actL_len]
theorem hook48 : (Tryz.prog.info? 33).map (·.size) = some 48 := by kernel_rfl
theorem act12 : (Tryz.prog.info? 31).map (·.size) = some 12 := by kernel_rfl
theorem hookC_size (h : HookD) : (Tryz.prog.info? 33).map (·.size) = some (hookC h).size := hook48.trans (congrArg some (hookL_len h).symm)
theorem act_size (a : ActD) : (Tryz.prog.info? 31).map (·.size) = some (actL a).length := act12
theorem hookC_one (h : HookD) : (hookC h).all (·.oneCell') = true := by simp [hookC, hookL, actL, Value.oneCell']
def thereB (k : Int) : Bool := decide (1 ≤ k) && decide (k ≤ 3)
theorem range_of_part {w : World} {b : Nat} {C : Array Value} {T : TypeId} {fr : Nat × Nat} (hb : w.heap[b]? = some (.cells C T fr)) (xs ys zs : List Value) (e : C.toList = xs ++ (ys ++ zs)) (o : Nat) (ho : o = xs.length) : w.rangeAt b o ys := by
  subst ho
  intro j v hv
  have h1 : C.toList[xs.length + j]? = some v := by
    rw [e, List.getElem?_append_right (by omega), Nat.add_sub_cancel_left, List.getElem?_append_left (List.getElem?_eq_some_iff.1 hv).1]
    exact hv
  rw [cell_of_heap' hb]
  simpa using h1
theorem hook_f {w : World} {b : Nat} {h : HookD} {T : TypeId} {fr : Nat × Nat} (hb : w.heap[b]? = some (.cells (hookC h) T fr)) : w.rangeAt b 0 (actL h.f) := range_of_part hb [] (actL h.f) _ rfl 0 rfl
theorem hook_s {w : World} {b : Nat} {h : HookD} {T : TypeId} {fr : Nat × Nat} (hb : w.heap[b]? = some (.cells (hookC h) T fr)) : w.rangeAt b 12 (actL h.s) := range_of_part hb (actL h.f) (actL h.s) _ rfl 12 rfl
theorem hook_e {w : World} {b : Nat} {h : HookD} {T : TypeId} {fr : Nat × Nat} (hb : w.heap[b]? = some (.cells (hookC h) T fr)) : w.rangeAt b 24 (actL h.e) := range_of_part hb (actL h.f ++ actL h.s) (actL h.e) (actL h.t) (by simp [hookC, hookL]) 24 rfl
theorem hook_t {w : World} {b : Nat} {h : HookD} {T : TypeId} {fr : Nat × Nat} (hb : w.heap[b]? = some (.cells (hookC h) T fr)) : w.rangeAt b 36 (actL h.t) := range_of_part hb (actL h.f ++ (actL h.s ++ actL h.e)) (actL h.t) [] (by simp [hookC, hookL]) 36 rfl

set_option maxHeartbeats 4000000 in
set_option maxRecDepth 1000000 in
theorem there_any (a : ActD) (w : World) : Calls Tryz.prog 120 #[.agg (actL a).toArray] w (Ret w (.bool (thereB a.kind))) := by
  obtain ⟨k, t, f, aa, an, ac, pk, pt, pb, pi, px, na, nn, nc, qa, qn, qc, ph⟩ := a
  unfold actL thereB
  have HB := Lib.hid (Below.new (w := w) (.cells #[.int .i64 k, .string t, .string f, .slice aa an ac, .int .i64 pk, .string pt, .int .u64 pb, .int .u64 pi, .string px, .slice na nn nc, .slice qa qn qc, .int .i64 ph] 31))
  by_cases h1 : 1 ≤ k
  · by_cases h2 : k ≤ 3
    · obtain ⟨r, hr⟩ : ∃ r, (decide (1 ≤ k) && decide (k ≤ 3)) = r := ⟨_, rfl⟩
      have hr2 : r = true := by rw [← hr]; simp [h1, h2]
      simp only [hr, hr2]
      clear hr hr2
      go_enter Tryz.func120, Tryz.ntmps120
      go_wp2_with fail
      go_ret
      exact ⟨rfl, HB.out⟩
    · obtain ⟨r, hr⟩ : ∃ r, (decide (1 ≤ k) && decide (k ≤ 3)) = r := ⟨_, rfl⟩
      have hr2 : r = false := by rw [← hr]; simp [h2]
      simp only [hr, hr2]
      clear hr hr2
      go_enter Tryz.func120, Tryz.ntmps120
      go_wp2_with fail
      go_ret
      exact ⟨rfl, HB.out⟩
  · obtain ⟨r, hr⟩ : ∃ r, (decide (1 ≤ k) && decide (k ≤ 3)) = r := ⟨_, rfl⟩
    have hr2 : r = false := by rw [← hr]; simp [h1]
    simp only [hr, hr2]
    clear hr hr2
    go_enter Tryz.func120, Tryz.ntmps120
    go_wp2_with fail
    go_ret
    exact ⟨rfl, HB.out⟩
set_option maxHeartbeats 4000000 in
set_option maxRecDepth 1000000 in
theorem method_string (w : World) : Calls Tryz.prog 91 #[.int .i64 4] w fun e w' => e = .returned (.string ⟨#[83, 116, 114, 105, 110, 103]⟩) ∧ w = w' := by
  go_enter Tryz.func91, Tryz.ntmps91
  go_wp2_with fail
  go_ret
  exact ⟨rfl, rfl⟩
set_option maxHeartbeats 4000000 in
set_option maxRecDepth 1000000 in
theorem method_format (w : World) : Calls Tryz.prog 91 #[.int .i64 1] w fun e w' => e = .returned (.string ⟨#[70, 111, 114, 109, 97, 116]⟩) ∧ w = w' := by
  go_enter Tryz.func91, Tryz.ntmps91
  go_wp2_with fail
  go_ret
  exact ⟨rfl, rfl⟩
set_option maxHeartbeats 4000000 in
set_option maxRecDepth 1000000 in
/-- A row of the table. -/
theorem get_one (h : HookD) (tb tc : Nat) (w : World) (ht : w.heap[tb]? = some (.cells (hookC h) 33 (0, 0))) (hc : 1 ≤ tc) : Calls Tryz.prog 54 #[.slice (some ⟨tb, 0, none⟩) 1 tc, .int .i64 1] w (Ret w (.tuple #[.agg (hookC h), .bool true])) := by
  have HT : Hid ((w.alloc (.cells hookZ 33)).heap[tb]? = some (.cells (hookC h) 33 (0, 0))) := Lib.hid (((Below.new (w := w) _).block _ (lt_of_some ht)).trans ht)
  have HN : Hid ((w.alloc (.cells hookZ 33)).heap[w.heap.size]? = some (.cells hookZ 33 (0, 0))) := Lib.hid (heap_alloc_new w _)
  have HZ := Lib.hid (hookC_size h)
  clear ht
  go_enter Tryz.func54, Tryz.ntmps54
  go_upto_region 3 with fail
  change Code.wp _ _ _ _ (w.alloc (.cells hookZ 33))
  go_wp2_with (first
    | (refine wpList_load_row (by rfl) 33 _ (by rfl) tb (by rfl) 33 (hookC h) (0, 0) _ ?_ Tryz.underlying33 (by rfl) HZ.out ?_; (with_reducible exact HT.out))
    | (refine wpList_store_row (by rfl) 33 _ _ (by rfl) w.heap.size (hookC h) (by rfl) (by rfl) 33 hookZ ?_ HZ.out (by rfl) (hookC_one h) ?_; (with_reducible exact HN.out)))
  rw [World.setRow_alloc_new]
  have HN2 := heap_alloc_new w (.cells (hookC h) 33)
  refine bodyPost_ret (v := .tuple #[.agg (hookC h), .bool true]) ?_ rfl ?_
  · have hl : (loadVar 33 ⟨w.heap.size, 0, none⟩).run Tryz.prog (w.alloc (.cells (hookC h) 33)) = .ok (.agg (hookC h)) (w.alloc (.cells (hookC h) 33)) := run_loadVar_row _ w.heap.size 33 33 (hookC h) (0, 0) _ HN2 Tryz.underlying33 rfl HZ.out
    simp only [results, Tryz.f54]
    simp [asAddr, hl]
  · exact ⟨rfl, Below.new _⟩
end Go.Proofs.YtnalppgjbllehaaGreatDoor

/- Which method is asked: hooks' Which by v. Condition: which methods there are. -/
namespace Go.Proofs.YtnalppgjbllehaaGreatDoor
set_option linter.unusedVariables false
set_option linter.unusedSimpArgs false
open Go.RowKit

theorem there_is (a : ActD) (r : Bool) (h : thereB a.kind = r) (w : World) : Calls Tryz.prog 120 #[.agg (actL a).toArray] w (Ret w (.bool r)) := by rw [← h]; exact there_any a w
set_option maxHeartbeats 4000000 in
set_option maxRecDepth 1000000 in
theorem which_string (h : HookD) (w : World) (hf : thereB h.f.kind = false) (he : thereB h.e.kind = false) (ht : thereB h.t.kind = true) :
    Calls Tryz.prog 89 #[.agg (hookC h), .int .i32 118, .bool false] w (Ret w (.int .i64 4)) := by
  have HF := Lib.hid (there_is h.f _ hf)
  have HE := Lib.hid (there_is h.e _ he)
  have HT := Lib.hid (there_is h.t _ ht)
  have HCR : Hid (∀ W : World, Calls Tryz.prog 121 #[.string ⟨#[118, 115, 120, 88, 113]⟩, .int .i32 118] W fun e w' => e = .returned (.bool true) ∧ W = w') := Lib.hid fun W => (Tryz.strings_ContainsRune_ascii ⟨#[118, 115, 120, 88, 113]⟩ 118 W (by decide) (by decide)).mono fun e w' hh => ⟨by rw [hh.1]; rfl, hh.2.symm⟩
  have HB1 : Hid ((w.alloc (.cells (hookC h) 33)).heap[w.heap.size]? = some (.cells (hookC h) 33 (0, 0))) := Lib.hid (heap_alloc_new w _)
  have HW1 := Lib.hid (Below.new (w := w) (.cells (hookC h) 33))
  clear hf he ht
  go_enter Tryz.func89, Tryz.ntmps89
  go_upto_region 1 with fail
  generalize w.alloc (.cells (hookC h) 33) = W1 at HB1 HW1 ⊢
  have HP := Lib.hid (hook_f HB1.out)
  go_wp2_with (refine wpList_load_mid (by rfl) 31 _ (by rfl) w.heap.size 0 (by rfl) (actL h.f) _ ?_ Tryz.underlying31 (by rfl) (act_size h.f) ?_; (with_reducible exact HP.out))
  refine (HF.out _).mono ?_
  rintro e W2 ⟨rfl, hb⟩
  have HW2 := Lib.hid (HW1.out.next hb)
  have HB2 := Lib.hid ((hb.block _ (lt_of_some HB1.out)).trans HB1.out)
  clear hb HB1 HW1 HP
  have HP := Lib.hid (hook_e HB2.out)
  go_wp2_with fail
  refine (HCR.out _).mono ?_
  rintro e W3 ⟨rfl, rfl⟩
  go_wp2_with (refine wpList_load_mid (by rfl) 31 _ (by rfl) w.heap.size 24 (by rfl) (actL h.e) _ ?_ Tryz.underlying31 (by rfl) (act_size h.e) ?_; (with_reducible exact HP.out))
  refine (HE.out _).mono ?_
  rintro e W3 ⟨rfl, hb⟩
  have HW3 := Lib.hid (HW2.out.next hb)
  have HB3 := Lib.hid ((hb.block _ (lt_of_some HB2.out)).trans HB2.out)
  clear hb HB2 HW2 HP
  have HP := Lib.hid (hook_t HB3.out)
  go_wp2_with (refine wpList_load_mid (by rfl) 31 _ (by rfl) w.heap.size 36 (by rfl) (actL h.t) _ ?_ Tryz.underlying31 (by rfl) (act_size h.t) ?_; (with_reducible exact HP.out))
  refine (HT.out _).mono ?_
  rintro e W4 ⟨rfl, hb⟩
  have HW4 := Lib.hid (HW3.out.next hb)
  clear hb HB3 HW3 HP
  go_wp2_with fail
  go_ret
  exact ⟨rfl, HW4.out⟩
set_option maxHeartbeats 4000000 in
set_option maxRecDepth 1000000 in
theorem which_format (h : HookD) (v : Int) (s : Bool) (w : World) (hf : thereB h.f.kind = true) :
    Calls Tryz.prog 89 #[.agg (hookC h), .int .i32 v, .bool s] w (Ret w (.int .i64 1)) := by
  have HF := Lib.hid (there_is h.f _ hf)
  have HB1 : Hid ((w.alloc (.cells (hookC h) 33)).heap[w.heap.size]? = some (.cells (hookC h) 33 (0, 0))) := Lib.hid (heap_alloc_new w _)
  have HW1 := Lib.hid (Below.new (w := w) (.cells (hookC h) 33))
  clear hf
  go_enter Tryz.func89, Tryz.ntmps89
  go_upto_region 1 with fail
  generalize w.alloc (.cells (hookC h) 33) = W1 at HB1 HW1 ⊢
  have HP := Lib.hid (hook_f HB1.out)
  go_wp2_with (refine wpList_load_mid (by rfl) 31 _ (by rfl) w.heap.size 0 (by rfl) (actL h.f) _ ?_ Tryz.underlying31 (by rfl) (act_size h.f) ?_; (with_reducible exact HP.out))
  refine (HF.out _).mono ?_
  rintro e W2 ⟨rfl, hb⟩
  have HW2 := Lib.hid (HW1.out.next hb)
  clear hb HB1 HW1 HP
  go_wp2_with fail
  go_ret
  exact ⟨rfl, HW2.out⟩
end Go.Proofs.YtnalppgjbllehaaGreatDoor

/- A method runs: hooks' run, caught and Do, where it prints or tells. Condition: what the print says. -/
namespace Go.Proofs.YtnalppgjbllehaaGreatDoor
set_option linter.unusedVariables false
set_option linter.unusedSimpArgs false
open Go.RowKit

def deepV (sb : Nat) : Value := .func (.func 57) #[.pointer (some ⟨sb, 0, none⟩)] #[]
def shownV (sb : Nat) : Value := .func (.func 58) #[.pointer (some ⟨sb, 0, none⟩)] #[]
def methC (a : ActD) (sb : Nat) : List Value := actL a ++ [deepV sb]
/-- What a method answers that prints or tells. -/
def runH (a : ActD) (sb : Nat) (I : World → Prop) (r : ByteArray) : Prop :=
  (a.kind = 1 ∧ r = a.text) ∨ (a.kind = 3 ∧ ∀ W, I W → Calls Tryz.prog 57 #[.pointer (some ⟨sb, 0, none⟩), .string a.fmt, .slice a.aa a.an a.ac] W (Ret W (.string r)))
set_option maxHeartbeats 4000000 in
set_option maxRecDepth 1000000 in
theorem run_any (a : ActD) (sb : Nat) (I : World → Prop) (hI : ∀ {W W' : World}, Below W.heap.size W W' → I W → I W') (r : ByteArray) (w : World) (hr : runH a sb I r) (hw : I w) :
    Calls Tryz.prog 123 #[.agg (methC a sb).toArray] w (Ret w (.string r)) := by
  obtain ⟨k, t, f, aa, an, ac, pk, pt, pb, pi, px, na, nn, nc, qa, qn, qc, ph⟩ := a
  unfold runH at hr
  unfold methC actL deepV
  have HB := Lib.hid (Below.new (w := w) (.cells #[.int .i64 k, .string t, .string f, .slice aa an ac, .int .i64 pk, .string pt, .int .u64 pb, .int .u64 pi, .string px, .slice na nn nc, .slice qa qn qc, .int .i64 ph, .func (.func 57) #[.pointer (some ⟨sb, 0, none⟩)] #[]] 212))
  rcases hr with ⟨rfl, rfl⟩ | ⟨rfl, hr⟩
  · go_enter Tryz.func123, Tryz.ntmps123
    go_wp2_with fail
    go_ret
    exact ⟨rfl, HB.out⟩
  · have HR := Lib.hid (hr _ (hI HB.out hw))
    clear hr hw
    go_enter Tryz.func123, Tryz.ntmps123
    go_wp2_with fail
    refine HR.out.mono ?_
    rintro e W2 ⟨rfl, hb⟩
    have HB2 := Lib.hid (HB.out.next hb)
    clear hb HB HR
    go_wp2_with fail
    go_ret
    exact ⟨rfl, HB2.out⟩
end Go.Proofs.YtnalppgjbllehaaGreatDoor

/- What a method answers is caught: hooks' caught, where nothing is thrown. Condition: what the method answers. -/
namespace Go.Proofs.YtnalppgjbllehaaGreatDoor
set_option linter.unusedVariables false
set_option linter.unusedSimpArgs false
open Go.RowKit

theorem caught_idle (p : Addr) (w : World) :
    CallsD Tryz.prog 145 #[.pointer (some p)] .returning w fun e u' w' => e = .returned (.tuple #[]) ∧ u' = .returning ∧ w = w' := by
  refine callsD_of_wpS Tryz.func145 rfl fun c₀ cs hu => ?_
  apply wpS_seq
  apply wpS_region
  simp [wpOpsS, go_sem, recoverD, hu, Tryz.ntmps145, Exit.thenS]
  refine wpS_of_wp ?_
  rw [show (#[Value.pointer (some p)] ++ (Array.replicate 9 undef).setIfInBounds 3 Value.nilIface : Array Value) =
    #[.pointer (some p), undef, undef, undef, .nilIface, undef, undef, undef, undef, undef] from rfl]
  go_wp2
  cases c₀
  simp_all [bodyPostS, results, Tryz.f145]
set_option maxHeartbeats 4000000 in
set_option maxRecDepth 1000000 in
theorem caught_any (m : Value) (r : ByteArray) (w : World) (hm : ∀ W, Below w.heap.size w W → Calls Tryz.prog 123 #[m] W (Ret W (.string r))) :
    Calls Tryz.prog 122 #[.func (.func 123) #[m] #[]] w (Ret w (.tuple #[.string r, .pointer none])) := by
  have HM := Lib.hid hm
  clear hm
  have hmf : ∀ (fn : Fn) (first cap : Array Value) (w : World), (Instr.makeFunc fn first cap).run Tryz.prog w = .ok (.func fn first cap) w := fun _ _ _ _ => rfl
  go_enter_defers Tryz.func122, Tryz.ntmps122
  go_wp2_with fail
  have HB0 := Lib.hid (Below.new (w := w) (.cells #[.pointer none] 213))
  have c0 : (w.alloc (.cells #[.pointer none] 213)).cell? ⟨w.heap.size, 0, none⟩ = some (.pointer none) := by simp
  have z0 : (w.alloc (.cells #[.pointer none] 213)).frozen? ⟨w.heap.size, 0, none⟩ = false := by simp
  have hs : w.heap.size < (w.alloc (.cells #[.pointer none] 213)).heap.size := by simp
  generalize w.alloc (.cells #[.pointer none] 213) = W0 at HB0 c0 z0 hs ⊢
  refine (HM.out _ HB0.out).mono ?_
  rintro e W1 ⟨rfl, hb⟩
  have HB1 := Lib.hid (HB0.out.next hb)
  have zz := hb.frozen (p := ⟨w.heap.size, 0, none⟩) hs
  rw [z0] at zz
  replace c0 := cell_below hb c0
  clear z0 hb HM hs
  go_wp2_with fail
  refine leaves_cons (f := 145) (args := #[.pointer (some ⟨w.heap.size, 0, none⟩)]) (by simp) (by simp [go_sem]) ?_
  refine (caught_idle _ _).mono ?_
  rintro e u' w'' ⟨rfl, rfl, rfl⟩
  have k1 : (W1.cell? ⟨w.heap.size, 0, none⟩).isSome = true := by rw [c0]; rfl
  have k4 := World.cell?_setCell_same' W1 ⟨w.heap.size, 0, none⟩ (.pointer none) k1
  have HBZ := Lib.hid (HB1.out.setCell (p := ⟨w.heap.size, 0, none⟩) (Nat.le_refl _) (.pointer none))
  simp [Leaves, settle, results, Tryz.f122, go_sem, k4]
  exact ⟨rfl, HBZ.out⟩
end Go.Proofs.YtnalppgjbllehaaGreatDoor

/- A method is called: hooks' Do, where nothing is thrown. Condition: what the method answers. -/
namespace Go.Proofs.YtnalppgjbllehaaGreatDoor
set_option linter.unusedVariables false
set_option linter.unusedSimpArgs false
open Go.RowKit

theorem meth13 : (Tryz.prog.info? 212).map (·.size) = some 13 := by kernel_rfl
theorem methC_len (a : ActD) (sb : Nat) : (methC a sb).length = 13 := rfl
theorem methC_size (a : ActD) (sb : Nat) : (Tryz.prog.info? 212).map (·.size) = some (methC a sb).toArray.size := meth13
theorem methC_one (a : ActD) (sb : Nat) : (methC a sb).toArray.all (·.oneCell') = true := by simp [methC, actL, deepV, Value.oneCell']
theorem actL_one (a : ActD) : (actL a).toArray.all (·.oneCell') = true := by simp [actL, Value.oneCell']
theorem wpList_build_is {P : Program} {ops : Array Oper} {rest : List Oper} {o : Oper} {a : Act} {w : World} {Q : Exit → Act → World → Prop} (hg : o.guard = none) (t : TypeId) (parts : Array (Nat × Operand)) (ho : o.op = .build t parts)
    (vals : List (Nat × Value)) (hv : (parts.toList.map fun (i, x) => (i, a.eval x)) = vals) (cells : Array Value) (hc : P.built t vals = some cells)
    (h : wpList P ops Q rest (a.put o.dst (.agg cells)) w) : wpList P ops Q (o :: rest) a w :=
  wpList_build hg t parts ho (by rw [Array.toList_map, hv, hc]; rfl) (by rw [Array.toList_map, hv, hc]; exact h)
theorem wpList_index_is {P : Program} {ops : Array Oper} {rest : List Oper} {o : Oper} {a : Act} {w : World} {Q : Exit → Act → World → Prop} (hg : o.guard = none) (t : TypeId) (x i : Operand) (ho : o.op = .index t x i)
    (v k r : Value) (hx : a.eval x = v) (hi : a.eval i = k) (hr : (Instr.index t v k).run P w = .ok r w)
    (h : wpList P ops Q rest (a.put o.dst r) w) : wpList P ops Q (o :: rest) a w :=
  wpList_plain hg fun _ hK => by
    unfold Oper.wp execOp
    simp only [ho, hx, hi, hr, Sem.run_bind, Result.andThen_ok]
    exact hK _ _ h
theorem built_meth (a : ActD) (sb : Nat) : Tryz.prog.built 212 [(0, .agg (actL a).toArray), (1, deepV sb)] = some (methC a sb).toArray := by kernel_rfl
theorem build_meth (a : ActD) (sb : Nat) (W : World) : (Instr.build 212 #[(0, .agg (actL a).toArray), (1, deepV sb)]).run Tryz.prog W = .ok (.agg (methC a sb).toArray) W := run_build W _ _ _ (by kernel_rfl)
set_option maxHeartbeats 4000000 in
set_option maxRecDepth 1000000 in
theorem do_any (a : ActD) (np : Bool) (verb : Int) (name : ByteArray) (sb : Nat) (r : ByteArray) (w : World) (ha : thereB a.kind = true) (hm : ∀ W, Below w.heap.size w W → Calls Tryz.prog 123 #[.agg (methC a sb).toArray] W (Ret W (.string r))) :
    Calls Tryz.prog 90 #[.agg (actL a).toArray, .bool np, .int .i32 verb, .string name, deepV sb, shownV sb] w (Ret w (.tuple #[.string r, .bool true])) := by
  have HTH := Lib.hid (there_is a _ ha)
  have HCG : Hid (∀ W, Below w.heap.size w W → Calls Tryz.prog 122 #[.func (.func 123) #[.agg (methC a sb).toArray] #[]] W (Ret W (.tuple #[.string r, .pointer none]))) :=
    Lib.hid fun W hW => caught_any _ r W fun W' hW' => hm W' (hW.next hW')
  have HB0 := Lib.hid (Below.new (w := w) (.cells (actL a).toArray 31))
  have H0 := Lib.hid (heap_alloc_new w (.cells (actL a).toArray 31))
  have hmf : ∀ (fn : Fn) (first cap : Array Value) (w : World), (Instr.makeFunc fn first cap).run Tryz.prog w = .ok (.func fn first cap) w := fun _ _ _ _ => rfl
  have hbd := Lib.hid (built_meth a sb)
  clear ha hm
  go_enter Tryz.func90, Tryz.ntmps90
  go_upto_region 1 with fail
  generalize w.alloc (.cells (actL a).toArray 31) = W1 at HB0 H0 ⊢
  go_wp2_with (refine wpList_load_row (by rfl) 31 _ (by rfl) w.heap.size (by rfl) 31 (actL a).toArray (0, 0) _ ?_ Tryz.underlying31 (by rfl) (act_size a) ?_; (with_reducible exact H0.out))
  refine (HTH.out _).mono ?_
  rintro e W2 ⟨rfl, hb⟩
  have HB2 := Lib.hid (HB0.out.next hb)
  have H2 := Lib.hid ((hb.block _ (lt_of_some H0.out)).trans H0.out)
  clear hb HB0 H0
  have HN := Lib.hid (heap_alloc_new W2 (.cells #[.int .i64 0, .string ⟨#[]⟩, .string ⟨#[]⟩, .slice none 0 0, .int .i64 0, .string ⟨#[]⟩, .int .u64 0, .int .u64 0, .string ⟨#[]⟩, .slice none 0 0, .slice none 0 0, .int .i64 0, .nilFunc] 212))
  have HM : Hid (((W2.alloc (.cells #[.int .i64 0, .string ⟨#[]⟩, .string ⟨#[]⟩, .slice none 0 0, .int .i64 0, .string ⟨#[]⟩, .int .u64 0, .int .u64 0, .string ⟨#[]⟩, .slice none 0 0, .slice none 0 0, .int .i64 0, .nilFunc] 212)).setRow W2.heap.size (methC a sb).toArray).heap[W2.heap.size]? = some (.cells (methC a sb).toArray 212 (0, 0))) := by
    rw [World.setRow_alloc_new]
    exact Lib.hid (heap_alloc_new W2 _)
  have hdv : ∃ dv, dv = deepV sb := ⟨_, rfl⟩
  obtain ⟨dv, hdv⟩ := hdv
  rw [← hdv] at hbd ⊢
  have HDV := Lib.hid hdv
  clear hdv
  go_upto_region 3 with fail
  go_wp2_with (first
    | (refine wpList_load_row (by rfl) 31 _ (by rfl) w.heap.size (by rfl) 31 (actL a).toArray (0, 0) _ ?_ Tryz.underlying31 (by rfl) (act_size a) ?_; (with_reducible exact H2.out))
    | (refine wpList_build_is (by rfl) 212 _ (by rfl) [(0, .agg (actL a).toArray), (1, dv)] (by rfl) (methC a sb).toArray ?_ ?_; (with_reducible exact hbd.out))
    | (refine wpList_store_row (by rfl) 212 _ _ (by rfl) W2.heap.size (methC a sb).toArray (by rfl) (by rfl) 212 #[.int .i64 0, .string ⟨#[]⟩, .string ⟨#[]⟩, .slice none 0 0, .int .i64 0, .string ⟨#[]⟩, .int .u64 0, .int .u64 0, .string ⟨#[]⟩, .slice none 0 0, .slice none 0 0, .int .i64 0, .nilFunc] ?_ (methC_size a sb) (by rfl) (methC_one a sb) ?_; (with_reducible exact HN.out))
    | (refine wpList_load_row (by rfl) 212 _ (by rfl) W2.heap.size (by rfl) 212 (methC a sb).toArray (0, 0) _ ?_ Tryz.underlying212 (by rfl) (methC_size a sb) ?_; (with_reducible exact HM.out)))
  rw [World.setRow_alloc_new]
  have HBM := Lib.hid (HB2.out.next (Below.new (w := W2) (.cells (methC a sb).toArray 212)))
  generalize W2.alloc (.cells (methC a sb).toArray 212) = W3 at HBM ⊢
  refine (HCG.out _ HBM.out).mono ?_
  rintro e W4 ⟨rfl, hb⟩
  have HB4 := Lib.hid (HBM.out.next hb)
  clear hb HBM HM HN HB2 H2
  go_wp2_with fail
  refine bodyPost_ret (v := .tuple #[.string r, .bool true]) (by simp [results, Tryz.f90, go_sem]) rfl ?_
  exact ⟨rfl, HB4.out⟩
end Go.Proofs.YtnalppgjbllehaaGreatDoor

/- What a hook says: hooks' Say, where its method tells or prints. Condition: which methods there are; what the method answers. -/
namespace Go.Proofs.YtnalppgjbllehaaGreatDoor
set_option linter.unusedVariables false
set_option linter.unusedSimpArgs false
open Go.RowKit

theorem exec_load_row {P : Program} {ρ : Operand → Value} {o : Oper} {w : World} (ty : TypeId) (x : Operand) (ho : o.op = .load ty x) (g : Nat) (hx : ρ x = .pointer (some ⟨g, 0, none⟩)) (cs : Array Value)
    (hl : (loadVar ty ⟨g, 0, none⟩).run P w = .ok (.agg cs) w) : (execOp ρ o).run P w = .ok (.value (.agg cs)) w := by
  unfold execOp
  simp only [ho, hx, Instr.loadAt, Instr.sureAddr, Sem.run_bind, Sem.run_pure, Result.andThen_ok, hl]
theorem built_acts (h : HookD) : Tryz.prog.built 174 [(1, .agg (actL h.f).toArray), (2, .agg (actL h.s).toArray), (3, .agg (actL h.e).toArray), (4, .agg (actL h.t).toArray)] = some ⟨actZ ++ hookL h⟩ := by kernel_rfl
theorem index_act4 (h : HookD) (W : World) : (Instr.index 174 (.agg ⟨actZ ++ hookL h⟩) (.int .i64 4)).run Tryz.prog W = .ok (.agg (actL h.t).toArray) W := by kernel_rfl
theorem index_act1 (h : HookD) (W : World) : (Instr.index 174 (.agg ⟨actZ ++ hookL h⟩) (.int .i64 1)).run Tryz.prog W = .ok (.agg (actL h.f).toArray) W := by kernel_rfl
theorem act_size' (a : ActD) : (Tryz.prog.info? 31).map (·.size) = some (actL a).toArray.size := act12
set_option maxHeartbeats 4000000 in
set_option maxRecDepth 1000000 in
theorem say_string (h : HookD) (f : SpecD) (np : Bool) (sb : Nat) (r : ByteArray) (w : World) (hf : thereB h.f.kind = false) (he : thereB h.e.kind = false) (ht : thereB h.t.kind = true) (hv : f.verb = 118) (hs : f.sharp = false) (hr : f.Rng) (hz : r.size ≤ 1000000000)
    (hm : ∀ W, Below w.heap.size w W → Calls Tryz.prog 123 #[.agg (methC h.t sb).toArray] W (Ret W (.string r))) :
    Calls Tryz.prog 56 #[.agg (hookC h), .agg (specCells f), .bool np, deepV sb, shownV sb] w (Ret w (.tuple #[.string (padB (cutB r f.prec) f), .bool true])) := by
  have HWH := Lib.hid (fun W => which_string h W hf he ht)
  have HDO : Hid (∀ W, Below w.heap.size w W → Calls Tryz.prog 90 #[.agg (actL h.t).toArray, .bool np, .int .i32 118, .string ⟨#[83, 116, 114, 105, 110, 103]⟩, deepV sb, shownV sb] W (Ret W (.tuple #[.string r, .bool true]))) :=
    Lib.hid fun W hW => do_any h.t np 118 _ sb r W ht fun W' hW' => hm W' (hW.next hW')
  have HQT := Lib.hid (fun W => qtext_any r f W (by omega) hr (.inl ⟨hv, hs⟩))
  obtain ⟨q, hq⟩ : ∃ q, padB (cutB r f.prec) f = q := ⟨_, rfl⟩
  rw [hq] at HQT ⊢
  have HBH : Hid (((w.alloc (.cells (hookC h) 33)).alloc (.cells (specCells f) 61)).heap[w.heap.size]? = some (.cells (hookC h) 33 (0, 0))) := Lib.hid (((Below.new _).block _ (by simp)).trans (heap_alloc_new w _))
  have HBS : Hid (((w.alloc (.cells (hookC h) 33)).alloc (.cells (specCells f) 61)).heap[w.heap.size + 1]? = some (.cells (specCells f) 61 (0, 0))) := by
    have := heap_alloc_new (w.alloc (.cells (hookC h) 33)) (.cells (specCells f) 61)
    rw [World.size_alloc] at this
    exact Lib.hid this
  have HB1 := Lib.hid ((Below.new (w := w) (.cells (hookC h) 33)).push (.cells (specCells f) 61))
  have HV := Lib.hid hv
  have HS := Lib.hid hs
  clear hf he ht hm hr hz hq hv hs
  obtain ⟨dv, hdv⟩ : ∃ dv, dv = deepV sb := ⟨_, rfl⟩
  obtain ⟨sv, hsv⟩ : ∃ sv, sv = shownV sb := ⟨_, rfl⟩
  rw [← hdv, ← hsv] at HDO ⊢
  clear hdv hsv
  go_enter Tryz.func56, Tryz.ntmps56
  go_upto_region 1 with fail
  generalize (w.alloc (.cells (hookC h) 33)).alloc (.cells (specCells f) 61) = W1 at HBH HBS HB1 ⊢
  have c2 : W1.cell? ⟨w.heap.size + 1, 2, none⟩ = some (.bool false) := by rw [← HS.out]; exact cell_of_heap' HBS.out 2
  have c7 : W1.cell? ⟨w.heap.size + 1, 7, none⟩ = some (.int .i32 118) := by rw [← HV.out]; exact cell_of_heap' HBS.out 7
  go_wp2_with (refine wpList_load_row (by rfl) 33 _ (by rfl) w.heap.size (by rfl) 33 (hookC h) (0, 0) _ ?_ Tryz.underlying33 (by rfl) (hookC_size h) ?_; (with_reducible exact HBH.out))
  refine (HWH.out _).mono ?_
  rintro e W2 ⟨rfl, hb⟩
  have HB2 := Lib.hid (HB1.out.next hb)
  have HBH2 := Lib.hid ((hb.block _ (lt_of_some HBH.out)).trans HBH.out)
  have HBS2 := Lib.hid ((hb.block _ (lt_of_some HBS.out)).trans HBS.out)
  clear hb HB1 HBH HBS c2 c7 HWH
  have H1 := Lib.hid (hook_f HBH2.out)
  have H2 := Lib.hid (hook_s HBH2.out)
  have H3 := Lib.hid (hook_e HBH2.out)
  have H4 := Lib.hid (hook_t HBH2.out)
  have HBD := Lib.hid (built_acts h)
  have HN := Lib.hid (heap_alloc_new W2 (.cells #[.int .i64 0, .string ⟨#[]⟩, .string ⟨#[]⟩, .slice none 0 0, .int .i64 0, .string ⟨#[]⟩, .int .u64 0, .int .u64 0, .string ⟨#[]⟩, .slice none 0 0, .slice none 0 0, .int .i64 0] 31))
  go_upto_region 4 with fail
  obtain ⟨big, hbig⟩ : ∃ big : Array Value, big = ⟨actZ ++ hookL h⟩ := ⟨_, rfl⟩
  have HIX : Hid ((Instr.index 174 (.agg big) (.int .i64 4)).run Tryz.prog W2 = .ok (.agg (actL h.t).toArray) W2) := by rw [hbig]; exact Lib.hid (index_act4 h W2)
  rw [← hbig] at HBD
  clear hbig
  go_upto_region 5 with (first
    | (refine wpList_load_mid (by rfl) 31 _ (by rfl) w.heap.size 0 (by rfl) (actL h.f) _ ?_ Tryz.underlying31 (by rfl) (act_size h.f) ?_; (with_reducible exact H1.out))
    | (refine wpList_load_mid (by rfl) 31 _ (by rfl) w.heap.size 12 (by rfl) (actL h.s) _ ?_ Tryz.underlying31 (by rfl) (act_size h.s) ?_; (with_reducible exact H2.out))
    | (refine wpList_load_mid (by rfl) 31 _ (by rfl) w.heap.size 24 (by rfl) (actL h.e) _ ?_ Tryz.underlying31 (by rfl) (act_size h.e) ?_; (with_reducible exact H3.out))
    | (refine wpList_load_mid (by rfl) 31 _ (by rfl) w.heap.size 36 (by rfl) (actL h.t) _ ?_ Tryz.underlying31 (by rfl) (act_size h.t) ?_; (with_reducible exact H4.out))
    | (refine wpList_build_is (by rfl) 174 _ (by rfl) [(1, .agg (actL h.f).toArray), (2, .agg (actL h.s).toArray), (3, .agg (actL h.e).toArray), (4, .agg (actL h.t).toArray)] (by rfl) big ?_ ?_; (with_reducible exact HBD.out))
    | (refine wpList_index_is (by rfl) 174 _ _ (by rfl) (.agg big) (.int .i64 4) (.agg (actL h.t).toArray) (by rfl) (by rfl) ?_ ?_; (with_reducible exact HIX.out))
    | (refine wpList_store_row (by rfl) 31 _ _ (by rfl) W2.heap.size (actL h.t).toArray (by rfl) (by rfl) 31 #[.int .i64 0, .string ⟨#[]⟩, .string ⟨#[]⟩, .slice none 0 0, .int .i64 0, .string ⟨#[]⟩, .int .u64 0, .int .u64 0, .string ⟨#[]⟩, .slice none 0 0, .slice none 0 0, .int .i64 0] ?_ (act_size' h.t) (by rfl) (actL_one h.t) ?_; (with_reducible exact HN.out)))
  rw [World.setRow_alloc_new]
  have HBA := Lib.hid (HB2.out.next (Below.new (w := W2) (.cells (actL h.t).toArray 31)))
  have HAC := Lib.hid (heap_alloc_new W2 (.cells (actL h.t).toArray 31))
  have HSC := Lib.hid (((Below.new (w := W2) (.cells (actL h.t).toArray 31)).block _ (lt_of_some HBS2.out)).trans HBS2.out)
  obtain ⟨ab, hab⟩ : ∃ ab, W2.heap.size = ab := ⟨_, rfl⟩
  rw [hab] at HAC ⊢
  generalize W2.alloc (.cells (actL h.t).toArray 31) = W3 at HBA HAC HSC ⊢
  clear HBH2 HBS2 H1 H2 H3 H4 HBD HN HIX hab HB2
  refine late_begin [] (fun _ => True) (fun W => Below W3.heap.size W3 W) (by kernel_rfl) ?_
  have HT0 : Below W3.heap.size W3 W3.drew := (Below.refl _ W3).drew
  have HLT := Lib.hid HBA.out.size
  generalize W3.drew = W4 at HT0 ⊢
  refine late_take (i := 0) (.agg (actL h.t).toArray) false rfl (by kernel_rfl) (by kernel_rfl) (by kernel_rfl) (by kernel_rfl) (fun h => by cases h) (fun _ _ _ h => h) (by rfl) (fun W hS hT => ?_) (fun _ => trivial) HT0 (fun h => by cases h) ?_
  · (have hl := run_loadVar_row W ab 31 31 (actL h.t).toArray (0, 0) _ ((hT.block _ (lt_of_some HAC.out)).trans HAC.out) Tryz.underlying31 rfl (act_size h.t); exact exec_load_row 31 _ (by rfl) ab (by rfl) _ hl)
  try simp only [Act.put, List.getElem_toArray, List.getElem_cons_zero, List.getElem_cons_succ, List.setIfInBounds_toArray, List.set_cons_zero, List.set_cons_succ]
  refine late_take (i := 1) (.bool np) false rfl (by kernel_rfl) (by kernel_rfl) (by kernel_rfl) (by kernel_rfl) (fun h => by cases h) (fun _ _ _ h => h) (by rfl) (fun W hS hT => ?_) (fun _ => trivial) HT0 (fun h => by cases h) ?_
  · go_simp
  try simp only [Act.put, List.getElem_toArray, List.getElem_cons_zero, List.getElem_cons_succ, List.setIfInBounds_toArray, List.set_cons_zero, List.set_cons_succ]
  refine late_take (i := 2) (.pointer (some ⟨w.heap.size + 1, 7, none⟩)) false rfl (by kernel_rfl) (by kernel_rfl) (by kernel_rfl) (by kernel_rfl) (fun h => by cases h) (fun _ _ _ h => h) (by rfl) (fun W hS hT => ?_) (fun _ => trivial) HT0 (fun h => by cases h) ?_
  · go_simp
  try simp only [Act.put, List.getElem_toArray, List.getElem_cons_zero, List.getElem_cons_succ, List.setIfInBounds_toArray, List.set_cons_zero, List.set_cons_succ]
  refine late_take (i := 3) (.int .i32 118) false rfl (by kernel_rfl) (by kernel_rfl) (by kernel_rfl) (by kernel_rfl) (fun h => by cases h) (fun _ _ _ h => h) (by rfl) (fun W hS hT => ?_) (fun _ => trivial) HT0 (fun h => by cases h) ?_
  · (have k7 : W.cell? ⟨w.heap.size + 1, 7, none⟩ = some (.int .i32 118) := by rw [← HV.out]; exact cell_of_heap' ((hT.block _ (lt_of_some HSC.out)).trans HSC.out) 7
     go_simp)
  try simp only [Act.put, List.getElem_toArray, List.getElem_cons_zero, List.getElem_cons_succ, List.setIfInBounds_toArray, List.set_cons_zero, List.set_cons_succ]
  refine late_take (i := 4) (.int .i64 4) false rfl (by kernel_rfl) (by kernel_rfl) (by kernel_rfl) (by kernel_rfl) (fun h => by cases h) (fun _ _ _ h => h) (by rfl) (fun W hS hT => ?_) (fun _ => trivial) HT0 (fun h => by cases h) ?_
  · go_simp
  try simp only [Act.put, List.getElem_toArray, List.getElem_cons_zero, List.getElem_cons_succ, List.setIfInBounds_toArray, List.set_cons_zero, List.set_cons_succ]
  refine late_take (i := 6) (dv) false rfl (by kernel_rfl) (by kernel_rfl) (by kernel_rfl) (by kernel_rfl) (fun h => by cases h) (fun _ _ _ h => h) (by rfl) (fun W hS hT => ?_) (fun _ => trivial) HT0 (fun h => by cases h) ?_
  · go_simp
  try simp only [Act.put, List.getElem_toArray, List.getElem_cons_zero, List.getElem_cons_succ, List.setIfInBounds_toArray, List.set_cons_zero, List.set_cons_succ]
  refine late_take (i := 7) (sv) false rfl (by kernel_rfl) (by kernel_rfl) (by kernel_rfl) (by kernel_rfl) (fun h => by cases h) (fun _ _ _ h => h) (by rfl) (fun W hS hT => ?_) (fun _ => trivial) HT0 (fun h => by cases h) ?_
  · go_simp
  try simp only [Act.put, List.getElem_toArray, List.getElem_cons_zero, List.getElem_cons_succ, List.setIfInBounds_toArray, List.set_cons_zero, List.set_cons_succ]
  refine late_one 5 rfl (by kernel_rfl) (fun K hK => ?_)
  try simp only [List.getElem_toArray, List.getElem_cons_zero, List.getElem_cons_succ]
  rw [if_pos (by rfl)]
  go_simp
  refine (method_string _).mono ?_
  rintro e wa ⟨rfl, rfl⟩
  (try go_simp)
  refine hK _ _ (fun _ => trivial) HT0 ?_
  clear hK K
  try simp only [Act.put, List.getElem_toArray, List.getElem_cons_zero, List.getElem_cons_succ, List.setIfInBounds_toArray, List.set_cons_zero, List.set_cons_succ]
  refine late_one 8 rfl (by kernel_rfl) (fun K hK => ?_)
  try simp only [List.getElem_toArray, List.getElem_cons_zero, List.getElem_cons_succ]
  rw [if_pos (by rfl)]
  go_simp
  refine (HDO.out _ (HBA.out.next HT0)).mono ?_
  rintro e wa ⟨rfl, hwa⟩
  (try go_simp)
  have HT0 := HT0.next hwa
  clear hwa
  refine hK _ _ (fun _ => trivial) HT0 ?_
  clear hK K
  try simp only [Act.put, List.getElem_toArray, List.getElem_cons_zero, List.getElem_cons_succ, List.setIfInBounds_toArray, List.set_cons_zero, List.set_cons_succ]
  refine late_take (i := 9) (.tuple #[.string r, .bool true]) false rfl (by kernel_rfl) (by kernel_rfl) (by kernel_rfl) (by kernel_rfl) (fun h => by cases h) (fun _ _ _ h => h) (by rfl) (fun W hS hT => ?_) (fun _ => trivial) HT0 (fun h => by cases h) ?_
  · go_simp
  try simp only [Act.put, List.getElem_toArray, List.getElem_cons_zero, List.getElem_cons_succ, List.setIfInBounds_toArray, List.set_cons_zero, List.set_cons_succ]
  refine late_take (i := 10) (.string r) false rfl (by kernel_rfl) (by kernel_rfl) (by kernel_rfl) (by kernel_rfl) (fun h => by cases h) (fun _ _ _ h => h) (by rfl) (fun W hS hT => ?_) (fun _ => trivial) HT0 (fun h => by cases h) ?_
  · go_simp
  try simp only [Act.put, List.getElem_toArray, List.getElem_cons_zero, List.getElem_cons_succ, List.setIfInBounds_toArray, List.set_cons_zero, List.set_cons_succ]
  refine late_take (i := 11) (.bool true) false rfl (by kernel_rfl) (by kernel_rfl) (by kernel_rfl) (by kernel_rfl) (fun h => by cases h) (fun _ _ _ h => h) (by rfl) (fun W hS hT => ?_) (fun _ => trivial) HT0 (fun h => by cases h) ?_
  · go_simp
  try simp only [Act.put, List.getElem_toArray, List.getElem_cons_zero, List.getElem_cons_succ, List.setIfInBounds_toArray, List.set_cons_zero, List.set_cons_succ]
  refine late_take (i := 12) (.string r) false rfl (by kernel_rfl) (by kernel_rfl) (by kernel_rfl) (by kernel_rfl) (fun h => by cases h) (fun _ _ _ h => h) (by rfl) (fun W hS hT => ?_) (fun _ => trivial) HT0 (fun h => by cases h) ?_
  · go_simp
  try simp only [Act.put, List.getElem_toArray, List.getElem_cons_zero, List.getElem_cons_succ, List.setIfInBounds_toArray, List.set_cons_zero, List.set_cons_succ]
  refine late_take (i := 13) (.bool true) false rfl (by kernel_rfl) (by kernel_rfl) (by kernel_rfl) (by kernel_rfl) (fun h => by cases h) (fun _ _ _ h => h) (by rfl) (fun W hS hT => ?_) (fun _ => trivial) HT0 (fun h => by cases h) ?_
  · go_simp
  try simp only [Act.put, List.getElem_toArray, List.getElem_cons_zero, List.getElem_cons_succ, List.setIfInBounds_toArray, List.set_cons_zero, List.set_cons_succ]
  refine late_done (by kernel_rfl) ?_ _
  have HSD := Lib.hid ((HT0.block _ (lt_of_some HSC.out)).trans HSC.out)
  have HBD := Lib.hid (HBA.out.next HT0)
  clear HT0 HAC HSC HLT HBA HDO
  go_wp2_with (refine wpList_load_row (by rfl) 61 _ (by rfl) (w.heap.size + 1) (by rfl) 61 (specCells f) (0, 0) _ ?_ Tryz.underlying61 (by rfl) (spec_size f) ?_; (with_reducible exact HSD.out))
  refine (HQT.out _).mono ?_
  rintro e w2 ⟨rfl, hb⟩
  have HBE := Lib.hid (HBD.out.next hb)
  clear hb HBD HSD
  go_wp2_with fail
  refine bodyPost_ret (v := .tuple #[.string q, .bool true]) (by simp [results, Tryz.f56, go_sem]) rfl ?_
  exact ⟨rfl, HBE.out⟩
set_option maxHeartbeats 4000000 in
set_option maxRecDepth 1000000 in
theorem say_format (h : HookD) (f : SpecD) (np : Bool) (sb : Nat) (r : ByteArray) (w : World) (hf : thereB h.f.kind = true)
    (hm : ∀ W, Below w.heap.size w W → Calls Tryz.prog 123 #[.agg (methC h.f sb).toArray] W (Ret W (.string r))) :
    Calls Tryz.prog 56 #[.agg (hookC h), .agg (specCells f), .bool np, deepV sb, shownV sb] w (Ret w (.tuple #[.string r, .bool true])) := by
  have HWH := Lib.hid (fun W => which_format h f.verb f.sharp W hf)
  have HDO : Hid (∀ W, Below w.heap.size w W → Calls Tryz.prog 90 #[.agg (actL h.f).toArray, .bool np, .int .i32 f.verb, .string ⟨#[70, 111, 114, 109, 97, 116]⟩, deepV sb, shownV sb] W (Ret W (.tuple #[.string r, .bool true]))) :=
    Lib.hid fun W hW => do_any h.f np f.verb _ sb r W hf fun W' hW' => hm W' (hW.next hW')
  have HBH : Hid (((w.alloc (.cells (hookC h) 33)).alloc (.cells (specCells f) 61)).heap[w.heap.size]? = some (.cells (hookC h) 33 (0, 0))) := Lib.hid (((Below.new _).block _ (by simp)).trans (heap_alloc_new w _))
  have HBS : Hid (((w.alloc (.cells (hookC h) 33)).alloc (.cells (specCells f) 61)).heap[w.heap.size + 1]? = some (.cells (specCells f) 61 (0, 0))) := by
    have := heap_alloc_new (w.alloc (.cells (hookC h) 33)) (.cells (specCells f) 61)
    rw [World.size_alloc] at this
    exact Lib.hid this
  have HB1 := Lib.hid ((Below.new (w := w) (.cells (hookC h) 33)).push (.cells (specCells f) 61))
  clear hf hm
  obtain ⟨dv, hdv⟩ : ∃ dv, dv = deepV sb := ⟨_, rfl⟩
  obtain ⟨sv, hsv⟩ : ∃ sv, sv = shownV sb := ⟨_, rfl⟩
  rw [← hdv, ← hsv] at HDO ⊢
  clear hdv hsv
  go_enter Tryz.func56, Tryz.ntmps56
  go_upto_region 1 with fail
  generalize (w.alloc (.cells (hookC h) 33)).alloc (.cells (specCells f) 61) = W1 at HBH HBS HB1 ⊢
  have c2 : W1.cell? ⟨w.heap.size + 1, 2, none⟩ = some (.bool f.sharp) := by exact cell_of_heap' HBS.out 2
  have c7 : W1.cell? ⟨w.heap.size + 1, 7, none⟩ = some (.int .i32 f.verb) := by exact cell_of_heap' HBS.out 7
  go_wp2_with (refine wpList_load_row (by rfl) 33 _ (by rfl) w.heap.size (by rfl) 33 (hookC h) (0, 0) _ ?_ Tryz.underlying33 (by rfl) (hookC_size h) ?_; (with_reducible exact HBH.out))
  refine (HWH.out _).mono ?_
  rintro e W2 ⟨rfl, hb⟩
  have HB2 := Lib.hid (HB1.out.next hb)
  have HBH2 := Lib.hid ((hb.block _ (lt_of_some HBH.out)).trans HBH.out)
  have HBS2 := Lib.hid ((hb.block _ (lt_of_some HBS.out)).trans HBS.out)
  clear hb HB1 HBH HBS c2 c7 HWH
  have H1 := Lib.hid (hook_f HBH2.out)
  have H2 := Lib.hid (hook_s HBH2.out)
  have H3 := Lib.hid (hook_e HBH2.out)
  have H4 := Lib.hid (hook_t HBH2.out)
  have HBD := Lib.hid (built_acts h)
  have HN := Lib.hid (heap_alloc_new W2 (.cells #[.int .i64 0, .string ⟨#[]⟩, .string ⟨#[]⟩, .slice none 0 0, .int .i64 0, .string ⟨#[]⟩, .int .u64 0, .int .u64 0, .string ⟨#[]⟩, .slice none 0 0, .slice none 0 0, .int .i64 0] 31))
  go_upto_region 4 with fail
  obtain ⟨big, hbig⟩ : ∃ big : Array Value, big = ⟨actZ ++ hookL h⟩ := ⟨_, rfl⟩
  have HIX : Hid ((Instr.index 174 (.agg big) (.int .i64 1)).run Tryz.prog W2 = .ok (.agg (actL h.f).toArray) W2) := by rw [hbig]; exact Lib.hid (index_act1 h W2)
  rw [← hbig] at HBD
  clear hbig
  go_upto_region 5 with (first
    | (refine wpList_load_mid (by rfl) 31 _ (by rfl) w.heap.size 0 (by rfl) (actL h.f) _ ?_ Tryz.underlying31 (by rfl) (act_size h.f) ?_; (with_reducible exact H1.out))
    | (refine wpList_load_mid (by rfl) 31 _ (by rfl) w.heap.size 12 (by rfl) (actL h.s) _ ?_ Tryz.underlying31 (by rfl) (act_size h.s) ?_; (with_reducible exact H2.out))
    | (refine wpList_load_mid (by rfl) 31 _ (by rfl) w.heap.size 24 (by rfl) (actL h.e) _ ?_ Tryz.underlying31 (by rfl) (act_size h.e) ?_; (with_reducible exact H3.out))
    | (refine wpList_load_mid (by rfl) 31 _ (by rfl) w.heap.size 36 (by rfl) (actL h.t) _ ?_ Tryz.underlying31 (by rfl) (act_size h.t) ?_; (with_reducible exact H4.out))
    | (refine wpList_build_is (by rfl) 174 _ (by rfl) [(1, .agg (actL h.f).toArray), (2, .agg (actL h.s).toArray), (3, .agg (actL h.e).toArray), (4, .agg (actL h.t).toArray)] (by rfl) big ?_ ?_; (with_reducible exact HBD.out))
    | (refine wpList_index_is (by rfl) 174 _ _ (by rfl) (.agg big) (.int .i64 1) (.agg (actL h.f).toArray) (by rfl) (by rfl) ?_ ?_; (with_reducible exact HIX.out))
    | (refine wpList_store_row (by rfl) 31 _ _ (by rfl) W2.heap.size (actL h.f).toArray (by rfl) (by rfl) 31 #[.int .i64 0, .string ⟨#[]⟩, .string ⟨#[]⟩, .slice none 0 0, .int .i64 0, .string ⟨#[]⟩, .int .u64 0, .int .u64 0, .string ⟨#[]⟩, .slice none 0 0, .slice none 0 0, .int .i64 0] ?_ (act_size' h.f) (by rfl) (actL_one h.f) ?_; (with_reducible exact HN.out)))
  rw [World.setRow_alloc_new]
  have HBA := Lib.hid (HB2.out.next (Below.new (w := W2) (.cells (actL h.f).toArray 31)))
  have HAC := Lib.hid (heap_alloc_new W2 (.cells (actL h.f).toArray 31))
  have HSC := Lib.hid (((Below.new (w := W2) (.cells (actL h.f).toArray 31)).block _ (lt_of_some HBS2.out)).trans HBS2.out)
  obtain ⟨ab, hab⟩ : ∃ ab, W2.heap.size = ab := ⟨_, rfl⟩
  rw [hab] at HAC ⊢
  generalize W2.alloc (.cells (actL h.f).toArray 31) = W3 at HBA HAC HSC ⊢
  clear HBH2 HBS2 H1 H2 H3 H4 HBD HN HIX hab HB2
  refine late_begin [] (fun _ => True) (fun W => Below W3.heap.size W3 W) (by kernel_rfl) ?_
  have HT0 : Below W3.heap.size W3 W3.drew := (Below.refl _ W3).drew
  have HLT := Lib.hid HBA.out.size
  generalize W3.drew = W4 at HT0 ⊢
  refine late_take (i := 0) (.agg (actL h.f).toArray) false rfl (by kernel_rfl) (by kernel_rfl) (by kernel_rfl) (by kernel_rfl) (fun h => by cases h) (fun _ _ _ h => h) (by rfl) (fun W hS hT => ?_) (fun _ => trivial) HT0 (fun h => by cases h) ?_
  · (have hl := run_loadVar_row W ab 31 31 (actL h.f).toArray (0, 0) _ ((hT.block _ (lt_of_some HAC.out)).trans HAC.out) Tryz.underlying31 rfl (act_size h.f); exact exec_load_row 31 _ (by rfl) ab (by rfl) _ hl)
  try simp only [Act.put, List.getElem_toArray, List.getElem_cons_zero, List.getElem_cons_succ, List.setIfInBounds_toArray, List.set_cons_zero, List.set_cons_succ]
  refine late_take (i := 1) (.bool np) false rfl (by kernel_rfl) (by kernel_rfl) (by kernel_rfl) (by kernel_rfl) (fun h => by cases h) (fun _ _ _ h => h) (by rfl) (fun W hS hT => ?_) (fun _ => trivial) HT0 (fun h => by cases h) ?_
  · go_simp
  try simp only [Act.put, List.getElem_toArray, List.getElem_cons_zero, List.getElem_cons_succ, List.setIfInBounds_toArray, List.set_cons_zero, List.set_cons_succ]
  refine late_take (i := 2) (.pointer (some ⟨w.heap.size + 1, 7, none⟩)) false rfl (by kernel_rfl) (by kernel_rfl) (by kernel_rfl) (by kernel_rfl) (fun h => by cases h) (fun _ _ _ h => h) (by rfl) (fun W hS hT => ?_) (fun _ => trivial) HT0 (fun h => by cases h) ?_
  · go_simp
  try simp only [Act.put, List.getElem_toArray, List.getElem_cons_zero, List.getElem_cons_succ, List.setIfInBounds_toArray, List.set_cons_zero, List.set_cons_succ]
  refine late_take (i := 3) (.int .i32 f.verb) false rfl (by kernel_rfl) (by kernel_rfl) (by kernel_rfl) (by kernel_rfl) (fun h => by cases h) (fun _ _ _ h => h) (by rfl) (fun W hS hT => ?_) (fun _ => trivial) HT0 (fun h => by cases h) ?_
  · (have k7 : W.cell? ⟨w.heap.size + 1, 7, none⟩ = some (.int .i32 f.verb) := by exact cell_of_heap' ((hT.block _ (lt_of_some HSC.out)).trans HSC.out) 7
     go_simp)
  try simp only [Act.put, List.getElem_toArray, List.getElem_cons_zero, List.getElem_cons_succ, List.setIfInBounds_toArray, List.set_cons_zero, List.set_cons_succ]
  refine late_take (i := 4) (.int .i64 1) false rfl (by kernel_rfl) (by kernel_rfl) (by kernel_rfl) (by kernel_rfl) (fun h => by cases h) (fun _ _ _ h => h) (by rfl) (fun W hS hT => ?_) (fun _ => trivial) HT0 (fun h => by cases h) ?_
  · go_simp
  try simp only [Act.put, List.getElem_toArray, List.getElem_cons_zero, List.getElem_cons_succ, List.setIfInBounds_toArray, List.set_cons_zero, List.set_cons_succ]
  refine late_take (i := 6) (dv) false rfl (by kernel_rfl) (by kernel_rfl) (by kernel_rfl) (by kernel_rfl) (fun h => by cases h) (fun _ _ _ h => h) (by rfl) (fun W hS hT => ?_) (fun _ => trivial) HT0 (fun h => by cases h) ?_
  · go_simp
  try simp only [Act.put, List.getElem_toArray, List.getElem_cons_zero, List.getElem_cons_succ, List.setIfInBounds_toArray, List.set_cons_zero, List.set_cons_succ]
  refine late_take (i := 7) (sv) false rfl (by kernel_rfl) (by kernel_rfl) (by kernel_rfl) (by kernel_rfl) (fun h => by cases h) (fun _ _ _ h => h) (by rfl) (fun W hS hT => ?_) (fun _ => trivial) HT0 (fun h => by cases h) ?_
  · go_simp
  try simp only [Act.put, List.getElem_toArray, List.getElem_cons_zero, List.getElem_cons_succ, List.setIfInBounds_toArray, List.set_cons_zero, List.set_cons_succ]
  refine late_one 5 rfl (by kernel_rfl) (fun K hK => ?_)
  try simp only [List.getElem_toArray, List.getElem_cons_zero, List.getElem_cons_succ]
  rw [if_pos (by rfl)]
  go_simp
  refine (method_format _).mono ?_
  rintro e wa ⟨rfl, rfl⟩
  (try go_simp)
  refine hK _ _ (fun _ => trivial) HT0 ?_
  clear hK K
  try simp only [Act.put, List.getElem_toArray, List.getElem_cons_zero, List.getElem_cons_succ, List.setIfInBounds_toArray, List.set_cons_zero, List.set_cons_succ]
  refine late_one 8 rfl (by kernel_rfl) (fun K hK => ?_)
  try simp only [List.getElem_toArray, List.getElem_cons_zero, List.getElem_cons_succ]
  rw [if_pos (by rfl)]
  go_simp
  refine (HDO.out _ (HBA.out.next HT0)).mono ?_
  rintro e wa ⟨rfl, hwa⟩
  (try go_simp)
  have HT0 := HT0.next hwa
  clear hwa
  refine hK _ _ (fun _ => trivial) HT0 ?_
  clear hK K
  try simp only [Act.put, List.getElem_toArray, List.getElem_cons_zero, List.getElem_cons_succ, List.setIfInBounds_toArray, List.set_cons_zero, List.set_cons_succ]
  refine late_take (i := 9) (.tuple #[.string r, .bool true]) false rfl (by kernel_rfl) (by kernel_rfl) (by kernel_rfl) (by kernel_rfl) (fun h => by cases h) (fun _ _ _ h => h) (by rfl) (fun W hS hT => ?_) (fun _ => trivial) HT0 (fun h => by cases h) ?_
  · go_simp
  try simp only [Act.put, List.getElem_toArray, List.getElem_cons_zero, List.getElem_cons_succ, List.setIfInBounds_toArray, List.set_cons_zero, List.set_cons_succ]
  refine late_take (i := 10) (.string r) false rfl (by kernel_rfl) (by kernel_rfl) (by kernel_rfl) (by kernel_rfl) (fun h => by cases h) (fun _ _ _ h => h) (by rfl) (fun W hS hT => ?_) (fun _ => trivial) HT0 (fun h => by cases h) ?_
  · go_simp
  try simp only [Act.put, List.getElem_toArray, List.getElem_cons_zero, List.getElem_cons_succ, List.setIfInBounds_toArray, List.set_cons_zero, List.set_cons_succ]
  refine late_take (i := 11) (.bool true) false rfl (by kernel_rfl) (by kernel_rfl) (by kernel_rfl) (by kernel_rfl) (fun h => by cases h) (fun _ _ _ h => h) (by rfl) (fun W hS hT => ?_) (fun _ => trivial) HT0 (fun h => by cases h) ?_
  · go_simp
  try simp only [Act.put, List.getElem_toArray, List.getElem_cons_zero, List.getElem_cons_succ, List.setIfInBounds_toArray, List.set_cons_zero, List.set_cons_succ]
  refine late_take (i := 12) (.string r) false rfl (by kernel_rfl) (by kernel_rfl) (by kernel_rfl) (by kernel_rfl) (fun h => by cases h) (fun _ _ _ h => h) (by rfl) (fun W hS hT => ?_) (fun _ => trivial) HT0 (fun h => by cases h) ?_
  · go_simp
  try simp only [Act.put, List.getElem_toArray, List.getElem_cons_zero, List.getElem_cons_succ, List.setIfInBounds_toArray, List.set_cons_zero, List.set_cons_succ]
  refine late_take (i := 13) (.bool true) false rfl (by kernel_rfl) (by kernel_rfl) (by kernel_rfl) (by kernel_rfl) (fun h => by cases h) (fun _ _ _ h => h) (by rfl) (fun W hS hT => ?_) (fun _ => trivial) HT0 (fun h => by cases h) ?_
  · go_simp
  try simp only [Act.put, List.getElem_toArray, List.getElem_cons_zero, List.getElem_cons_succ, List.setIfInBounds_toArray, List.set_cons_zero, List.set_cons_succ]
  refine late_done (by kernel_rfl) ?_ _
  have HSD := Lib.hid ((HT0.block _ (lt_of_some HSC.out)).trans HSC.out)
  have HBD := Lib.hid (HBA.out.next HT0)
  clear HT0 HAC HSC HLT HBA HDO
  go_wp2_with fail
  refine bodyPost_ret (v := .tuple #[.string r, .bool true]) (by simp [results, Tryz.f56, go_sem]) rfl ?_
  exact ⟨rfl, HBD.out⟩
end Go.Proofs.YtnalppgjbllehaaGreatDoor
