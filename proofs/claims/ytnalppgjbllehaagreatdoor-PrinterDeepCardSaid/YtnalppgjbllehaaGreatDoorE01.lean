/- A print within a print, and what a hook says to it: printer's deeper and ask. Condition: what At says a depth deeper; the table holds one hook; the argument is a value without parts, of that hook. -/
import Derived.Test.YtnalppgjbllehaaGreatDoorE00
import Derived.Test.YtnalppgjbllehaaGreatDoorL45
namespace Go.Proofs.YtnalppgjbllehaaGreatDoor
set_option linter.unusedVariables false
set_option linter.unusedSimpArgs false
open Go.RowKit

section
variable {P : Program} {ops : Array Oper} {Q : Exit → Act → World → Prop} {md : Region.Mode} {S T : World → Prop} {late : List Nat}
/-- An operation that its guard passes over is taken first. -/
theorem late_skip {i : Nat} {oi : Oper} {n : Nat} {listed : Array Bool} {a : Act} {w : World} (hi : ops[i]? = some oi)
    (hs : Region.noSelect ops = true) (hf : Region.free md ops listed i = true) (hr : (Region.ready md ops listed).contains i = true) (hil : late.contains i = false)
    (hQ : ∀ c a w, Q (.panic c) (a.put oi.dst undef) w → Q (.panic c) a w) (hw : Region.wanted oi (yielded ops a.tmps) = false)
    (hS : quietB late listed = true → S w) (hT : T w) (h : AnyLate P md ops Q late S T n (listed.setIfInBounds i true) (a.put oi.dst undef) w) : AnyLate P md ops Q late S T (n + 1) listed a w :=
  late_first hi (Region.noSelect_spec hs) hQ (by simpa using hil) false (fun h => by cases h) n listed a w (Region.free_spec hi hf) (by simpa using hr) (.inr ⟨hw, rfl⟩) hS hT (fun h => by cases h) h
end
/-- The world on the way through a call that leaves the State alone. -/
def TX (WB : World) (sb : Nat) (out : ByteArray) (bv : Value) (depth : Int) (tab av : Value) (next : Int) (re : Bool) (w : World) (W : World) : Prop := StW WB sb out bv depth tab av next re W ∧ Below w.heap.size w W
theorem TX.next {WB : World} {sb : Nat} {out : ByteArray} {bv : Value} {depth : Int} {tab av : Value} {next : Int} {re : Bool} {w W W' : World} (hb : Below W.heap.size W W') (h : TX WB sb out bv depth tab av next re w W) : TX WB sb out bv depth tab av next re w W' := ⟨h.1.later hb, h.2.next hb⟩
theorem TX.row {WB : World} {sb : Nat} {out : ByteArray} {bv : Value} {depth : Int} {tab av : Value} {next : Int} {re : Bool} {w W : World} (h : TX WB sb out bv depth tab av next re w W) (g : Nat) (cs : Array Value) (hg : w.heap.size ≤ g ∧ WB.heap.size ≤ g ∧ g ≠ sb ∧ bv.ownBlock ≠ some g) : TX WB sb out bv depth tab av next re w (W.setRow g cs) := by
  obtain ⟨hs, hb⟩ := h
  refine ⟨⟨(setRow_other W g sb cs (fun e => hg.2.2.1 e.symm)).trans hs.blk, owns_blockV hs.own fun k hk => setRow_other W g k cs (fun e => hg.2.2.2 (by rw [← e]; exact hk)), hs.lt, by rw [setRow_size]; exact hs.size, fun k hk hks => (setRow_other W g k cs (by omega)).trans (hs.keep k hk hks), hs.os, hs.tape, hs.output⟩, hb.row g cs hg.1⟩
set_option maxHeartbeats 4000000 in
set_option maxRecDepth 1000000 in
theorem deeper_any {WB : World} {sb : Nat} {out : ByteArray} {bv : Value} {depth : Int} {tab av : Value} {next : Int} {re : Bool} {w : World} (t : ByteArray) (aa : Option Addr) (an ac : Nat) (r : ByteArray) (hst : StW WB sb out bv depth tab av next re w) (hd : 0 ≤ depth) (hd2 : depth ≤ 3)
    (hat : ∀ W, Below w.heap.size w W → Calls Tryz.prog 8 #[.int .i64 (depth + 1), tab, .string t, .slice aa an ac] W (Ret W (.string r))) :
    Calls Tryz.prog 57 #[.pointer (some ⟨sb, 0, none⟩), .string t, .slice aa an ac] w (Ret w (.string r)) := by
  have H1 : Hid (TX WB sb out bv depth tab av next re w w) := Lib.hid ⟨hst, Below.refl _ _⟩
  have HAT := Lib.hid hat
  clear hst hat
  go_enter Tryz.func57, Tryz.ntmps57
  go_upto_region 1 with fail
  refine late_begin [] (fun _ => True) (fun W => TX WB sb out bv depth tab av next re w W) (by kernel_rfl) ?_
  have HT0 := TX.next (Below.refl _ w).drew H1.out
  generalize w.drew = W2 at HT0 ⊢
  clear H1
  refine late_take (i := 0) (.pointer (some ⟨sb, 0, none⟩)) false rfl (by kernel_rfl) (by kernel_rfl) (by kernel_rfl) (by kernel_rfl) (fun h => by cases h) (fun _ _ _ h => h) (by rfl) (fun W hS hT => ?_) (fun _ => trivial) HT0 (fun h => by cases h) ?_
  · go_simp
  try simp only [Act.put, List.getElem_toArray, List.getElem_cons_zero, List.getElem_cons_succ, List.setIfInBounds_toArray, List.set_cons_zero, List.set_cons_succ]
  refine late_take (i := 1) (.pointer (some ⟨sb, 0, none⟩)) false rfl (by kernel_rfl) (by kernel_rfl) (by kernel_rfl) (by kernel_rfl) (fun h => by cases h) (fun _ _ _ h => h) (by rfl) (fun W hS hT => ?_) (fun _ => trivial) HT0 (fun h => by cases h) ?_
  · go_simp
  try simp only [Act.put, List.getElem_toArray, List.getElem_cons_zero, List.getElem_cons_succ, List.setIfInBounds_toArray, List.set_cons_zero, List.set_cons_succ]
  refine late_take (i := 2) (.pointer (some ⟨sb, 2, none⟩)) false rfl (by kernel_rfl) (by kernel_rfl) (by kernel_rfl) (by kernel_rfl) (fun h => by cases h) (fun _ _ _ h => h) (by rfl) (fun W hS hT => ?_) (fun _ => trivial) HT0 (fun h => by cases h) ?_
  · go_simp
  try simp only [Act.put, List.getElem_toArray, List.getElem_cons_zero, List.getElem_cons_succ, List.setIfInBounds_toArray, List.set_cons_zero, List.set_cons_succ]
  refine late_take (i := 3) (.int .i64 depth) false rfl (by kernel_rfl) (by kernel_rfl) (by kernel_rfl) (by kernel_rfl) (fun h => by cases h) (fun _ _ _ h => h) (by rfl) (fun W hS hT => ?_) (fun _ => trivial) HT0 (fun h => by cases h) ?_
  · (have k2 : W.cell? ⟨sb, 2, none⟩ = some (.int .i64 depth) := cell_of_heap' hT.1.blk 2; go_simp)
  try simp only [Act.put, List.getElem_toArray, List.getElem_cons_zero, List.getElem_cons_succ, List.setIfInBounds_toArray, List.set_cons_zero, List.set_cons_succ]
  refine late_take (i := 4) (.int .i64 (depth + 1)) false rfl (by kernel_rfl) (by kernel_rfl) (by kernel_rfl) (by kernel_rfl) (fun h => by cases h) (fun _ _ _ h => h) (by rfl) (fun W hS hT => ?_) (fun _ => trivial) HT0 (fun h => by cases h) ?_
  · (go_simp; rw [IntKind.wrap_i64]; omega)
  try simp only [Act.put, List.getElem_toArray, List.getElem_cons_zero, List.getElem_cons_succ, List.setIfInBounds_toArray, List.set_cons_zero, List.set_cons_succ]
  refine late_take (i := 5) (.pointer (some ⟨sb, 0, none⟩)) false rfl (by kernel_rfl) (by kernel_rfl) (by kernel_rfl) (by kernel_rfl) (fun h => by cases h) (fun _ _ _ h => h) (by rfl) (fun W hS hT => ?_) (fun _ => trivial) HT0 (fun h => by cases h) ?_
  · go_simp
  try simp only [Act.put, List.getElem_toArray, List.getElem_cons_zero, List.getElem_cons_succ, List.setIfInBounds_toArray, List.set_cons_zero, List.set_cons_succ]
  refine late_take (i := 6) (.pointer (some ⟨sb, 0, none⟩)) false rfl (by kernel_rfl) (by kernel_rfl) (by kernel_rfl) (by kernel_rfl) (fun h => by cases h) (fun _ _ _ h => h) (by rfl) (fun W hS hT => ?_) (fun _ => trivial) HT0 (fun h => by cases h) ?_
  · go_simp
  try simp only [Act.put, List.getElem_toArray, List.getElem_cons_zero, List.getElem_cons_succ, List.setIfInBounds_toArray, List.set_cons_zero, List.set_cons_succ]
  refine late_take (i := 7) (.pointer (some ⟨sb, 3, none⟩)) false rfl (by kernel_rfl) (by kernel_rfl) (by kernel_rfl) (by kernel_rfl) (fun h => by cases h) (fun _ _ _ h => h) (by rfl) (fun W hS hT => ?_) (fun _ => trivial) HT0 (fun h => by cases h) ?_
  · go_simp
  try simp only [Act.put, List.getElem_toArray, List.getElem_cons_zero, List.getElem_cons_succ, List.setIfInBounds_toArray, List.set_cons_zero, List.set_cons_succ]
  refine late_take (i := 8) (tab) false rfl (by kernel_rfl) (by kernel_rfl) (by kernel_rfl) (by kernel_rfl) (fun h => by cases h) (fun _ _ _ h => h) (by rfl) (fun W hS hT => ?_) (fun _ => trivial) HT0 (fun h => by cases h) ?_
  · (have k3 : W.cell? ⟨sb, 3, none⟩ = some tab := cell_of_heap' hT.1.blk 3; go_simp)
  try simp only [Act.put, List.getElem_toArray, List.getElem_cons_zero, List.getElem_cons_succ, List.setIfInBounds_toArray, List.set_cons_zero, List.set_cons_succ]
  refine late_take (i := 9) (.string t) false rfl (by kernel_rfl) (by kernel_rfl) (by kernel_rfl) (by kernel_rfl) (fun h => by cases h) (fun _ _ _ h => h) (by rfl) (fun W hS hT => ?_) (fun _ => trivial) HT0 (fun h => by cases h) ?_
  · go_simp
  try simp only [Act.put, List.getElem_toArray, List.getElem_cons_zero, List.getElem_cons_succ, List.setIfInBounds_toArray, List.set_cons_zero, List.set_cons_succ]
  refine late_take (i := 10) (.slice aa an ac) false rfl (by kernel_rfl) (by kernel_rfl) (by kernel_rfl) (by kernel_rfl) (fun h => by cases h) (fun _ _ _ h => h) (by rfl) (fun W hS hT => ?_) (fun _ => trivial) HT0 (fun h => by cases h) ?_
  · go_simp
  try simp only [Act.put, List.getElem_toArray, List.getElem_cons_zero, List.getElem_cons_succ, List.setIfInBounds_toArray, List.set_cons_zero, List.set_cons_succ]
  refine late_one 11 rfl (by kernel_rfl) (fun K hK => ?_)
  try simp only [List.getElem_toArray, List.getElem_cons_zero, List.getElem_cons_succ]
  rw [if_pos (by rfl)]
  go_simp
  refine (HAT.out _ HT0.2).mono ?_
  rintro e wa ⟨rfl, hwa⟩
  (try go_simp)
  have HT0 := TX.next hwa HT0
  refine hK _ _ (fun _ => trivial) HT0 ?_
  clear hK K hwa
  try simp only [Act.put, List.getElem_toArray, List.getElem_cons_zero, List.getElem_cons_succ, List.setIfInBounds_toArray, List.set_cons_zero, List.set_cons_succ]
  refine late_take (i := 12) (.string r) false rfl (by kernel_rfl) (by kernel_rfl) (by kernel_rfl) (by kernel_rfl) (fun h => by cases h) (fun _ _ _ h => h) (by rfl) (fun W hS hT => ?_) (fun _ => trivial) HT0 (fun h => by cases h) ?_
  · go_simp
  try simp only [Act.put, List.getElem_toArray, List.getElem_cons_zero, List.getElem_cons_succ, List.setIfInBounds_toArray, List.set_cons_zero, List.set_cons_succ]
  refine late_done (by kernel_rfl) ?_ _
  have HE := Lib.hid HT0.2
  clear HT0
  go_wp2_with fail
  go_ret
  exact ⟨rfl, HE.out⟩
set_option maxHeartbeats 8000000 in
set_option maxRecDepth 1000000 in
theorem ask_hook {WB : World} {sb : Nat} {out : ByteArray} {bv : Value} {depth : Int} {av : Value} {next : Int} {re : Bool} {w : World} (l : Leaf) (f : SpecD) (tb tc : Nat) (h : HookD) (q : ByteArray) (hst : StW WB sb out bv depth (.slice (some ⟨tb, 0, none⟩) 1 tc) av next re w)
    (htb : w.heap[tb]? = some (.cells (hookC h) 33 (0, 0))) (htc : 1 ≤ tc) (hl : l.base.hook = 1)
    (hsay : ∀ W, TX WB sb out bv depth (.slice (some ⟨tb, 0, none⟩) 1 tc) av next re w W → Calls Tryz.prog 56 #[.agg (hookC h), .agg (specCells f), .bool false, deepV sb, shownV sb] W (Ret W (.tuple #[.string q, .bool true]))) :
    Calls Tryz.prog 27 #[.pointer (some ⟨sb, 0, none⟩), l.val, .agg (specCells f)] w (Ret w (.tuple #[.string q, .bool true])) := by
  obtain ⟨tab, htab⟩ : ∃ tab, Value.slice (some ⟨tb, 0, none⟩) 1 tc = tab := ⟨_, rfl⟩
  have HHK : Hid (∀ W, Calls Tryz.prog 55 #[l.val] W fun e w' => e = .returned (.int .i64 1) ∧ Below W.heap.size W w') := Lib.hid fun W => hl ▸ Hook_any (.leaf l)
  have HGT : Hid (∀ W, Below w.heap.size w W → Calls Tryz.prog 54 #[tab, .int .i64 1] W (Ret W (.tuple #[.agg (hookC h), .bool true]))) := by
    rw [← htab]
    exact Lib.hid fun W hW => get_one h tb tc W ((hW.block _ (lt_of_some htb)).trans htb) htc
  have HSY : Hid (∀ W, TX WB sb out bv depth tab av next re w W → Calls Tryz.prog 56 #[.agg (hookC h), .agg (specCells f), .bool false, .func (.func 57) #[.pointer (some ⟨sb, 0, none⟩)] #[], .func (.func 58) #[.pointer (some ⟨sb, 0, none⟩)] #[]] W (Ret W (.tuple #[.string q, .bool true]))) := by
    rw [← htab]
    exact Lib.hid hsay
  have HPT : Hid (∀ W : World, (Instr.typeAssert l.val 54 119 true).run Tryz.prog W = .ok (.tuple #[.agg #[.int .i64 0, .string ⟨#[]⟩, .int .i64 0, .int .u64 0, .nilIface], .bool false]) W) := Lib.hid fun W => by
    cases l <;> kernel_rfl
  rw [htab] at hst
  have H1 := Lib.hid (TX.next (Below.new (.cells (specCells f) 61)) (⟨hst, Below.refl _ _⟩ : TX WB sb out bv depth tab av next re w w))
  have HSP := Lib.hid (heap_alloc_new w (.cells (specCells f) 61))
  have HSB : Hid (w.heap.size ≠ sb) := Lib.hid (by have := hst.lt; have := hst.size; omega)
  obtain ⟨lv, hlv⟩ : ∃ lv, l.val = lv := ⟨_, rfl⟩
  rw [hlv] at HHK HPT ⊢
  clear hst htb htc hl hsay htab hlv
  go_enter Tryz.func27, Tryz.ntmps27
  go_upto_region 1 with fail
  obtain ⟨wz, hwz⟩ : ∃ wz, w.heap.size = wz := ⟨_, rfl⟩
  generalize w.alloc (.cells (specCells f) 61) = W1 at H1 HSP ⊢
  rw [hwz] at HSP HSB ⊢
  have HWZ := Lib.hid hwz
  clear hwz
  refine late_begin [] (fun _ => True) (fun W => TX WB sb out bv depth tab av next re w W ∧ W.heap[wz]? = some (.cells (specCells f) 61 (0, 0))) (by kernel_rfl) ?_
  have HT0 := TX.next (Below.refl _ W1).drew H1.out
  have HS0 : W1.drew.heap[wz]? = some (.cells (specCells f) 61 (0, 0)) := HSP.out
  generalize W1.drew = W2 at HT0 HS0 ⊢
  clear H1 HSP
  refine late_take (i := 0) (.pointer (some ⟨sb, 0, none⟩)) false rfl (by kernel_rfl) (by kernel_rfl) (by kernel_rfl) (by kernel_rfl) (fun h => by cases h) (fun _ _ _ h => h) (by rfl) (fun W hS hT => ?_) (fun _ => trivial) ⟨HT0, HS0⟩ (fun h => by cases h) ?_
  · go_simp
  try simp only [Act.put, List.getElem_toArray, List.getElem_cons_zero, List.getElem_cons_succ, List.setIfInBounds_toArray, List.set_cons_zero, List.set_cons_succ]
  refine late_take (i := 1) (.pointer (some ⟨sb, 0, none⟩)) false rfl (by kernel_rfl) (by kernel_rfl) (by kernel_rfl) (by kernel_rfl) (fun h => by cases h) (fun _ _ _ h => h) (by rfl) (fun W hS hT => ?_) (fun _ => trivial) ⟨HT0, HS0⟩ (fun h => by cases h) ?_
  · go_simp
  try simp only [Act.put, List.getElem_toArray, List.getElem_cons_zero, List.getElem_cons_succ, List.setIfInBounds_toArray, List.set_cons_zero, List.set_cons_succ]
  refine late_take (i := 2) (.pointer (some ⟨sb, 3, none⟩)) false rfl (by kernel_rfl) (by kernel_rfl) (by kernel_rfl) (by kernel_rfl) (fun h => by cases h) (fun _ _ _ h => h) (by rfl) (fun W hS hT => ?_) (fun _ => trivial) ⟨HT0, HS0⟩ (fun h => by cases h) ?_
  · go_simp
  try simp only [Act.put, List.getElem_toArray, List.getElem_cons_zero, List.getElem_cons_succ, List.setIfInBounds_toArray, List.set_cons_zero, List.set_cons_succ]
  refine late_take (i := 3) (tab) false rfl (by kernel_rfl) (by kernel_rfl) (by kernel_rfl) (by kernel_rfl) (fun h => by cases h) (fun _ _ _ h => h) (by rfl) (fun W hS hT => ?_) (fun _ => trivial) ⟨HT0, HS0⟩ (fun h => by cases h) ?_
  · (have k3 : W.cell? ⟨sb, 3, none⟩ = some tab := cell_of_heap' hT.1.1.blk 3; go_simp)
  try simp only [Act.put, List.getElem_toArray, List.getElem_cons_zero, List.getElem_cons_succ, List.setIfInBounds_toArray, List.set_cons_zero, List.set_cons_succ]
  refine late_take (i := 4) (lv) false rfl (by kernel_rfl) (by kernel_rfl) (by kernel_rfl) (by kernel_rfl) (fun h => by cases h) (fun _ _ _ h => h) (by rfl) (fun W hS hT => ?_) (fun _ => trivial) ⟨HT0, HS0⟩ (fun h => by cases h) ?_
  · go_simp
  try simp only [Act.put, List.getElem_toArray, List.getElem_cons_zero, List.getElem_cons_succ, List.setIfInBounds_toArray, List.set_cons_zero, List.set_cons_succ]
  refine late_two 5 10 rfl rfl (by kernel_rfl) (fun K hK => ?_) (fun K hK => ?_)
  · try simp only [List.getElem_toArray, List.getElem_cons_zero, List.getElem_cons_succ]
    rw [if_pos (by rfl)]
    go_simp
    refine (HHK.out _).mono ?_
    rintro e wa ⟨rfl, hwa⟩
    (try go_simp)
    have HT0 := TX.next hwa HT0
    have HS0 := (hwa.block _ (lt_of_some HS0)).trans HS0
    refine hK _ _ (fun _ => trivial) ⟨HT0, HS0⟩ ?_
    clear hK K hwa
    try simp only [Act.put, List.getElem_toArray, List.getElem_cons_zero, List.getElem_cons_succ, List.setIfInBounds_toArray, List.set_cons_zero, List.set_cons_succ]
    refine late_two 6 10 rfl rfl (by kernel_rfl) (fun K hK => ?_) (fun K hK => ?_)
    · try simp only [List.getElem_toArray, List.getElem_cons_zero, List.getElem_cons_succ]
      rw [if_pos (by rfl)]
      go_simp
      refine (HGT.out _ HT0.2).mono ?_
      rintro e wa ⟨rfl, hwa⟩
      (try go_simp)
      have HT0 := TX.next hwa HT0
      have HS0 := (hwa.block _ (lt_of_some HS0)).trans HS0
      refine hK _ _ (fun _ => trivial) ⟨HT0, HS0⟩ ?_
      clear hK K hwa
      try simp only [Act.put, List.getElem_toArray, List.getElem_cons_zero, List.getElem_cons_succ, List.setIfInBounds_toArray, List.set_cons_zero, List.set_cons_succ]
      refine late_take (i := 7) (.tuple #[.agg (hookC h), .bool true]) false rfl (by kernel_rfl) (by kernel_rfl) (by kernel_rfl) (by kernel_rfl) (fun h => by cases h) (fun _ _ _ h => h) (by rfl) (fun W hS hT => ?_) (fun _ => trivial) ⟨HT0, HS0⟩ (fun h => by cases h) ?_
      · go_simp
      try simp only [Act.put, List.getElem_toArray, List.getElem_cons_zero, List.getElem_cons_succ, List.setIfInBounds_toArray, List.set_cons_zero, List.set_cons_succ]
      refine late_take (i := 8) (.agg (hookC h)) false rfl (by kernel_rfl) (by kernel_rfl) (by kernel_rfl) (by kernel_rfl) (fun h => by cases h) (fun _ _ _ h => h) (by rfl) (fun W hS hT => ?_) (fun _ => trivial) ⟨HT0, HS0⟩ (fun h => by cases h) ?_
      · go_simp
      try simp only [Act.put, List.getElem_toArray, List.getElem_cons_zero, List.getElem_cons_succ, List.setIfInBounds_toArray, List.set_cons_zero, List.set_cons_succ]
      refine late_take (i := 9) (.bool true) false rfl (by kernel_rfl) (by kernel_rfl) (by kernel_rfl) (by kernel_rfl) (fun h => by cases h) (fun _ _ _ h => h) (by rfl) (fun W hS hT => ?_) (fun _ => trivial) ⟨HT0, HS0⟩ (fun h => by cases h) ?_
      · go_simp
      try simp only [Act.put, List.getElem_toArray, List.getElem_cons_zero, List.getElem_cons_succ, List.setIfInBounds_toArray, List.set_cons_zero, List.set_cons_succ]
      refine late_one 10 rfl (by kernel_rfl) (fun K hK => ?_)
      have HB4 : Hid (w.heap.size ≤ wa.heap.size ∧ WB.heap.size ≤ wa.heap.size ∧ wa.heap.size ≠ sb ∧ wz ≠ wa.heap.size) := Lib.hid ⟨HT0.2.size, HT0.1.size, by have := HT0.1.lt; have := HT0.1.size; omega, by have := lt_of_some HS0; omega⟩
      try simp only [List.getElem_toArray, List.getElem_cons_zero, List.getElem_cons_succ]
      rw [if_pos (by rfl)]
      go_simp
      have HH : Hid ((wa.alloc (.cells hookZ 33)).heap[wa.heap.size]? = some (.cells hookZ 33 (0, 0))) := Lib.hid (heap_alloc_new wa _)
      have HS0 := ((Below.new (w := wa) (.cells hookZ 33)).block _ (lt_of_some HS0)).trans HS0
      have HT0 := TX.next (Below.new (w := wa) (.cells hookZ 33)) HT0
      refine hK _ (wa.alloc (.cells hookZ 33)) (fun _ => trivial) ⟨HT0, HS0⟩ ?_
      clear hK K
      try simp only [Act.put, List.getElem_toArray, List.getElem_cons_zero, List.getElem_cons_succ, List.setIfInBounds_toArray, List.set_cons_zero, List.set_cons_succ]
      obtain ⟨hb, hhb⟩ : ∃ b, wa.heap.size = b := ⟨_, rfl⟩
      have HHB := Lib.hid hhb
      rw [hhb] at HH ⊢
      clear hhb
      generalize wa.alloc (.cells hookZ 33) = wal at HH HT0 HS0 ⊢
      have HHL : Hid (w.heap.size ≤ hb ∧ WB.heap.size ≤ hb ∧ hb ≠ sb ∧ bv.ownBlock ≠ some hb) := by
        have h4 := own_type HT0.1.own (by decide) HH.out
        have h5 := HB4.out
        rw [HHB.out] at h5
        exact Lib.hid ⟨h5.1, h5.2.1, h5.2.2.1, h4⟩
      have HNE : Hid (wz ≠ hb) := by
        have h5 := HB4.out
        rw [HHB.out] at h5
        exact Lib.hid h5.2.2.2
      refine late_one 11 rfl (by kernel_rfl) (fun K hK => ?_)
      try simp only [List.getElem_toArray, List.getElem_cons_zero, List.getElem_cons_succ]
      rw [if_pos (by rfl)]
      refine wp_store_row 33 _ _ (by rfl) hb (hookC h) (by rfl) (by rfl) 33 hookZ HH.out (hookC_size h) (by rfl) (hookC_one h) ?_
      have HT0 := TX.row HT0 hb (hookC h) HHL.out
      have HS0 := (setRow_other _ hb wz (hookC h) HNE.out).trans HS0
      have HH0 := setRow_heap _ hb hookZ (hookC h) 33 (0, 0) HH.out
      generalize wal.setRow hb (hookC h) = W6 at HT0 HS0 HH0 ⊢
      refine hK _ _ (fun _ => trivial) ⟨HT0, HS0⟩ ?_
      clear hK K HH HHL HNE
      try simp only [Act.put, List.getElem_toArray, List.getElem_cons_zero, List.getElem_cons_succ, List.setIfInBounds_toArray, List.set_cons_zero, List.set_cons_succ]
      refine late_take (i := 12) (.bool true) false rfl (by kernel_rfl) (by kernel_rfl) (by kernel_rfl) (by kernel_rfl) (fun h => by cases h) (fun _ _ _ h => h) (by rfl) (fun W hS hT => ?_) (fun _ => trivial) ⟨HT0, HS0⟩ (fun h => by cases h) ?_
      · go_simp
      try simp only [Act.put, List.getElem_toArray, List.getElem_cons_zero, List.getElem_cons_succ, List.setIfInBounds_toArray, List.set_cons_zero, List.set_cons_succ]
      refine late_done (by kernel_rfl) ?_ _
      have hpt := HPT.out
      have HT1 := Lib.hid HT0
      have HS1 := Lib.hid HS0
      have HH1 := Lib.hid HH0
      clear HT0 HS0 HH0 HHB HB4
      go_upto_region 5 with fail
      have HT0 := TX.next (Below.new (w := W6) (.cells #[.int .i64 0, .string ⟨#[]⟩, .int .i64 0, .int .u64 0, .nilIface] 119)) HT1.out
      have HS0 := ((Below.new (w := W6) (.cells #[.int .i64 0, .string ⟨#[]⟩, .int .i64 0, .int .u64 0, .nilIface] 119)).block _ (lt_of_some HS1.out)).trans HS1.out
      have HH0 := ((Below.new (w := W6) (.cells #[.int .i64 0, .string ⟨#[]⟩, .int .i64 0, .int .u64 0, .nilIface] 119)).block _ (lt_of_some HH1.out)).trans HH1.out
      generalize W6.alloc (.cells #[.int .i64 0, .string ⟨#[]⟩, .int .i64 0, .int .u64 0, .nilIface] 119) = W7 at HT0 HS0 HH0 ⊢
      clear HT1 HS1 HH1 hpt
      refine late_begin [] (fun _ => True) (fun W => TX WB sb out bv depth tab av next re w W ∧ W.heap[wz]? = some (.cells (specCells f) 61 (0, 0)) ∧ W.heap[hb]? = some (.cells (hookC h) 33 (0, 0))) (by kernel_rfl) ?_
      have HT0 := TX.next (Below.refl _ W7).drew HT0
      have HS0 : W7.drew.heap[wz]? = some (.cells (specCells f) 61 (0, 0)) := HS0
      have HH0 : W7.drew.heap[hb]? = some (.cells (hookC h) 33 (0, 0)) := HH0
      generalize W7.drew = W8 at HT0 HS0 HH0 ⊢
      refine late_take (i := 0) (.agg (hookC h)) false rfl (by kernel_rfl) (by kernel_rfl) (by kernel_rfl) (by kernel_rfl) (fun h => by cases h) (fun _ _ _ h => h) (by rfl) (fun W hS hT => ?_) (fun _ => trivial) ⟨HT0, HS0, HH0⟩ (fun h => by cases h) ?_
      · exact exec_load_row 33 _ (by rfl) hb (by rfl) _ (run_loadVar_row W hb 33 33 (hookC h) (0, 0) _ hT.2.2 Tryz.underlying33 rfl (hookC_size h))
      try simp only [Act.put, List.getElem_toArray, List.getElem_cons_zero, List.getElem_cons_succ, List.setIfInBounds_toArray, List.set_cons_zero, List.set_cons_succ]
      refine late_take (i := 1) (.agg (specCells f)) false rfl (by kernel_rfl) (by kernel_rfl) (by kernel_rfl) (by kernel_rfl) (fun h => by cases h) (fun _ _ _ h => h) (by rfl) (fun W hS hT => ?_) (fun _ => trivial) ⟨HT0, HS0, HH0⟩ (fun h => by cases h) ?_
      · exact exec_load_row 61 _ (by rfl) wz (by rfl) _ (run_loadVar_row W wz 61 61 (specCells f) (0, 0) _ hT.2.1 Tryz.underlying61 rfl (spec_size f))
      try simp only [Act.put, List.getElem_toArray, List.getElem_cons_zero, List.getElem_cons_succ, List.setIfInBounds_toArray, List.set_cons_zero, List.set_cons_succ]
      refine late_take (i := 2) (.bool false) false rfl (by kernel_rfl) (by kernel_rfl) (by kernel_rfl) (by kernel_rfl) (fun h => by cases h) (fun _ _ _ h => h) (by rfl) (fun W hS hT => ?_) (fun _ => trivial) ⟨HT0, HS0, HH0⟩ (fun h => by cases h) ?_
      · go_simp
      try simp only [Act.put, List.getElem_toArray, List.getElem_cons_zero, List.getElem_cons_succ, List.setIfInBounds_toArray, List.set_cons_zero, List.set_cons_succ]
      refine late_take (i := 3) (.bool false) false rfl (by kernel_rfl) (by kernel_rfl) (by kernel_rfl) (by kernel_rfl) (fun h => by cases h) (fun _ _ _ h => h) (by rfl) (fun W hS hT => ?_) (fun _ => trivial) ⟨HT0, HS0, HH0⟩ (fun h => by cases h) ?_
      · go_simp
      try simp only [Act.put, List.getElem_toArray, List.getElem_cons_zero, List.getElem_cons_succ, List.setIfInBounds_toArray, List.set_cons_zero, List.set_cons_succ]
      refine late_skip (i := 4) rfl (by kernel_rfl) (by kernel_rfl) (by kernel_rfl) (by kernel_rfl) (fun _ _ _ h => h) (by rfl) (fun _ => trivial) ⟨HT0, HS0, HH0⟩ ?_
      try simp only [Act.put, List.getElem_toArray, List.getElem_cons_zero, List.getElem_cons_succ, List.setIfInBounds_toArray, List.set_cons_zero, List.set_cons_succ]
      refine late_skip (i := 5) rfl (by kernel_rfl) (by kernel_rfl) (by kernel_rfl) (by kernel_rfl) (fun _ _ _ h => h) (by rfl) (fun _ => trivial) ⟨HT0, HS0, HH0⟩ ?_
      try simp only [Act.put, List.getElem_toArray, List.getElem_cons_zero, List.getElem_cons_succ, List.setIfInBounds_toArray, List.set_cons_zero, List.set_cons_succ]
      refine late_skip (i := 6) rfl (by kernel_rfl) (by kernel_rfl) (by kernel_rfl) (by kernel_rfl) (fun _ _ _ h => h) (by rfl) (fun _ => trivial) ⟨HT0, HS0, HH0⟩ ?_
      try simp only [Act.put, List.getElem_toArray, List.getElem_cons_zero, List.getElem_cons_succ, List.setIfInBounds_toArray, List.set_cons_zero, List.set_cons_succ]
      refine late_take (i := 7) (.bool false) false rfl (by kernel_rfl) (by kernel_rfl) (by kernel_rfl) (by kernel_rfl) (fun h => by cases h) (fun _ _ _ h => h) (by rfl) (fun W hS hT => ?_) (fun _ => trivial) ⟨HT0, HS0, HH0⟩ (fun h => by cases h) ?_
      · go_simp
      try simp only [Act.put, List.getElem_toArray, List.getElem_cons_zero, List.getElem_cons_succ, List.setIfInBounds_toArray, List.set_cons_zero, List.set_cons_succ]
      refine late_take (i := 8) (.pointer (some ⟨sb, 0, none⟩)) false rfl (by kernel_rfl) (by kernel_rfl) (by kernel_rfl) (by kernel_rfl) (fun h => by cases h) (fun _ _ _ h => h) (by rfl) (fun W hS hT => ?_) (fun _ => trivial) ⟨HT0, HS0, HH0⟩ (fun h => by cases h) ?_
      · go_simp
      try simp only [Act.put, List.getElem_toArray, List.getElem_cons_zero, List.getElem_cons_succ, List.setIfInBounds_toArray, List.set_cons_zero, List.set_cons_succ]
      refine late_take (i := 9) (.func (.func 57) #[.pointer (some ⟨sb, 0, none⟩)] #[]) false rfl (by kernel_rfl) (by kernel_rfl) (by kernel_rfl) (by kernel_rfl) (fun h => by cases h) (fun _ _ _ h => h) (by rfl) (fun W hS hT => ?_) (fun _ => trivial) ⟨HT0, HS0, HH0⟩ (fun h => by cases h) ?_
      · go_simp
      try simp only [Act.put, List.getElem_toArray, List.getElem_cons_zero, List.getElem_cons_succ, List.setIfInBounds_toArray, List.set_cons_zero, List.set_cons_succ]
      refine late_take (i := 10) (.pointer (some ⟨sb, 0, none⟩)) false rfl (by kernel_rfl) (by kernel_rfl) (by kernel_rfl) (by kernel_rfl) (fun h => by cases h) (fun _ _ _ h => h) (by rfl) (fun W hS hT => ?_) (fun _ => trivial) ⟨HT0, HS0, HH0⟩ (fun h => by cases h) ?_
      · go_simp
      try simp only [Act.put, List.getElem_toArray, List.getElem_cons_zero, List.getElem_cons_succ, List.setIfInBounds_toArray, List.set_cons_zero, List.set_cons_succ]
      refine late_take (i := 11) (.func (.func 58) #[.pointer (some ⟨sb, 0, none⟩)] #[]) false rfl (by kernel_rfl) (by kernel_rfl) (by kernel_rfl) (by kernel_rfl) (fun h => by cases h) (fun _ _ _ h => h) (by rfl) (fun W hS hT => ?_) (fun _ => trivial) ⟨HT0, HS0, HH0⟩ (fun h => by cases h) ?_
      · go_simp
      try simp only [Act.put, List.getElem_toArray, List.getElem_cons_zero, List.getElem_cons_succ, List.setIfInBounds_toArray, List.set_cons_zero, List.set_cons_succ]
      refine late_one 12 rfl (by kernel_rfl) (fun K hK => ?_)
      try simp only [List.getElem_toArray, List.getElem_cons_zero, List.getElem_cons_succ]
      rw [if_pos (by rfl)]
      go_simp
      refine (HSY.out _ HT0).mono ?_
      rintro e wa ⟨rfl, hwa⟩
      (try go_simp)
      have HT0 := TX.next hwa HT0
      have HS0 := (hwa.block _ (lt_of_some HS0)).trans HS0
      have HH0 := (hwa.block _ (lt_of_some HH0)).trans HH0
      refine hK _ _ (fun _ => trivial) ⟨HT0, HS0, HH0⟩ ?_
      clear hK K hwa
      try simp only [Act.put, List.getElem_toArray, List.getElem_cons_zero, List.getElem_cons_succ, List.setIfInBounds_toArray, List.set_cons_zero, List.set_cons_succ]
      refine late_take (i := 13) (.string q) false rfl (by kernel_rfl) (by kernel_rfl) (by kernel_rfl) (by kernel_rfl) (fun h => by cases h) (fun _ _ _ h => h) (by rfl) (fun W hS hT => ?_) (fun _ => trivial) ⟨HT0, HS0, HH0⟩ (fun h => by cases h) ?_
      · go_simp
      try simp only [Act.put, List.getElem_toArray, List.getElem_cons_zero, List.getElem_cons_succ, List.setIfInBounds_toArray, List.set_cons_zero, List.set_cons_succ]
      refine late_take (i := 14) (.bool true) false rfl (by kernel_rfl) (by kernel_rfl) (by kernel_rfl) (by kernel_rfl) (fun h => by cases h) (fun _ _ _ h => h) (by rfl) (fun W hS hT => ?_) (fun _ => trivial) ⟨HT0, HS0, HH0⟩ (fun h => by cases h) ?_
      · go_simp
      try simp only [Act.put, List.getElem_toArray, List.getElem_cons_zero, List.getElem_cons_succ, List.setIfInBounds_toArray, List.set_cons_zero, List.set_cons_succ]
      refine late_take (i := 15) (.string q) false rfl (by kernel_rfl) (by kernel_rfl) (by kernel_rfl) (by kernel_rfl) (fun h => by cases h) (fun _ _ _ h => h) (by rfl) (fun W hS hT => ?_) (fun _ => trivial) ⟨HT0, HS0, HH0⟩ (fun h => by cases h) ?_
      · go_simp
      try simp only [Act.put, List.getElem_toArray, List.getElem_cons_zero, List.getElem_cons_succ, List.setIfInBounds_toArray, List.set_cons_zero, List.set_cons_succ]
      refine late_take (i := 16) (.bool true) false rfl (by kernel_rfl) (by kernel_rfl) (by kernel_rfl) (by kernel_rfl) (fun h => by cases h) (fun _ _ _ h => h) (by rfl) (fun W hS hT => ?_) (fun _ => trivial) ⟨HT0, HS0, HH0⟩ (fun h => by cases h) ?_
      · go_simp
      try simp only [Act.put, List.getElem_toArray, List.getElem_cons_zero, List.getElem_cons_succ, List.setIfInBounds_toArray, List.set_cons_zero, List.set_cons_succ]
      refine late_done (by kernel_rfl) ?_ _
      have HE := Lib.hid HT0.2
      clear HT0 HS0 HH0
      go_wp2_with fail
      refine bodyPost_ret (v := .tuple #[.string q, .bool true]) (by simp [results, Tryz.f27, go_sem]) rfl ?_
      exact ⟨rfl, HE.out⟩
    · have HB4 : Hid (w.heap.size ≤ wa.heap.size ∧ WB.heap.size ≤ wa.heap.size ∧ wa.heap.size ≠ sb ∧ wz ≠ wa.heap.size) := Lib.hid ⟨HT0.2.size, HT0.1.size, by have := HT0.1.lt; have := HT0.1.size; omega, by have := lt_of_some HS0; omega⟩
      try simp only [List.getElem_toArray, List.getElem_cons_zero, List.getElem_cons_succ]
      rw [if_pos (by rfl)]
      go_simp
      have HH : Hid ((wa.alloc (.cells hookZ 33)).heap[wa.heap.size]? = some (.cells hookZ 33 (0, 0))) := Lib.hid (heap_alloc_new wa _)
      have HS0 := ((Below.new (w := wa) (.cells hookZ 33)).block _ (lt_of_some HS0)).trans HS0
      have HT0 := TX.next (Below.new (w := wa) (.cells hookZ 33)) HT0
      refine hK _ (wa.alloc (.cells hookZ 33)) (fun _ => trivial) ⟨HT0, HS0⟩ ?_
      clear hK K
      try simp only [Act.put, List.getElem_toArray, List.getElem_cons_zero, List.getElem_cons_succ, List.setIfInBounds_toArray, List.set_cons_zero, List.set_cons_succ]
      obtain ⟨hb, hhb⟩ : ∃ b, wa.heap.size = b := ⟨_, rfl⟩
      have HHB := Lib.hid hhb
      rw [hhb] at HH ⊢
      clear hhb
      generalize wa.alloc (.cells hookZ 33) = wal at HH HT0 HS0 ⊢
      refine late_one 6 rfl (by kernel_rfl) (fun K hK => ?_)
      try simp only [List.getElem_toArray, List.getElem_cons_zero, List.getElem_cons_succ]
      rw [if_pos (by rfl)]
      go_simp
      refine (HGT.out _ HT0.2).mono ?_
      rintro e wa ⟨rfl, hwa⟩
      (try go_simp)
      have HT0 := TX.next hwa HT0
      have HS0 := (hwa.block _ (lt_of_some HS0)).trans HS0
      have HH := Lib.hid ((hwa.block _ (lt_of_some HH.out)).trans HH.out)
      refine hK _ _ (fun _ => trivial) ⟨HT0, HS0⟩ ?_
      clear hK K hwa
      try simp only [Act.put, List.getElem_toArray, List.getElem_cons_zero, List.getElem_cons_succ, List.setIfInBounds_toArray, List.set_cons_zero, List.set_cons_succ]
      refine late_take (i := 7) (.tuple #[.agg (hookC h), .bool true]) false rfl (by kernel_rfl) (by kernel_rfl) (by kernel_rfl) (by kernel_rfl) (fun h => by cases h) (fun _ _ _ h => h) (by rfl) (fun W hS hT => ?_) (fun _ => trivial) ⟨HT0, HS0⟩ (fun h => by cases h) ?_
      · go_simp
      try simp only [Act.put, List.getElem_toArray, List.getElem_cons_zero, List.getElem_cons_succ, List.setIfInBounds_toArray, List.set_cons_zero, List.set_cons_succ]
      refine late_take (i := 8) (.agg (hookC h)) false rfl (by kernel_rfl) (by kernel_rfl) (by kernel_rfl) (by kernel_rfl) (fun h => by cases h) (fun _ _ _ h => h) (by rfl) (fun W hS hT => ?_) (fun _ => trivial) ⟨HT0, HS0⟩ (fun h => by cases h) ?_
      · go_simp
      try simp only [Act.put, List.getElem_toArray, List.getElem_cons_zero, List.getElem_cons_succ, List.setIfInBounds_toArray, List.set_cons_zero, List.set_cons_succ]
      refine late_take (i := 9) (.bool true) false rfl (by kernel_rfl) (by kernel_rfl) (by kernel_rfl) (by kernel_rfl) (fun h => by cases h) (fun _ _ _ h => h) (by rfl) (fun W hS hT => ?_) (fun _ => trivial) ⟨HT0, HS0⟩ (fun h => by cases h) ?_
      · go_simp
      try simp only [Act.put, List.getElem_toArray, List.getElem_cons_zero, List.getElem_cons_succ, List.setIfInBounds_toArray, List.set_cons_zero, List.set_cons_succ]
      have HHL : Hid (w.heap.size ≤ hb ∧ WB.heap.size ≤ hb ∧ hb ≠ sb ∧ bv.ownBlock ≠ some hb) := by
        have h4 := own_type HT0.1.own (by decide) HH.out
        have h5 := HB4.out
        rw [HHB.out] at h5
        exact Lib.hid ⟨h5.1, h5.2.1, h5.2.2.1, h4⟩
      have HNE : Hid (wz ≠ hb) := by
        have h5 := HB4.out
        rw [HHB.out] at h5
        exact Lib.hid h5.2.2.2
      refine late_one 11 rfl (by kernel_rfl) (fun K hK => ?_)
      try simp only [List.getElem_toArray, List.getElem_cons_zero, List.getElem_cons_succ]
      rw [if_pos (by rfl)]
      refine wp_store_row 33 _ _ (by rfl) hb (hookC h) (by rfl) (by rfl) 33 hookZ HH.out (hookC_size h) (by rfl) (hookC_one h) ?_
      have HT0 := TX.row HT0 hb (hookC h) HHL.out
      have HS0 := (setRow_other _ hb wz (hookC h) HNE.out).trans HS0
      have HH0 := setRow_heap _ hb hookZ (hookC h) 33 (0, 0) HH.out
      generalize wa.setRow hb (hookC h) = W6 at HT0 HS0 HH0 ⊢
      refine hK _ _ (fun _ => trivial) ⟨HT0, HS0⟩ ?_
      clear hK K HH HHL HNE
      try simp only [Act.put, List.getElem_toArray, List.getElem_cons_zero, List.getElem_cons_succ, List.setIfInBounds_toArray, List.set_cons_zero, List.set_cons_succ]
      refine late_take (i := 12) (.bool true) false rfl (by kernel_rfl) (by kernel_rfl) (by kernel_rfl) (by kernel_rfl) (fun h => by cases h) (fun _ _ _ h => h) (by rfl) (fun W hS hT => ?_) (fun _ => trivial) ⟨HT0, HS0⟩ (fun h => by cases h) ?_
      · go_simp
      try simp only [Act.put, List.getElem_toArray, List.getElem_cons_zero, List.getElem_cons_succ, List.setIfInBounds_toArray, List.set_cons_zero, List.set_cons_succ]
      refine late_done (by kernel_rfl) ?_ _
      have hpt := HPT.out
      have HT1 := Lib.hid HT0
      have HS1 := Lib.hid HS0
      have HH1 := Lib.hid HH0
      clear HT0 HS0 HH0 HHB HB4
      go_upto_region 5 with fail
      have HT0 := TX.next (Below.new (w := W6) (.cells #[.int .i64 0, .string ⟨#[]⟩, .int .i64 0, .int .u64 0, .nilIface] 119)) HT1.out
      have HS0 := ((Below.new (w := W6) (.cells #[.int .i64 0, .string ⟨#[]⟩, .int .i64 0, .int .u64 0, .nilIface] 119)).block _ (lt_of_some HS1.out)).trans HS1.out
      have HH0 := ((Below.new (w := W6) (.cells #[.int .i64 0, .string ⟨#[]⟩, .int .i64 0, .int .u64 0, .nilIface] 119)).block _ (lt_of_some HH1.out)).trans HH1.out
      generalize W6.alloc (.cells #[.int .i64 0, .string ⟨#[]⟩, .int .i64 0, .int .u64 0, .nilIface] 119) = W7 at HT0 HS0 HH0 ⊢
      clear HT1 HS1 HH1 hpt
      refine late_begin [] (fun _ => True) (fun W => TX WB sb out bv depth tab av next re w W ∧ W.heap[wz]? = some (.cells (specCells f) 61 (0, 0)) ∧ W.heap[hb]? = some (.cells (hookC h) 33 (0, 0))) (by kernel_rfl) ?_
      have HT0 := TX.next (Below.refl _ W7).drew HT0
      have HS0 : W7.drew.heap[wz]? = some (.cells (specCells f) 61 (0, 0)) := HS0
      have HH0 : W7.drew.heap[hb]? = some (.cells (hookC h) 33 (0, 0)) := HH0
      generalize W7.drew = W8 at HT0 HS0 HH0 ⊢
      refine late_take (i := 0) (.agg (hookC h)) false rfl (by kernel_rfl) (by kernel_rfl) (by kernel_rfl) (by kernel_rfl) (fun h => by cases h) (fun _ _ _ h => h) (by rfl) (fun W hS hT => ?_) (fun _ => trivial) ⟨HT0, HS0, HH0⟩ (fun h => by cases h) ?_
      · exact exec_load_row 33 _ (by rfl) hb (by rfl) _ (run_loadVar_row W hb 33 33 (hookC h) (0, 0) _ hT.2.2 Tryz.underlying33 rfl (hookC_size h))
      try simp only [Act.put, List.getElem_toArray, List.getElem_cons_zero, List.getElem_cons_succ, List.setIfInBounds_toArray, List.set_cons_zero, List.set_cons_succ]
      refine late_take (i := 1) (.agg (specCells f)) false rfl (by kernel_rfl) (by kernel_rfl) (by kernel_rfl) (by kernel_rfl) (fun h => by cases h) (fun _ _ _ h => h) (by rfl) (fun W hS hT => ?_) (fun _ => trivial) ⟨HT0, HS0, HH0⟩ (fun h => by cases h) ?_
      · exact exec_load_row 61 _ (by rfl) wz (by rfl) _ (run_loadVar_row W wz 61 61 (specCells f) (0, 0) _ hT.2.1 Tryz.underlying61 rfl (spec_size f))
      try simp only [Act.put, List.getElem_toArray, List.getElem_cons_zero, List.getElem_cons_succ, List.setIfInBounds_toArray, List.set_cons_zero, List.set_cons_succ]
      refine late_take (i := 2) (.bool false) false rfl (by kernel_rfl) (by kernel_rfl) (by kernel_rfl) (by kernel_rfl) (fun h => by cases h) (fun _ _ _ h => h) (by rfl) (fun W hS hT => ?_) (fun _ => trivial) ⟨HT0, HS0, HH0⟩ (fun h => by cases h) ?_
      · go_simp
      try simp only [Act.put, List.getElem_toArray, List.getElem_cons_zero, List.getElem_cons_succ, List.setIfInBounds_toArray, List.set_cons_zero, List.set_cons_succ]
      refine late_take (i := 3) (.bool false) false rfl (by kernel_rfl) (by kernel_rfl) (by kernel_rfl) (by kernel_rfl) (fun h => by cases h) (fun _ _ _ h => h) (by rfl) (fun W hS hT => ?_) (fun _ => trivial) ⟨HT0, HS0, HH0⟩ (fun h => by cases h) ?_
      · go_simp
      try simp only [Act.put, List.getElem_toArray, List.getElem_cons_zero, List.getElem_cons_succ, List.setIfInBounds_toArray, List.set_cons_zero, List.set_cons_succ]
      refine late_skip (i := 4) rfl (by kernel_rfl) (by kernel_rfl) (by kernel_rfl) (by kernel_rfl) (fun _ _ _ h => h) (by rfl) (fun _ => trivial) ⟨HT0, HS0, HH0⟩ ?_
      try simp only [Act.put, List.getElem_toArray, List.getElem_cons_zero, List.getElem_cons_succ, List.setIfInBounds_toArray, List.set_cons_zero, List.set_cons_succ]
      refine late_skip (i := 5) rfl (by kernel_rfl) (by kernel_rfl) (by kernel_rfl) (by kernel_rfl) (fun _ _ _ h => h) (by rfl) (fun _ => trivial) ⟨HT0, HS0, HH0⟩ ?_
      try simp only [Act.put, List.getElem_toArray, List.getElem_cons_zero, List.getElem_cons_succ, List.setIfInBounds_toArray, List.set_cons_zero, List.set_cons_succ]
      refine late_skip (i := 6) rfl (by kernel_rfl) (by kernel_rfl) (by kernel_rfl) (by kernel_rfl) (fun _ _ _ h => h) (by rfl) (fun _ => trivial) ⟨HT0, HS0, HH0⟩ ?_
      try simp only [Act.put, List.getElem_toArray, List.getElem_cons_zero, List.getElem_cons_succ, List.setIfInBounds_toArray, List.set_cons_zero, List.set_cons_succ]
      refine late_take (i := 7) (.bool false) false rfl (by kernel_rfl) (by kernel_rfl) (by kernel_rfl) (by kernel_rfl) (fun h => by cases h) (fun _ _ _ h => h) (by rfl) (fun W hS hT => ?_) (fun _ => trivial) ⟨HT0, HS0, HH0⟩ (fun h => by cases h) ?_
      · go_simp
      try simp only [Act.put, List.getElem_toArray, List.getElem_cons_zero, List.getElem_cons_succ, List.setIfInBounds_toArray, List.set_cons_zero, List.set_cons_succ]
      refine late_take (i := 8) (.pointer (some ⟨sb, 0, none⟩)) false rfl (by kernel_rfl) (by kernel_rfl) (by kernel_rfl) (by kernel_rfl) (fun h => by cases h) (fun _ _ _ h => h) (by rfl) (fun W hS hT => ?_) (fun _ => trivial) ⟨HT0, HS0, HH0⟩ (fun h => by cases h) ?_
      · go_simp
      try simp only [Act.put, List.getElem_toArray, List.getElem_cons_zero, List.getElem_cons_succ, List.setIfInBounds_toArray, List.set_cons_zero, List.set_cons_succ]
      refine late_take (i := 9) (.func (.func 57) #[.pointer (some ⟨sb, 0, none⟩)] #[]) false rfl (by kernel_rfl) (by kernel_rfl) (by kernel_rfl) (by kernel_rfl) (fun h => by cases h) (fun _ _ _ h => h) (by rfl) (fun W hS hT => ?_) (fun _ => trivial) ⟨HT0, HS0, HH0⟩ (fun h => by cases h) ?_
      · go_simp
      try simp only [Act.put, List.getElem_toArray, List.getElem_cons_zero, List.getElem_cons_succ, List.setIfInBounds_toArray, List.set_cons_zero, List.set_cons_succ]
      refine late_take (i := 10) (.pointer (some ⟨sb, 0, none⟩)) false rfl (by kernel_rfl) (by kernel_rfl) (by kernel_rfl) (by kernel_rfl) (fun h => by cases h) (fun _ _ _ h => h) (by rfl) (fun W hS hT => ?_) (fun _ => trivial) ⟨HT0, HS0, HH0⟩ (fun h => by cases h) ?_
      · go_simp
      try simp only [Act.put, List.getElem_toArray, List.getElem_cons_zero, List.getElem_cons_succ, List.setIfInBounds_toArray, List.set_cons_zero, List.set_cons_succ]
      refine late_take (i := 11) (.func (.func 58) #[.pointer (some ⟨sb, 0, none⟩)] #[]) false rfl (by kernel_rfl) (by kernel_rfl) (by kernel_rfl) (by kernel_rfl) (fun h => by cases h) (fun _ _ _ h => h) (by rfl) (fun W hS hT => ?_) (fun _ => trivial) ⟨HT0, HS0, HH0⟩ (fun h => by cases h) ?_
      · go_simp
      try simp only [Act.put, List.getElem_toArray, List.getElem_cons_zero, List.getElem_cons_succ, List.setIfInBounds_toArray, List.set_cons_zero, List.set_cons_succ]
      refine late_one 12 rfl (by kernel_rfl) (fun K hK => ?_)
      try simp only [List.getElem_toArray, List.getElem_cons_zero, List.getElem_cons_succ]
      rw [if_pos (by rfl)]
      go_simp
      refine (HSY.out _ HT0).mono ?_
      rintro e wa ⟨rfl, hwa⟩
      (try go_simp)
      have HT0 := TX.next hwa HT0
      have HS0 := (hwa.block _ (lt_of_some HS0)).trans HS0
      have HH0 := (hwa.block _ (lt_of_some HH0)).trans HH0
      refine hK _ _ (fun _ => trivial) ⟨HT0, HS0, HH0⟩ ?_
      clear hK K hwa
      try simp only [Act.put, List.getElem_toArray, List.getElem_cons_zero, List.getElem_cons_succ, List.setIfInBounds_toArray, List.set_cons_zero, List.set_cons_succ]
      refine late_take (i := 13) (.string q) false rfl (by kernel_rfl) (by kernel_rfl) (by kernel_rfl) (by kernel_rfl) (fun h => by cases h) (fun _ _ _ h => h) (by rfl) (fun W hS hT => ?_) (fun _ => trivial) ⟨HT0, HS0, HH0⟩ (fun h => by cases h) ?_
      · go_simp
      try simp only [Act.put, List.getElem_toArray, List.getElem_cons_zero, List.getElem_cons_succ, List.setIfInBounds_toArray, List.set_cons_zero, List.set_cons_succ]
      refine late_take (i := 14) (.bool true) false rfl (by kernel_rfl) (by kernel_rfl) (by kernel_rfl) (by kernel_rfl) (fun h => by cases h) (fun _ _ _ h => h) (by rfl) (fun W hS hT => ?_) (fun _ => trivial) ⟨HT0, HS0, HH0⟩ (fun h => by cases h) ?_
      · go_simp
      try simp only [Act.put, List.getElem_toArray, List.getElem_cons_zero, List.getElem_cons_succ, List.setIfInBounds_toArray, List.set_cons_zero, List.set_cons_succ]
      refine late_take (i := 15) (.string q) false rfl (by kernel_rfl) (by kernel_rfl) (by kernel_rfl) (by kernel_rfl) (fun h => by cases h) (fun _ _ _ h => h) (by rfl) (fun W hS hT => ?_) (fun _ => trivial) ⟨HT0, HS0, HH0⟩ (fun h => by cases h) ?_
      · go_simp
      try simp only [Act.put, List.getElem_toArray, List.getElem_cons_zero, List.getElem_cons_succ, List.setIfInBounds_toArray, List.set_cons_zero, List.set_cons_succ]
      refine late_take (i := 16) (.bool true) false rfl (by kernel_rfl) (by kernel_rfl) (by kernel_rfl) (by kernel_rfl) (fun h => by cases h) (fun _ _ _ h => h) (by rfl) (fun W hS hT => ?_) (fun _ => trivial) ⟨HT0, HS0, HH0⟩ (fun h => by cases h) ?_
      · go_simp
      try simp only [Act.put, List.getElem_toArray, List.getElem_cons_zero, List.getElem_cons_succ, List.setIfInBounds_toArray, List.set_cons_zero, List.set_cons_succ]
      refine late_done (by kernel_rfl) ?_ _
      have HE := Lib.hid HT0.2
      clear HT0 HS0 HH0
      go_wp2_with fail
      refine bodyPost_ret (v := .tuple #[.string q, .bool true]) (by simp [results, Tryz.f27, go_sem]) rfl ?_
      exact ⟨rfl, HE.out⟩
  · have HB4 : Hid (w.heap.size ≤ W2.heap.size ∧ WB.heap.size ≤ W2.heap.size ∧ W2.heap.size ≠ sb ∧ wz ≠ W2.heap.size) := Lib.hid ⟨HT0.2.size, HT0.1.size, by have := HT0.1.lt; have := HT0.1.size; omega, by have := lt_of_some HS0; omega⟩
    try simp only [List.getElem_toArray, List.getElem_cons_zero, List.getElem_cons_succ]
    rw [if_pos (by rfl)]
    go_simp
    have HH : Hid ((W2.alloc (.cells hookZ 33)).heap[W2.heap.size]? = some (.cells hookZ 33 (0, 0))) := Lib.hid (heap_alloc_new W2 _)
    have HS0 := ((Below.new (w := W2) (.cells hookZ 33)).block _ (lt_of_some HS0)).trans HS0
    have HT0 := TX.next (Below.new (w := W2) (.cells hookZ 33)) HT0
    refine hK _ (W2.alloc (.cells hookZ 33)) (fun _ => trivial) ⟨HT0, HS0⟩ ?_
    clear hK K
    try simp only [Act.put, List.getElem_toArray, List.getElem_cons_zero, List.getElem_cons_succ, List.setIfInBounds_toArray, List.set_cons_zero, List.set_cons_succ]
    obtain ⟨hb, hhb⟩ : ∃ b, W2.heap.size = b := ⟨_, rfl⟩
    have HHB := Lib.hid hhb
    rw [hhb] at HH ⊢
    clear hhb
    generalize W2.alloc (.cells hookZ 33) = wal at HH HT0 HS0 ⊢
    refine late_one 5 rfl (by kernel_rfl) (fun K hK => ?_)
    try simp only [List.getElem_toArray, List.getElem_cons_zero, List.getElem_cons_succ]
    rw [if_pos (by rfl)]
    go_simp
    refine (HHK.out _).mono ?_
    rintro e wa ⟨rfl, hwa⟩
    (try go_simp)
    have HT0 := TX.next hwa HT0
    have HS0 := (hwa.block _ (lt_of_some HS0)).trans HS0
    have HH := Lib.hid ((hwa.block _ (lt_of_some HH.out)).trans HH.out)
    refine hK _ _ (fun _ => trivial) ⟨HT0, HS0⟩ ?_
    clear hK K hwa
    try simp only [Act.put, List.getElem_toArray, List.getElem_cons_zero, List.getElem_cons_succ, List.setIfInBounds_toArray, List.set_cons_zero, List.set_cons_succ]
    refine late_one 6 rfl (by kernel_rfl) (fun K hK => ?_)
    try simp only [List.getElem_toArray, List.getElem_cons_zero, List.getElem_cons_succ]
    rw [if_pos (by rfl)]
    go_simp
    refine (HGT.out _ HT0.2).mono ?_
    rintro e wa ⟨rfl, hwa⟩
    (try go_simp)
    have HT0 := TX.next hwa HT0
    have HS0 := (hwa.block _ (lt_of_some HS0)).trans HS0
    have HH := Lib.hid ((hwa.block _ (lt_of_some HH.out)).trans HH.out)
    refine hK _ _ (fun _ => trivial) ⟨HT0, HS0⟩ ?_
    clear hK K hwa
    try simp only [Act.put, List.getElem_toArray, List.getElem_cons_zero, List.getElem_cons_succ, List.setIfInBounds_toArray, List.set_cons_zero, List.set_cons_succ]
    refine late_take (i := 7) (.tuple #[.agg (hookC h), .bool true]) false rfl (by kernel_rfl) (by kernel_rfl) (by kernel_rfl) (by kernel_rfl) (fun h => by cases h) (fun _ _ _ h => h) (by rfl) (fun W hS hT => ?_) (fun _ => trivial) ⟨HT0, HS0⟩ (fun h => by cases h) ?_
    · go_simp
    try simp only [Act.put, List.getElem_toArray, List.getElem_cons_zero, List.getElem_cons_succ, List.setIfInBounds_toArray, List.set_cons_zero, List.set_cons_succ]
    refine late_take (i := 8) (.agg (hookC h)) false rfl (by kernel_rfl) (by kernel_rfl) (by kernel_rfl) (by kernel_rfl) (fun h => by cases h) (fun _ _ _ h => h) (by rfl) (fun W hS hT => ?_) (fun _ => trivial) ⟨HT0, HS0⟩ (fun h => by cases h) ?_
    · go_simp
    try simp only [Act.put, List.getElem_toArray, List.getElem_cons_zero, List.getElem_cons_succ, List.setIfInBounds_toArray, List.set_cons_zero, List.set_cons_succ]
    refine late_take (i := 9) (.bool true) false rfl (by kernel_rfl) (by kernel_rfl) (by kernel_rfl) (by kernel_rfl) (fun h => by cases h) (fun _ _ _ h => h) (by rfl) (fun W hS hT => ?_) (fun _ => trivial) ⟨HT0, HS0⟩ (fun h => by cases h) ?_
    · go_simp
    try simp only [Act.put, List.getElem_toArray, List.getElem_cons_zero, List.getElem_cons_succ, List.setIfInBounds_toArray, List.set_cons_zero, List.set_cons_succ]
    have HHL : Hid (w.heap.size ≤ hb ∧ WB.heap.size ≤ hb ∧ hb ≠ sb ∧ bv.ownBlock ≠ some hb) := by
      have h4 := own_type HT0.1.own (by decide) HH.out
      have h5 := HB4.out
      rw [HHB.out] at h5
      exact Lib.hid ⟨h5.1, h5.2.1, h5.2.2.1, h4⟩
    have HNE : Hid (wz ≠ hb) := by
      have h5 := HB4.out
      rw [HHB.out] at h5
      exact Lib.hid h5.2.2.2
    refine late_one 11 rfl (by kernel_rfl) (fun K hK => ?_)
    try simp only [List.getElem_toArray, List.getElem_cons_zero, List.getElem_cons_succ]
    rw [if_pos (by rfl)]
    refine wp_store_row 33 _ _ (by rfl) hb (hookC h) (by rfl) (by rfl) 33 hookZ HH.out (hookC_size h) (by rfl) (hookC_one h) ?_
    have HT0 := TX.row HT0 hb (hookC h) HHL.out
    have HS0 := (setRow_other _ hb wz (hookC h) HNE.out).trans HS0
    have HH0 := setRow_heap _ hb hookZ (hookC h) 33 (0, 0) HH.out
    generalize wa.setRow hb (hookC h) = W6 at HT0 HS0 HH0 ⊢
    refine hK _ _ (fun _ => trivial) ⟨HT0, HS0⟩ ?_
    clear hK K HH HHL HNE
    try simp only [Act.put, List.getElem_toArray, List.getElem_cons_zero, List.getElem_cons_succ, List.setIfInBounds_toArray, List.set_cons_zero, List.set_cons_succ]
    refine late_take (i := 12) (.bool true) false rfl (by kernel_rfl) (by kernel_rfl) (by kernel_rfl) (by kernel_rfl) (fun h => by cases h) (fun _ _ _ h => h) (by rfl) (fun W hS hT => ?_) (fun _ => trivial) ⟨HT0, HS0⟩ (fun h => by cases h) ?_
    · go_simp
    try simp only [Act.put, List.getElem_toArray, List.getElem_cons_zero, List.getElem_cons_succ, List.setIfInBounds_toArray, List.set_cons_zero, List.set_cons_succ]
    refine late_done (by kernel_rfl) ?_ _
    have hpt := HPT.out
    have HT1 := Lib.hid HT0
    have HS1 := Lib.hid HS0
    have HH1 := Lib.hid HH0
    clear HT0 HS0 HH0 HHB HB4
    go_upto_region 5 with fail
    have HT0 := TX.next (Below.new (w := W6) (.cells #[.int .i64 0, .string ⟨#[]⟩, .int .i64 0, .int .u64 0, .nilIface] 119)) HT1.out
    have HS0 := ((Below.new (w := W6) (.cells #[.int .i64 0, .string ⟨#[]⟩, .int .i64 0, .int .u64 0, .nilIface] 119)).block _ (lt_of_some HS1.out)).trans HS1.out
    have HH0 := ((Below.new (w := W6) (.cells #[.int .i64 0, .string ⟨#[]⟩, .int .i64 0, .int .u64 0, .nilIface] 119)).block _ (lt_of_some HH1.out)).trans HH1.out
    generalize W6.alloc (.cells #[.int .i64 0, .string ⟨#[]⟩, .int .i64 0, .int .u64 0, .nilIface] 119) = W7 at HT0 HS0 HH0 ⊢
    clear HT1 HS1 HH1 hpt
    refine late_begin [] (fun _ => True) (fun W => TX WB sb out bv depth tab av next re w W ∧ W.heap[wz]? = some (.cells (specCells f) 61 (0, 0)) ∧ W.heap[hb]? = some (.cells (hookC h) 33 (0, 0))) (by kernel_rfl) ?_
    have HT0 := TX.next (Below.refl _ W7).drew HT0
    have HS0 : W7.drew.heap[wz]? = some (.cells (specCells f) 61 (0, 0)) := HS0
    have HH0 : W7.drew.heap[hb]? = some (.cells (hookC h) 33 (0, 0)) := HH0
    generalize W7.drew = W8 at HT0 HS0 HH0 ⊢
    refine late_take (i := 0) (.agg (hookC h)) false rfl (by kernel_rfl) (by kernel_rfl) (by kernel_rfl) (by kernel_rfl) (fun h => by cases h) (fun _ _ _ h => h) (by rfl) (fun W hS hT => ?_) (fun _ => trivial) ⟨HT0, HS0, HH0⟩ (fun h => by cases h) ?_
    · exact exec_load_row 33 _ (by rfl) hb (by rfl) _ (run_loadVar_row W hb 33 33 (hookC h) (0, 0) _ hT.2.2 Tryz.underlying33 rfl (hookC_size h))
    try simp only [Act.put, List.getElem_toArray, List.getElem_cons_zero, List.getElem_cons_succ, List.setIfInBounds_toArray, List.set_cons_zero, List.set_cons_succ]
    refine late_take (i := 1) (.agg (specCells f)) false rfl (by kernel_rfl) (by kernel_rfl) (by kernel_rfl) (by kernel_rfl) (fun h => by cases h) (fun _ _ _ h => h) (by rfl) (fun W hS hT => ?_) (fun _ => trivial) ⟨HT0, HS0, HH0⟩ (fun h => by cases h) ?_
    · exact exec_load_row 61 _ (by rfl) wz (by rfl) _ (run_loadVar_row W wz 61 61 (specCells f) (0, 0) _ hT.2.1 Tryz.underlying61 rfl (spec_size f))
    try simp only [Act.put, List.getElem_toArray, List.getElem_cons_zero, List.getElem_cons_succ, List.setIfInBounds_toArray, List.set_cons_zero, List.set_cons_succ]
    refine late_take (i := 2) (.bool false) false rfl (by kernel_rfl) (by kernel_rfl) (by kernel_rfl) (by kernel_rfl) (fun h => by cases h) (fun _ _ _ h => h) (by rfl) (fun W hS hT => ?_) (fun _ => trivial) ⟨HT0, HS0, HH0⟩ (fun h => by cases h) ?_
    · go_simp
    try simp only [Act.put, List.getElem_toArray, List.getElem_cons_zero, List.getElem_cons_succ, List.setIfInBounds_toArray, List.set_cons_zero, List.set_cons_succ]
    refine late_take (i := 3) (.bool false) false rfl (by kernel_rfl) (by kernel_rfl) (by kernel_rfl) (by kernel_rfl) (fun h => by cases h) (fun _ _ _ h => h) (by rfl) (fun W hS hT => ?_) (fun _ => trivial) ⟨HT0, HS0, HH0⟩ (fun h => by cases h) ?_
    · go_simp
    try simp only [Act.put, List.getElem_toArray, List.getElem_cons_zero, List.getElem_cons_succ, List.setIfInBounds_toArray, List.set_cons_zero, List.set_cons_succ]
    refine late_skip (i := 4) rfl (by kernel_rfl) (by kernel_rfl) (by kernel_rfl) (by kernel_rfl) (fun _ _ _ h => h) (by rfl) (fun _ => trivial) ⟨HT0, HS0, HH0⟩ ?_
    try simp only [Act.put, List.getElem_toArray, List.getElem_cons_zero, List.getElem_cons_succ, List.setIfInBounds_toArray, List.set_cons_zero, List.set_cons_succ]
    refine late_skip (i := 5) rfl (by kernel_rfl) (by kernel_rfl) (by kernel_rfl) (by kernel_rfl) (fun _ _ _ h => h) (by rfl) (fun _ => trivial) ⟨HT0, HS0, HH0⟩ ?_
    try simp only [Act.put, List.getElem_toArray, List.getElem_cons_zero, List.getElem_cons_succ, List.setIfInBounds_toArray, List.set_cons_zero, List.set_cons_succ]
    refine late_skip (i := 6) rfl (by kernel_rfl) (by kernel_rfl) (by kernel_rfl) (by kernel_rfl) (fun _ _ _ h => h) (by rfl) (fun _ => trivial) ⟨HT0, HS0, HH0⟩ ?_
    try simp only [Act.put, List.getElem_toArray, List.getElem_cons_zero, List.getElem_cons_succ, List.setIfInBounds_toArray, List.set_cons_zero, List.set_cons_succ]
    refine late_take (i := 7) (.bool false) false rfl (by kernel_rfl) (by kernel_rfl) (by kernel_rfl) (by kernel_rfl) (fun h => by cases h) (fun _ _ _ h => h) (by rfl) (fun W hS hT => ?_) (fun _ => trivial) ⟨HT0, HS0, HH0⟩ (fun h => by cases h) ?_
    · go_simp
    try simp only [Act.put, List.getElem_toArray, List.getElem_cons_zero, List.getElem_cons_succ, List.setIfInBounds_toArray, List.set_cons_zero, List.set_cons_succ]
    refine late_take (i := 8) (.pointer (some ⟨sb, 0, none⟩)) false rfl (by kernel_rfl) (by kernel_rfl) (by kernel_rfl) (by kernel_rfl) (fun h => by cases h) (fun _ _ _ h => h) (by rfl) (fun W hS hT => ?_) (fun _ => trivial) ⟨HT0, HS0, HH0⟩ (fun h => by cases h) ?_
    · go_simp
    try simp only [Act.put, List.getElem_toArray, List.getElem_cons_zero, List.getElem_cons_succ, List.setIfInBounds_toArray, List.set_cons_zero, List.set_cons_succ]
    refine late_take (i := 9) (.func (.func 57) #[.pointer (some ⟨sb, 0, none⟩)] #[]) false rfl (by kernel_rfl) (by kernel_rfl) (by kernel_rfl) (by kernel_rfl) (fun h => by cases h) (fun _ _ _ h => h) (by rfl) (fun W hS hT => ?_) (fun _ => trivial) ⟨HT0, HS0, HH0⟩ (fun h => by cases h) ?_
    · go_simp
    try simp only [Act.put, List.getElem_toArray, List.getElem_cons_zero, List.getElem_cons_succ, List.setIfInBounds_toArray, List.set_cons_zero, List.set_cons_succ]
    refine late_take (i := 10) (.pointer (some ⟨sb, 0, none⟩)) false rfl (by kernel_rfl) (by kernel_rfl) (by kernel_rfl) (by kernel_rfl) (fun h => by cases h) (fun _ _ _ h => h) (by rfl) (fun W hS hT => ?_) (fun _ => trivial) ⟨HT0, HS0, HH0⟩ (fun h => by cases h) ?_
    · go_simp
    try simp only [Act.put, List.getElem_toArray, List.getElem_cons_zero, List.getElem_cons_succ, List.setIfInBounds_toArray, List.set_cons_zero, List.set_cons_succ]
    refine late_take (i := 11) (.func (.func 58) #[.pointer (some ⟨sb, 0, none⟩)] #[]) false rfl (by kernel_rfl) (by kernel_rfl) (by kernel_rfl) (by kernel_rfl) (fun h => by cases h) (fun _ _ _ h => h) (by rfl) (fun W hS hT => ?_) (fun _ => trivial) ⟨HT0, HS0, HH0⟩ (fun h => by cases h) ?_
    · go_simp
    try simp only [Act.put, List.getElem_toArray, List.getElem_cons_zero, List.getElem_cons_succ, List.setIfInBounds_toArray, List.set_cons_zero, List.set_cons_succ]
    refine late_one 12 rfl (by kernel_rfl) (fun K hK => ?_)
    try simp only [List.getElem_toArray, List.getElem_cons_zero, List.getElem_cons_succ]
    rw [if_pos (by rfl)]
    go_simp
    refine (HSY.out _ HT0).mono ?_
    rintro e wa ⟨rfl, hwa⟩
    (try go_simp)
    have HT0 := TX.next hwa HT0
    have HS0 := (hwa.block _ (lt_of_some HS0)).trans HS0
    have HH0 := (hwa.block _ (lt_of_some HH0)).trans HH0
    refine hK _ _ (fun _ => trivial) ⟨HT0, HS0, HH0⟩ ?_
    clear hK K hwa
    try simp only [Act.put, List.getElem_toArray, List.getElem_cons_zero, List.getElem_cons_succ, List.setIfInBounds_toArray, List.set_cons_zero, List.set_cons_succ]
    refine late_take (i := 13) (.string q) false rfl (by kernel_rfl) (by kernel_rfl) (by kernel_rfl) (by kernel_rfl) (fun h => by cases h) (fun _ _ _ h => h) (by rfl) (fun W hS hT => ?_) (fun _ => trivial) ⟨HT0, HS0, HH0⟩ (fun h => by cases h) ?_
    · go_simp
    try simp only [Act.put, List.getElem_toArray, List.getElem_cons_zero, List.getElem_cons_succ, List.setIfInBounds_toArray, List.set_cons_zero, List.set_cons_succ]
    refine late_take (i := 14) (.bool true) false rfl (by kernel_rfl) (by kernel_rfl) (by kernel_rfl) (by kernel_rfl) (fun h => by cases h) (fun _ _ _ h => h) (by rfl) (fun W hS hT => ?_) (fun _ => trivial) ⟨HT0, HS0, HH0⟩ (fun h => by cases h) ?_
    · go_simp
    try simp only [Act.put, List.getElem_toArray, List.getElem_cons_zero, List.getElem_cons_succ, List.setIfInBounds_toArray, List.set_cons_zero, List.set_cons_succ]
    refine late_take (i := 15) (.string q) false rfl (by kernel_rfl) (by kernel_rfl) (by kernel_rfl) (by kernel_rfl) (fun h => by cases h) (fun _ _ _ h => h) (by rfl) (fun W hS hT => ?_) (fun _ => trivial) ⟨HT0, HS0, HH0⟩ (fun h => by cases h) ?_
    · go_simp
    try simp only [Act.put, List.getElem_toArray, List.getElem_cons_zero, List.getElem_cons_succ, List.setIfInBounds_toArray, List.set_cons_zero, List.set_cons_succ]
    refine late_take (i := 16) (.bool true) false rfl (by kernel_rfl) (by kernel_rfl) (by kernel_rfl) (by kernel_rfl) (fun h => by cases h) (fun _ _ _ h => h) (by rfl) (fun W hS hT => ?_) (fun _ => trivial) ⟨HT0, HS0, HH0⟩ (fun h => by cases h) ?_
    · go_simp
    try simp only [Act.put, List.getElem_toArray, List.getElem_cons_zero, List.getElem_cons_succ, List.setIfInBounds_toArray, List.set_cons_zero, List.set_cons_succ]
    refine late_done (by kernel_rfl) ?_ _
    have HE := Lib.hid HT0.2
    clear HT0 HS0 HH0
    go_wp2_with fail
    refine bodyPost_ret (v := .tuple #[.string q, .bool true]) (by simp [results, Tryz.f27, go_sem]) rfl ?_
    exact ⟨rfl, HE.out⟩
end Go.Proofs.YtnalppgjbllehaaGreatDoor
