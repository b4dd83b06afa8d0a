/- No hook is asked where there is no table: printer's ask. Condition: the State's table is nil; the argument is a value. -/
import Derived.Test.YtnalppgjbllehaaGreatDoorL44
namespace Go.Proofs.YtnalppgjbllehaaGreatDoor
set_option linter.unusedVariables false
set_option linter.unusedSimpArgs false
open Go.RowKit

/-- The world on the way through ask. -/
def TW (WB : World) (sb : Nat) (out : ByteArray) (bv : Value) (depth : Int) (av : Value) (next : Int) (re : Bool) (w : World) (W : World) : Prop := StW WB sb out bv depth (.slice none 0 0) av next re W ∧ Below w.heap.size w W
theorem TW.next {WB : World} {sb : Nat} {out : ByteArray} {bv : Value} {depth : Int} {av : Value} {next : Int} {re : Bool} {w W W' : World} (hb : Below W.heap.size W W') (h : TW WB sb out bv depth av next re w W) : TW WB sb out bv depth av next re w W' := ⟨h.1.later hb, h.2.next hb⟩
theorem TW.row {WB : World} {sb : Nat} {out : ByteArray} {bv : Value} {depth : Int} {av : Value} {next : Int} {re : Bool} {w W : World} (h : TW WB sb out bv depth av next re w W) (g : Nat) (cs : Array Value) (hg : w.heap.size ≤ g ∧ WB.heap.size ≤ g ∧ g ≠ sb ∧ bv.ownBlock ≠ some g) : TW WB sb out bv depth av next re w (W.setRow g cs) := by
  obtain ⟨hs, hb⟩ := h
  refine ⟨⟨(setRow_other W g sb cs (fun e => hg.2.2.1 e.symm)).trans hs.blk, owns_blockV hs.own fun k hk => setRow_other W g k cs (fun e => hg.2.2.2 (by rw [← e]; exact hk)), hs.lt, by rw [setRow_size]; exact hs.size, fun k hk hks => (setRow_other W g k cs (by omega)).trans (hs.keep k hk hks), hs.os, hs.tape, hs.output⟩, hb.row g cs hg.1⟩
set_option maxHeartbeats 4000000 in
set_option maxRecDepth 1000000 in
theorem ask_none {WB : World} {sb : Nat} {out : ByteArray} {bv : Value} {depth : Int} {av : Value} {next : Int} {re : Bool} {w : World} {v : Value} {x : V} (f : SpecD) (hst : StW WB sb out bv depth (.slice none 0 0) av next re w) (hv : IsV w v x) :
    Calls Tryz.prog 27 #[.pointer (some ⟨sb, 0, none⟩), v, .agg #[.bool f.plus, .bool f.minus, .bool f.sharp, .bool f.space, .bool f.zero, .int .i64 f.wid, .int .i64 f.prec, .int .i32 f.verb]] w (Ret w (.tuple #[.string ⟨#[]⟩, .bool false])) := by
  have HT1 : TW WB sb out bv depth av next re w (w.alloc (.cells #[.bool f.plus, .bool f.minus, .bool f.sharp, .bool f.space, .bool f.zero, .int .i64 f.wid, .int .i64 f.prec, .int .i32 f.verb] 61)) := TW.next (Below.new _) ⟨hst, Below.refl _ _⟩
  have HHK : Hid (∀ W, TW WB sb out bv depth av next re w W → Calls Tryz.prog 55 #[v] W fun e w' => e = .returned (.int .i64 x.base.hook) ∧ Below W.heap.size W w') := Lib.hid fun W hW => Hook_any (hv.later hW.2)
  obtain ⟨n, hn⟩ : ∃ n, x.base.hook = n := ⟨_, rfl⟩
  rw [hn] at HHK
  have HGT : Hid (∀ W, Calls Tryz.prog 54 #[.slice none 0 0, .int .i64 n] W (Ret W (.tuple #[.agg hookZ, .bool false]))) := Lib.hid fun W => get_none n W
  clear hst hv hn
  have H1 := Lib.hid HT1
  clear HT1
  go_enter Tryz.func27, Tryz.ntmps27
  go_upto_region 1 with fail
  generalize w.alloc (.cells #[.bool f.plus, .bool f.minus, .bool f.sharp, .bool f.space, .bool f.zero, .int .i64 f.wid, .int .i64 f.prec, .int .i32 f.verb] 61) = W1 at H1 ⊢
  refine late_begin [] (fun _ => True) (fun W => TW WB sb out bv depth av next re w W) (by kernel_rfl) ?_
  have HT0 := TW.next (Below.refl _ W1).drew H1.out
  generalize W1.drew = W2 at HT0 ⊢
  clear H1
  refine late_take (i := 0) (.pointer (some ⟨sb, 0, none⟩)) false rfl (by kernel_rfl) (by kernel_rfl) (by kernel_rfl) (by kernel_rfl) (fun h => by cases h) (fun _ _ _ h => h) (by rfl) (fun W hS hT => ?_) (fun _ => trivial) HT0 (fun h => by cases h) ?_
  · go_simp
  try simp only [Act.put, List.getElem_toArray, List.getElem_cons_zero, List.getElem_cons_succ, List.setIfInBounds_toArray, List.set_cons_zero, List.set_cons_succ]
  refine late_take (i := 1) (.pointer (some ⟨sb, 0, none⟩)) false rfl (by kernel_rfl) (by kernel_rfl) (by kernel_rfl) (by kernel_rfl) (fun h => by cases h) (fun _ _ _ h => h) (by rfl) (fun W hS hT => ?_) (fun _ => trivial) HT0 (fun h => by cases h) ?_
  · go_simp
  try simp only [Act.put, List.getElem_toArray, List.getElem_cons_zero, List.getElem_cons_succ, List.setIfInBounds_toArray, List.set_cons_zero, List.set_cons_succ]
  refine late_take (i := 2) (.pointer (some ⟨sb, 3, none⟩)) false rfl (by kernel_rfl) (by kernel_rfl) (by kernel_rfl) (by kernel_rfl) (fun h => by cases h) (fun _ _ _ h => h) (by rfl) (fun W hS hT => ?_) (fun _ => trivial) HT0 (fun h => by cases h) ?_
  · go_simp
  try simp only [Act.put, List.getElem_toArray, List.getElem_cons_zero, List.getElem_cons_succ, List.setIfInBounds_toArray, List.set_cons_zero, List.set_cons_succ]
  refine late_take (i := 3) (.slice none 0 0) false rfl (by kernel_rfl) (by kernel_rfl) (by kernel_rfl) (by kernel_rfl) (fun h => by cases h) (fun _ _ _ h => h) (by rfl) (fun W hS hT => ?_) (fun _ => trivial) HT0 (fun h => by cases h) ?_
  · (have k3 : W.cell? ⟨sb, 3, none⟩ = some (.slice none 0 0) := cell_of_heap' hT.1.blk 3; go_simp)
  try simp only [Act.put, List.getElem_toArray, List.getElem_cons_zero, List.getElem_cons_succ, List.setIfInBounds_toArray, List.set_cons_zero, List.set_cons_succ]
  refine late_take (i := 4) (v) false rfl (by kernel_rfl) (by kernel_rfl) (by kernel_rfl) (by kernel_rfl) (fun h => by cases h) (fun _ _ _ h => h) (by rfl) (fun W hS hT => ?_) (fun _ => trivial) HT0 (fun h => by cases h) ?_
  · go_simp
  try simp only [Act.put, List.getElem_toArray, List.getElem_cons_zero, List.getElem_cons_succ, List.setIfInBounds_toArray, List.set_cons_zero, List.set_cons_succ]
  refine late_two 5 10 rfl rfl (by kernel_rfl) (fun K hK => ?_) (fun K hK => ?_)
  · try simp only [List.getElem_toArray, List.getElem_cons_zero, List.getElem_cons_succ]
    rw [if_pos (by rfl)]
    go_simp
    refine (HHK.out _ HT0).mono ?_
    rintro e wa ⟨rfl, hwa⟩
    (try go_simp)
    have HT0 := TW.next hwa HT0
    refine hK _ _ (fun _ => trivial) HT0 ?_
    clear hK K hwa
    try simp only [Act.put, List.getElem_toArray, List.getElem_cons_zero, List.getElem_cons_succ, List.setIfInBounds_toArray, List.set_cons_zero, List.set_cons_succ]
    refine late_two 6 10 rfl rfl (by kernel_rfl) (fun K hK => ?_) (fun K hK => ?_)
    · try simp only [List.getElem_toArray, List.getElem_cons_zero, List.getElem_cons_succ]
      rw [if_pos (by rfl)]
      go_simp
      refine (HGT.out _).mono ?_
      rintro e wa ⟨rfl, hwa⟩
      (try go_simp)
      have HT0 := TW.next hwa HT0
      refine hK _ _ (fun _ => trivial) HT0 ?_
      clear hK K hwa
      try simp only [Act.put, List.getElem_toArray, List.getElem_cons_zero, List.getElem_cons_succ, List.setIfInBounds_toArray, List.set_cons_zero, List.set_cons_succ]
      refine late_take (i := 7) (.tuple #[.agg hookZ, .bool false]) false rfl (by kernel_rfl) (by kernel_rfl) (by kernel_rfl) (by kernel_rfl) (fun h => by cases h) (fun _ _ _ h => h) (by rfl) (fun W hS hT => ?_) (fun _ => trivial) HT0 (fun h => by cases h) ?_
      · go_simp
      try simp only [Act.put, List.getElem_toArray, List.getElem_cons_zero, List.getElem_cons_succ, List.setIfInBounds_toArray, List.set_cons_zero, List.set_cons_succ]
      refine late_take (i := 8) (.agg hookZ) false rfl (by kernel_rfl) (by kernel_rfl) (by kernel_rfl) (by kernel_rfl) (fun h => by cases h) (fun _ _ _ h => h) (by rfl) (fun W hS hT => ?_) (fun _ => trivial) HT0 (fun h => by cases h) ?_
      · go_simp
      try simp only [Act.put, List.getElem_toArray, List.getElem_cons_zero, List.getElem_cons_succ, List.setIfInBounds_toArray, List.set_cons_zero, List.set_cons_succ]
      refine late_take (i := 9) (.bool false) false rfl (by kernel_rfl) (by kernel_rfl) (by kernel_rfl) (by kernel_rfl) (fun h => by cases h) (fun _ _ _ h => h) (by rfl) (fun W hS hT => ?_) (fun _ => trivial) HT0 (fun h => by cases h) ?_
      · go_simp
      try simp only [Act.put, List.getElem_toArray, List.getElem_cons_zero, List.getElem_cons_succ, List.setIfInBounds_toArray, List.set_cons_zero, List.set_cons_succ]
      refine late_one 10 rfl (by kernel_rfl) (fun K hK => ?_)
      have HB4 : Hid (w.heap.size ≤ wa.heap.size ∧ WB.heap.size ≤ wa.heap.size ∧ wa.heap.size ≠ sb) := Lib.hid ⟨HT0.2.size, HT0.1.size, by have := HT0.1.lt; have := HT0.1.size; omega⟩
      try simp only [List.getElem_toArray, List.getElem_cons_zero, List.getElem_cons_succ]
      rw [if_pos (by rfl)]
      go_simp
      have HH : Hid ((wa.alloc (.cells hookZ 33)).heap[wa.heap.size]? = some (.cells hookZ 33 (0, 0))) := Lib.hid (heap_alloc_new wa _)
      have HT0 := TW.next (Below.new (w := wa) (.cells hookZ 33)) HT0
      refine hK _ (wa.alloc (.cells hookZ 33)) (fun _ => trivial) HT0 ?_
      clear hK K
      try simp only [Act.put, List.getElem_toArray, List.getElem_cons_zero, List.getElem_cons_succ, List.setIfInBounds_toArray, List.set_cons_zero, List.set_cons_succ]
      obtain ⟨hb, hhb⟩ : ∃ b, wa.heap.size = b := ⟨_, rfl⟩
      have HHB := Lib.hid hhb
      rw [hhb] at HH ⊢
      clear hhb
      generalize wa.alloc (.cells hookZ 33) = wal at HH HT0 ⊢
      have HHL : Hid (w.heap.size ≤ hb ∧ WB.heap.size ≤ hb ∧ hb ≠ sb ∧ bv.ownBlock ≠ some hb) := by
        have h4 := own_type HT0.1.own (by decide) HH.out
        have h5 := HB4.out
        rw [HHB.out] at h5
        exact Lib.hid ⟨h5.1, h5.2.1, h5.2.2, h4⟩
      refine late_one 11 rfl (by kernel_rfl) (fun K hK => ?_)
      try simp only [List.getElem_toArray, List.getElem_cons_zero, List.getElem_cons_succ]
      rw [if_pos (by rfl)]
      refine wp_store_row 33 _ _ (by rfl) hb hookZ (by rfl) (by rfl) 33 hookZ HH.out hook_size (by rfl) hookZ_one ?_
      have HT0 := TW.row HT0 hb hookZ HHL.out
      refine hK _ _ (fun _ => trivial) HT0 ?_
      clear hK K
      try simp only [Act.put, List.getElem_toArray, List.getElem_cons_zero, List.getElem_cons_succ, List.setIfInBounds_toArray, List.set_cons_zero, List.set_cons_succ]
      refine late_take (i := 12) (.bool false) false rfl (by kernel_rfl) (by kernel_rfl) (by kernel_rfl) (by kernel_rfl) (fun h => by cases h) (fun _ _ _ h => h) (by rfl) (fun W hS hT => ?_) (fun _ => trivial) HT0 (fun h => by cases h) ?_
      · go_simp
      try simp only [Act.put, List.getElem_toArray, List.getElem_cons_zero, List.getElem_cons_succ, List.setIfInBounds_toArray, List.set_cons_zero, List.set_cons_succ]
      refine late_done (by kernel_rfl) ?_ _
      have HE := Lib.hid HT0.2
      clear HT0 HH
      go_wp2_with fail
      refine bodyPost_ret (v := .tuple #[.string ⟨#[]⟩, .bool false]) (by simp [results, Tryz.f27, go_sem]) rfl ?_
      exact ⟨rfl, HE.out⟩
    · have HB4 : Hid (w.heap.size ≤ wa.heap.size ∧ WB.heap.size ≤ wa.heap.size ∧ wa.heap.size ≠ sb) := Lib.hid ⟨HT0.2.size, HT0.1.size, by have := HT0.1.lt; have := HT0.1.size; omega⟩
      try simp only [List.getElem_toArray, List.getElem_cons_zero, List.getElem_cons_succ]
      rw [if_pos (by rfl)]
      go_simp
      have HH : Hid ((wa.alloc (.cells hookZ 33)).heap[wa.heap.size]? = some (.cells hookZ 33 (0, 0))) := Lib.hid (heap_alloc_new wa _)
      have HT0 := TW.next (Below.new (w := wa) (.cells hookZ 33)) HT0
      refine hK _ (wa.alloc (.cells hookZ 33)) (fun _ => trivial) HT0 ?_
      clear hK K
      try simp only [Act.put, List.getElem_toArray, List.getElem_cons_zero, List.getElem_cons_succ, List.setIfInBounds_toArray, List.set_cons_zero, List.set_cons_succ]
      obtain ⟨hb, hhb⟩ : ∃ b, wa.heap.size = b := ⟨_, rfl⟩
      have HHB := Lib.hid hhb
      rw [hhb] at HH ⊢
      clear hhb
      generalize wa.alloc (.cells hookZ 33) = wal at HH HT0 ⊢
      refine late_one 6 rfl (by kernel_rfl) (fun K hK => ?_)
      try simp only [List.getElem_toArray, List.getElem_cons_zero, List.getElem_cons_succ]
      rw [if_pos (by rfl)]
      go_simp
      refine (HGT.out _).mono ?_
      rintro e wa ⟨rfl, hwa⟩
      (try go_simp)
      have HT0 := TW.next hwa HT0
      have HH := Lib.hid ((hwa.block _ (lt_of_some HH.out)).trans HH.out)
      refine hK _ _ (fun _ => trivial) HT0 ?_
      clear hK K hwa
      try simp only [Act.put, List.getElem_toArray, List.getElem_cons_zero, List.getElem_cons_succ, List.setIfInBounds_toArray, List.set_cons_zero, List.set_cons_succ]
      refine late_take (i := 7) (.tuple #[.agg hookZ, .bool false]) false rfl (by kernel_rfl) (by kernel_rfl) (by kernel_rfl) (by kernel_rfl) (fun h => by cases h) (fun _ _ _ h => h) (by rfl) (fun W hS hT => ?_) (fun _ => trivial) HT0 (fun h => by cases h) ?_
      · go_simp
      try simp only [Act.put, List.getElem_toArray, List.getElem_cons_zero, List.getElem_cons_succ, List.setIfInBounds_toArray, List.set_cons_zero, List.set_cons_succ]
      refine late_take (i := 8) (.agg hookZ) false rfl (by kernel_rfl) (by kernel_rfl) (by kernel_rfl) (by kernel_rfl) (fun h => by cases h) (fun _ _ _ h => h) (by rfl) (fun W hS hT => ?_) (fun _ => trivial) HT0 (fun h => by cases h) ?_
      · go_simp
      try simp only [Act.put, List.getElem_toArray, List.getElem_cons_zero, List.getElem_cons_succ, List.setIfInBounds_toArray, List.set_cons_zero, List.set_cons_succ]
      refine late_take (i := 9) (.bool false) false rfl (by kernel_rfl) (by kernel_rfl) (by kernel_rfl) (by kernel_rfl) (fun h => by cases h) (fun _ _ _ h => h) (by rfl) (fun W hS hT => ?_) (fun _ => trivial) HT0 (fun h => by cases h) ?_
      · go_simp
      try simp only [Act.put, List.getElem_toArray, List.getElem_cons_zero, List.getElem_cons_succ, List.setIfInBounds_toArray, List.set_cons_zero, List.set_cons_succ]
      have HHL : Hid (w.heap.size ≤ hb ∧ WB.heap.size ≤ hb ∧ hb ≠ sb ∧ bv.ownBlock ≠ some hb) := by
        have h4 := own_type HT0.1.own (by decide) HH.out
        have h5 := HB4.out
        rw [HHB.out] at h5
        exact Lib.hid ⟨h5.1, h5.2.1, h5.2.2, h4⟩
      refine late_one 11 rfl (by kernel_rfl) (fun K hK => ?_)
      try simp only [List.getElem_toArray, List.getElem_cons_zero, List.getElem_cons_succ]
      rw [if_pos (by rfl)]
      refine wp_store_row 33 _ _ (by rfl) hb hookZ (by rfl) (by rfl) 33 hookZ HH.out hook_size (by rfl) hookZ_one ?_
      have HT0 := TW.row HT0 hb hookZ HHL.out
      refine hK _ _ (fun _ => trivial) HT0 ?_
      clear hK K
      try simp only [Act.put, List.getElem_toArray, List.getElem_cons_zero, List.getElem_cons_succ, List.setIfInBounds_toArray, List.set_cons_zero, List.set_cons_succ]
      refine late_take (i := 12) (.bool false) false rfl (by kernel_rfl) (by kernel_rfl) (by kernel_rfl) (by kernel_rfl) (fun h => by cases h) (fun _ _ _ h => h) (by rfl) (fun W hS hT => ?_) (fun _ => trivial) HT0 (fun h => by cases h) ?_
      · go_simp
      try simp only [Act.put, List.getElem_toArray, List.getElem_cons_zero, List.getElem_cons_succ, List.setIfInBounds_toArray, List.set_cons_zero, List.set_cons_succ]
      refine late_done (by kernel_rfl) ?_ _
      have HE := Lib.hid HT0.2
      clear HT0 HH
      go_wp2_with fail
      refine bodyPost_ret (v := .tuple #[.string ⟨#[]⟩, .bool false]) (by simp [results, Tryz.f27, go_sem]) rfl ?_
      exact ⟨rfl, HE.out⟩
  · have HB4 : Hid (w.heap.size ≤ W2.heap.size ∧ WB.heap.size ≤ W2.heap.size ∧ W2.heap.size ≠ sb) := Lib.hid ⟨HT0.2.size, HT0.1.size, by have := HT0.1.lt; have := HT0.1.size; omega⟩
    try simp only [List.getElem_toArray, List.getElem_cons_zero, List.getElem_cons_succ]
    rw [if_pos (by rfl)]
    go_simp
    have HH : Hid ((W2.alloc (.cells hookZ 33)).heap[W2.heap.size]? = some (.cells hookZ 33 (0, 0))) := Lib.hid (heap_alloc_new W2 _)
    have HT0 := TW.next (Below.new (w := W2) (.cells hookZ 33)) HT0
    refine hK _ (W2.alloc (.cells hookZ 33)) (fun _ => trivial) HT0 ?_
    clear hK K
    try simp only [Act.put, List.getElem_toArray, List.getElem_cons_zero, List.getElem_cons_succ, List.setIfInBounds_toArray, List.set_cons_zero, List.set_cons_succ]
    obtain ⟨hb, hhb⟩ : ∃ b, W2.heap.size = b := ⟨_, rfl⟩
    have HHB := Lib.hid hhb
    rw [hhb] at HH ⊢
    clear hhb
    generalize W2.alloc (.cells hookZ 33) = wal at HH HT0 ⊢
    refine late_one 5 rfl (by kernel_rfl) (fun K hK => ?_)
    try simp only [List.getElem_toArray, List.getElem_cons_zero, List.getElem_cons_succ]
    rw [if_pos (by rfl)]
    go_simp
    refine (HHK.out _ HT0).mono ?_
    rintro e wa ⟨rfl, hwa⟩
    (try go_simp)
    have HT0 := TW.next hwa HT0
    have HH := Lib.hid ((hwa.block _ (lt_of_some HH.out)).trans HH.out)
    refine hK _ _ (fun _ => trivial) HT0 ?_
    clear hK K hwa
    try simp only [Act.put, List.getElem_toArray, List.getElem_cons_zero, List.getElem_cons_succ, List.setIfInBounds_toArray, List.set_cons_zero, List.set_cons_succ]
    refine late_one 6 rfl (by kernel_rfl) (fun K hK => ?_)
    try simp only [List.getElem_toArray, List.getElem_cons_zero, List.getElem_cons_succ]
    rw [if_pos (by rfl)]
    go_simp
    refine (HGT.out _).mono ?_
    rintro e wa ⟨rfl, hwa⟩
    (try go_simp)
    have HT0 := TW.next hwa HT0
    have HH := Lib.hid ((hwa.block _ (lt_of_some HH.out)).trans HH.out)
    refine hK _ _ (fun _ => trivial) HT0 ?_
    clear hK K hwa
    try simp only [Act.put, List.getElem_toArray, List.getElem_cons_zero, List.getElem_cons_succ, List.setIfInBounds_toArray, List.set_cons_zero, List.set_cons_succ]
    refine late_take (i := 7) (.tuple #[.agg hookZ, .bool false]) false rfl (by kernel_rfl) (by kernel_rfl) (by kernel_rfl) (by kernel_rfl) (fun h => by cases h) (fun _ _ _ h => h) (by rfl) (fun W hS hT => ?_) (fun _ => trivial) HT0 (fun h => by cases h) ?_
    · go_simp
    try simp only [Act.put, List.getElem_toArray, List.getElem_cons_zero, List.getElem_cons_succ, List.setIfInBounds_toArray, List.set_cons_zero, List.set_cons_succ]
    refine late_take (i := 8) (.agg hookZ) false rfl (by kernel_rfl) (by kernel_rfl) (by kernel_rfl) (by kernel_rfl) (fun h => by cases h) (fun _ _ _ h => h) (by rfl) (fun W hS hT => ?_) (fun _ => trivial) HT0 (fun h => by cases h) ?_
    · go_simp
    try simp only [Act.put, List.getElem_toArray, List.getElem_cons_zero, List.getElem_cons_succ, List.setIfInBounds_toArray, List.set_cons_zero, List.set_cons_succ]
    refine late_take (i := 9) (.bool false) false rfl (by kernel_rfl) (by kernel_rfl) (by kernel_rfl) (by kernel_rfl) (fun h => by cases h) (fun _ _ _ h => h) (by rfl) (fun W hS hT => ?_) (fun _ => trivial) HT0 (fun h => by cases h) ?_
    · go_simp
    try simp only [Act.put, List.getElem_toArray, List.getElem_cons_zero, List.getElem_cons_succ, List.setIfInBounds_toArray, List.set_cons_zero, List.set_cons_succ]
    have HHL : Hid (w.heap.size ≤ hb ∧ WB.heap.size ≤ hb ∧ hb ≠ sb ∧ bv.ownBlock ≠ some hb) := by
      have h4 := own_type HT0.1.own (by decide) HH.out
      have h5 := HB4.out
      rw [HHB.out] at h5
      exact Lib.hid ⟨h5.1, h5.2.1, h5.2.2, h4⟩
    refine late_one 11 rfl (by kernel_rfl) (fun K hK => ?_)
    try simp only [List.getElem_toArray, List.getElem_cons_zero, List.getElem_cons_succ]
    rw [if_pos (by rfl)]
    refine wp_store_row 33 _ _ (by rfl) hb hookZ (by rfl) (by rfl) 33 hookZ HH.out hook_size (by rfl) hookZ_one ?_
    have HT0 := TW.row HT0 hb hookZ HHL.out
    refine hK _ _ (fun _ => trivial) HT0 ?_
    clear hK K
    try simp only [Act.put, List.getElem_toArray, List.getElem_cons_zero, List.getElem_cons_succ, List.setIfInBounds_toArray, List.set_cons_zero, List.set_cons_succ]
    refine late_take (i := 12) (.bool false) false rfl (by kernel_rfl) (by kernel_rfl) (by kernel_rfl) (by kernel_rfl) (fun h => by cases h) (fun _ _ _ h => h) (by rfl) (fun W hS hT => ?_) (fun _ => trivial) HT0 (fun h => by cases h) ?_
    · go_simp
    try simp only [Act.put, List.getElem_toArray, List.getElem_cons_zero, List.getElem_cons_succ, List.setIfInBounds_toArray, List.set_cons_zero, List.set_cons_succ]
    refine late_done (by kernel_rfl) ?_ _
    have HE := Lib.hid HT0.2
    clear HT0 HH
    go_wp2_with fail
    refine bodyPost_ret (v := .tuple #[.string ⟨#[]⟩, .bool false]) (by simp [results, Tryz.f27, go_sem]) rfl ?_
    exact ⟨rfl, HE.out⟩
end Go.Proofs.YtnalppgjbllehaaGreatDoor
