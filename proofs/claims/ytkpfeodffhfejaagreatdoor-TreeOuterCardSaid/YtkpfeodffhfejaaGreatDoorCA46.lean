/- What has items is written: tree's kind at a list, a map, a struct. Condition: what the items' texts are. -/
import Derived.Test.YtkpfeodffhfejaaGreatDoorCA45
namespace Go.Proofs.YtkpfeodffhfejaaGreatDoor
set_option linter.unusedVariables false
set_option linter.unusedSimpArgs false
open Go.RowKit

theorem group_any (f : SpecD) (k v : Value) (front back : ByteArray) (ty : ByteArray) (gi : Nat) (lb : Array Value) (ss : List Tx) (w : World) (hf : front.size ≤ 1000) (hbk : back.size ≤ 1000) (hn : ss.length ≤ 2000) (ht : ty.size ≤ 900)
    (hty : ∀ W, Below w.heap.size w W → Calls Tryz.prog 13 #[v] W (Ret W (.string ty))) (hg : Gives gi lb ss w) (hen : ∀ args w, (callFunc gi args).run Tryz.prog w = .ok (.enter gi args) w) :
    Calls Tryz.prog 80 #[.agg #[.bool f.plus, .bool f.minus, .bool f.sharp, .bool f.space, .bool f.zero, .int .i64 f.wid, .int .i64 f.prec, .int .i32 f.verb, k], v, .string front, .string back, .func (.func gi) #[] lb] w (Ret w (.string (groupB f ty front back (txs ss)))) := by
  unfold groupB
  rcases Bool.eq_false_or_eq_true (tsharpB f) with h | h
  · rw [if_pos h]
    exact group_sharp f k v front back ty gi lb ss w h ht hn hty hg hen
  · rw [if_neg (by rw [h]; decide)]
    exact group_plain f k v front back gi lb ss w h hf hbk hn hg hen
theorem writer9 : (Tryz.prog.info? 57).map (·.size) = some 9 := by kernel_rfl
theorem list4 : (Tryz.prog.info? 101).map (·.size) = some 4 := by kernel_rfl
theorem map4 : (Tryz.prog.info? 104).map (·.size) = some 4 := by kernel_rfl
theorem struct4 : (Tryz.prog.info? 99).map (·.size) = some 4 := by kernel_rfl
set_option maxHeartbeats 4000000 in
set_option maxRecDepth 1000000 in
theorem kind_list (f : SpecD) (k : Value) (kd : Int) (nm : ByteArray) (hk : Int) (a : Option Addr) (n c : Nat) (dep : Int) (w : World) (ty : ByteArray) (ht : ty.size ≤ 900) (hdp : 0 ≤ dep) (hdp2 : dep ≤ 1000000)
    (hty : ∀ W, Below w.heap.size w W → Calls Tryz.prog 13 #[.iface 101 (.agg #[.int .i64 kd, .string nm, .int .i64 hk, .slice a n c])] W (Ret W (.string ty)))
    (bb oo : Nat) (vs : Nat → Value) (ha : 0 < n → a = some ⟨bb, oo, none⟩) (hc : ∀ i, i < n → w.cell? ⟨bb, oo + i, none⟩ = some (vs i)) (hn : n ≤ 1000) (ss : List Tx) (hl : ss.length = n)
    (hv : ∀ i (h : i < ss.length) W, Below w.heap.size w W → Calls Tryz.prog 25 #[.agg #[.bool f.plus, .bool f.minus, .bool f.sharp, .bool f.space, .bool f.zero, .int .i64 f.wid, .int .i64 f.prec, .int .i32 f.verb, k], vs i, .int .i64 (dep + 1)] W (Ret W (.string ss[i].1))) :
    Calls Tryz.prog 48 #[.agg #[.bool f.plus, .bool f.minus, .bool f.sharp, .bool f.space, .bool f.zero, .int .i64 f.wid, .int .i64 f.prec, .int .i32 f.verb, k], .iface 101 (.agg #[.int .i64 kd, .string nm, .int .i64 hk, .slice a n c]), .int .i64 dep] w (Ret2 w (groupB f ty ⟨#[91]⟩ ⟨#[93]⟩ (txs ss)) true) := by
  have HGR : Hid (∀ wa W3, Below w.heap.size w wa → W3 = (((wa.alloc (.cells #[.bool f.plus, .bool f.minus, .bool f.sharp, .bool f.space, .bool f.zero, .int .i64 f.wid, .int .i64 f.prec, .int .i32 f.verb, k] 57)).alloc (.cells #[.int .i64 kd, .string nm, .int .i64 hk, .slice a n c] 101)).alloc (.cells #[.int .i64 dep] 3)) →
      Below w.heap.size w W3 ∧ Calls Tryz.prog 80 #[.agg #[.bool f.plus, .bool f.minus, .bool f.sharp, .bool f.space, .bool f.zero, .int .i64 f.wid, .int .i64 f.prec, .int .i32 f.verb, k], .iface 101 (.agg #[.int .i64 kd, .string nm, .int .i64 hk, .slice a n c]), .string ⟨#[91]⟩, .string ⟨#[93]⟩, .func (.func 109) #[] #[.pointer (some ⟨wa.heap.size + 1, 0, none⟩), .pointer (some ⟨wa.heap.size, 0, none⟩), .pointer (some ⟨wa.heap.size + 1 + 1, 0, none⟩)]] W3 (Ret W3 (.string (groupB f ty ⟨#[91]⟩ ⟨#[93]⟩ (txs ss))))) := by
    refine Lib.hid fun wa W3 hwa hW3 => ?_
    have s1 : (wa.alloc (.cells #[.bool f.plus, .bool f.minus, .bool f.sharp, .bool f.space, .bool f.zero, .int .i64 f.wid, .int .i64 f.prec, .int .i32 f.verb, k] 57)).heap.size = wa.heap.size + 1 := World.size_alloc _ _
    have s2 : ((wa.alloc (.cells #[.bool f.plus, .bool f.minus, .bool f.sharp, .bool f.space, .bool f.zero, .int .i64 f.wid, .int .i64 f.prec, .int .i32 f.verb, k] 57)).alloc (.cells #[.int .i64 kd, .string nm, .int .i64 hk, .slice a n c] 101)).heap.size = wa.heap.size + 1 + 1 := by rw [World.size_alloc, s1]
    have s3 : (((wa.alloc (.cells #[.bool f.plus, .bool f.minus, .bool f.sharp, .bool f.space, .bool f.zero, .int .i64 f.wid, .int .i64 f.prec, .int .i32 f.verb, k] 57)).alloc (.cells #[.int .i64 kd, .string nm, .int .i64 hk, .slice a n c] 101)).alloc (.cells #[.int .i64 dep] 3)).heap.size = wa.heap.size + 1 + 1 + 1 := by rw [World.size_alloc, s2]
    have h0 := heap_alloc_new wa (.cells #[.bool f.plus, .bool f.minus, .bool f.sharp, .bool f.space, .bool f.zero, .int .i64 f.wid, .int .i64 f.prec, .int .i32 f.verb, k] 57)
    have h1 := heap_alloc_new (wa.alloc (.cells #[.bool f.plus, .bool f.minus, .bool f.sharp, .bool f.space, .bool f.zero, .int .i64 f.wid, .int .i64 f.prec, .int .i32 f.verb, k] 57)) (.cells #[.int .i64 kd, .string nm, .int .i64 hk, .slice a n c] 101)
    have h2 := heap_alloc_new ((wa.alloc (.cells #[.bool f.plus, .bool f.minus, .bool f.sharp, .bool f.space, .bool f.zero, .int .i64 f.wid, .int .i64 f.prec, .int .i32 f.verb, k] 57)).alloc (.cells #[.int .i64 kd, .string nm, .int .i64 hk, .slice a n c] 101)) (.cells #[.int .i64 dep] 3)
    rw [s1] at h1
    rw [s2] at h2
    have c2 := Below.new (w := (wa.alloc (.cells #[.bool f.plus, .bool f.minus, .bool f.sharp, .bool f.space, .bool f.zero, .int .i64 f.wid, .int .i64 f.prec, .int .i32 f.verb, k] 57)).alloc (.cells #[.int .i64 kd, .string nm, .int .i64 hk, .slice a n c] 101)) (.cells #[.int .i64 dep] 3)
    have c1 := Below.new (w := wa.alloc (.cells #[.bool f.plus, .bool f.minus, .bool f.sharp, .bool f.space, .bool f.zero, .int .i64 f.wid, .int .i64 f.prec, .int .i32 f.verb, k] 57)) (.cells #[.int .i64 kd, .string nm, .int .i64 hk, .slice a n c] 101)
    have b2 : W3.heap[wa.heap.size + 1 + 1]? = some (.cells #[.int .i64 dep] 3 (0, 0)) := by rw [hW3]; exact h2
    have b1 : W3.heap[wa.heap.size + 1]? = some (.cells #[.int .i64 kd, .string nm, .int .i64 hk, .slice a n c] 101 (0, 0)) := by rw [hW3]; exact (c2.block _ (by rw [s2]; omega)).trans h1
    have b0 : W3.heap[wa.heap.size]? = some (.cells #[.bool f.plus, .bool f.minus, .bool f.sharp, .bool f.space, .bool f.zero, .int .i64 f.wid, .int .i64 f.prec, .int .i32 f.verb, k] 57 (0, 0)) := by rw [hW3]; exact (c2.block _ (by rw [s2]; omega)).trans ((c1.block _ (by rw [s1]; omega)).trans h0)
    have hb3 : Below w.heap.size w W3 := by rw [hW3]; exact ((hwa.push _).push _).push _
    exact ⟨hb3, group_any f k _ ⟨#[91]⟩ ⟨#[93]⟩ ty _ _ ss W3 (by decide) (by decide) (by omega) ht (fun W hW => hty W (hb3.next hW)) (list_gives f k kd nm hk a n c bb oo vs dep W3 (wa.heap.size + 1) wa.heap.size (wa.heap.size + 1 + 1) b1 b0 b2 hdp hdp2 ha (fun i hi => cell_below hb3 (hc i hi)) hn ss hl (fun i h W hW => hv i h W (hb3.next hW))) (enters_of Tryz.func109 (by kernel_rfl) rfl)⟩
  have tas82 := as82
  have tas85 := as85
  have tas87 := as87
  have tas90 := as90
  have tas92 := as92
  have tas94 := as94
  have tas95 := as95
  have tas104 := as104
  have tas114 := as114
  obtain ⟨r, hr⟩ : ∃ r, groupB f ty ⟨#[91]⟩ ⟨#[93]⟩ (txs ss) = r := ⟨_, rfl⟩
  rw [hr] at HGR ⊢
  clear hr ha hc hl hn hv hty
  have HW : Hid (((w.alloc (.cells #[.bool f.plus, .bool f.minus, .bool f.sharp, .bool f.space, .bool f.zero, .int .i64 f.wid, .int .i64 f.prec, .int .i32 f.verb, k] 57)).alloc (.cells #[.int .i64 kd, .string nm, .int .i64 hk, .slice a n c] 101)).heap[w.heap.size]? = some (.cells #[.bool f.plus, .bool f.minus, .bool f.sharp, .bool f.space, .bool f.zero, .int .i64 f.wid, .int .i64 f.prec, .int .i32 f.verb, k] 57 (0, 0))) := Lib.hid (((Below.new _).block _ (by simp)).trans (heap_alloc_new w _))
  have HI : Hid (((w.alloc (.cells #[.bool f.plus, .bool f.minus, .bool f.sharp, .bool f.space, .bool f.zero, .int .i64 f.wid, .int .i64 f.prec, .int .i32 f.verb, k] 57)).alloc (.cells #[.int .i64 kd, .string nm, .int .i64 hk, .slice a n c] 101)).heap[w.heap.size + 1]? = some (.cells #[.int .i64 kd, .string nm, .int .i64 hk, .slice a n c] 101 (0, 0))) := by
    have h := heap_alloc_new (w.alloc (.cells #[.bool f.plus, .bool f.minus, .bool f.sharp, .bool f.space, .bool f.zero, .int .i64 f.wid, .int .i64 f.prec, .int .i32 f.verb, k] 57)) (.cells #[.int .i64 kd, .string nm, .int .i64 hk, .slice a n c] 101)
    rw [World.size_alloc] at h
    exact Lib.hid h
  have HB := Lib.hid ((Below.new (w := w) (.cells #[.bool f.plus, .bool f.minus, .bool f.sharp, .bool f.space, .bool f.zero, .int .i64 f.wid, .int .i64 f.prec, .int .i32 f.verb, k] 57)).push (.cells #[.int .i64 kd, .string nm, .int .i64 hk, .slice a n c] 101))
  go_enter Tryz.func48, Tryz.ntmps48
  go_upto_region 32 with fail
  generalize ((w.alloc (.cells #[.bool f.plus, .bool f.minus, .bool f.sharp, .bool f.space, .bool f.zero, .int .i64 f.wid, .int .i64 f.prec, .int .i32 f.verb, k] 57)).alloc (.cells #[.int .i64 kd, .string nm, .int .i64 hk, .slice a n c] 101)) = W2 at HW HI HB ⊢
  refine late_begin [] (fun _ => True) (fun W => Below W2.heap.size W2 W) (by kernel_rfl) ?_
  have HT0 : Below W2.heap.size W2 W2.drew := (Below.refl _ W2).drew
  generalize W2.drew = W4 at HT0 ⊢
  refine late_take (i := 0) (.agg #[.bool f.plus, .bool f.minus, .bool f.sharp, .bool f.space, .bool f.zero, .int .i64 f.wid, .int .i64 f.prec, .int .i32 f.verb, k]) false rfl (by kernel_rfl) (by kernel_rfl) (by kernel_rfl) (by kernel_rfl) (fun h => by cases h) (fun _ _ _ h => h) (by rfl) (fun W hS hT => ?_) (fun _ => trivial) HT0 (fun h => by cases h) ?_
  · exact exec_load_row 57 _ (by rfl) w.heap.size (by rfl) _ (run_loadVar_row W w.heap.size 57 57 #[.bool f.plus, .bool f.minus, .bool f.sharp, .bool f.space, .bool f.zero, .int .i64 f.wid, .int .i64 f.prec, .int .i32 f.verb, k] (0, 0) _ ((hT.block _ (lt_of_some HW.out)).trans HW.out) Tryz.underlying57 rfl writer9)
  try simp only [Act.put, List.getElem_toArray, List.getElem_cons_zero, List.getElem_cons_succ, List.setIfInBounds_toArray, List.set_cons_zero, List.set_cons_succ]
  refine late_take (i := 1) (.iface 101 (.agg #[.int .i64 kd, .string nm, .int .i64 hk, .slice a n c])) false rfl (by kernel_rfl) (by kernel_rfl) (by kernel_rfl) (by kernel_rfl) (fun h => by cases h) (fun _ _ _ h => h) (by rfl) (fun W hS hT => ?_) (fun _ => trivial) HT0 (fun h => by cases h) ?_
  · go_simp
  try simp only [Act.put, List.getElem_toArray, List.getElem_cons_zero, List.getElem_cons_succ, List.setIfInBounds_toArray, List.set_cons_zero, List.set_cons_succ]
  refine late_take (i := 2) (.agg #[.bool f.plus, .bool f.minus, .bool f.sharp, .bool f.space, .bool f.zero, .int .i64 f.wid, .int .i64 f.prec, .int .i32 f.verb, k]) false rfl (by kernel_rfl) (by kernel_rfl) (by kernel_rfl) (by kernel_rfl) (fun h => by cases h) (fun _ _ _ h => h) (by rfl) (fun W hS hT => ?_) (fun _ => trivial) HT0 (fun h => by cases h) ?_
  · exact exec_load_row 57 _ (by rfl) w.heap.size (by rfl) _ (run_loadVar_row W w.heap.size 57 57 #[.bool f.plus, .bool f.minus, .bool f.sharp, .bool f.space, .bool f.zero, .int .i64 f.wid, .int .i64 f.prec, .int .i32 f.verb, k] (0, 0) _ ((hT.block _ (lt_of_some HW.out)).trans HW.out) Tryz.underlying57 rfl writer9)
  try simp only [Act.put, List.getElem_toArray, List.getElem_cons_zero, List.getElem_cons_succ, List.setIfInBounds_toArray, List.set_cons_zero, List.set_cons_succ]
  refine late_take (i := 3) (.agg #[.int .i64 kd, .string nm, .int .i64 hk, .slice a n c]) false rfl (by kernel_rfl) (by kernel_rfl) (by kernel_rfl) (by kernel_rfl) (fun h => by cases h) (fun _ _ _ h => h) (by rfl) (fun W hS hT => ?_) (fun _ => trivial) HT0 (fun h => by cases h) ?_
  · exact exec_load_row 101 _ (by rfl) (w.heap.size + 1) (by rfl) _ (run_loadVar_row W (w.heap.size + 1) 101 101 #[.int .i64 kd, .string nm, .int .i64 hk, .slice a n c] (0, 0) _ ((hT.block _ (lt_of_some HI.out)).trans HI.out) Tryz.underlying101 rfl list4)
  try simp only [Act.put, List.getElem_toArray, List.getElem_cons_zero, List.getElem_cons_succ, List.setIfInBounds_toArray, List.set_cons_zero, List.set_cons_succ]
  refine late_take (i := 4) (.int .i64 dep) false rfl (by kernel_rfl) (by kernel_rfl) (by kernel_rfl) (by kernel_rfl) (fun h => by cases h) (fun _ _ _ h => h) (by rfl) (fun W hS hT => ?_) (fun _ => trivial) HT0 (fun h => by cases h) ?_
  · go_simp
  try simp only [Act.put, List.getElem_toArray, List.getElem_cons_zero, List.getElem_cons_succ, List.setIfInBounds_toArray, List.set_cons_zero, List.set_cons_succ]
  refine late_one 5 rfl (by kernel_rfl) (fun K hK => ?_)
  try simp only [List.getElem_toArray, List.getElem_cons_zero, List.getElem_cons_succ]
  rw [if_pos (by rfl)]
  go_simp
  refine (list_made f k kd nm hk a n c dep _).mono ?_
  rintro e W5 ⟨rfl, hW5⟩
  have HW5 := Lib.hid hW5
  clear hW5
  (try go_simp)
  obtain ⟨hb5, hgr⟩ := HGR.out W4 W5 (HB.out.next HT0) HW5.out
  have hb4 : Below W4.heap.size W4 W5 := by rw [HW5.out]; exact ((Below.new _).push _).push _
  have HT0 := HT0.next hb4
  have HGG := Lib.hid hgr
  have HB5 := Lib.hid hb5
  clear hgr hb4 hb5 HW5 HGR
  refine hK _ _ (fun _ => trivial) HT0 ?_
  clear hK K
  try simp only [Act.put, List.getElem_toArray, List.getElem_cons_zero, List.getElem_cons_succ, List.setIfInBounds_toArray, List.set_cons_zero, List.set_cons_succ]
  refine late_one 6 rfl (by kernel_rfl) (fun K hK => ?_)
  try simp only [List.getElem_toArray, List.getElem_cons_zero, List.getElem_cons_succ]
  rw [if_pos (by rfl)]
  go_simp
  refine HGG.out.mono ?_
  rintro e W6 ⟨rfl, hb6⟩
  (try go_simp)
  have HT0 := HT0.next hb6
  have HB6 := Lib.hid (HB5.out.next hb6)
  clear hb6 HGG HB5
  refine hK _ _ (fun _ => trivial) HT0 ?_
  clear hK K
  try simp only [Act.put, List.getElem_toArray, List.getElem_cons_zero, List.getElem_cons_succ, List.setIfInBounds_toArray, List.set_cons_zero, List.set_cons_succ]
  refine late_take (i := 7) (.string r) false rfl (by kernel_rfl) (by kernel_rfl) (by kernel_rfl) (by kernel_rfl) (fun h => by cases h) (fun _ _ _ h => h) (by rfl) (fun W hS hT => ?_) (fun _ => trivial) HT0 (fun h => by cases h) ?_
  · go_simp
  try simp only [Act.put, List.getElem_toArray, List.getElem_cons_zero, List.getElem_cons_succ, List.setIfInBounds_toArray, List.set_cons_zero, List.set_cons_succ]
  refine late_take (i := 8) (.bool true) false rfl (by kernel_rfl) (by kernel_rfl) (by kernel_rfl) (by kernel_rfl) (fun h => by cases h) (fun _ _ _ h => h) (by rfl) (fun W hS hT => ?_) (fun _ => trivial) HT0 (fun h => by cases h) ?_
  · go_simp
  try simp only [Act.put, List.getElem_toArray, List.getElem_cons_zero, List.getElem_cons_succ, List.setIfInBounds_toArray, List.set_cons_zero, List.set_cons_succ]
  refine late_done (by kernel_rfl) ?_ _
  clear HT0 HW HI HB
  go_wp2_with fail
  refine bodyPost_ret (v := .tuple #[.string r, .bool true]) (by simp [results, Tryz.f48, go_sem]) rfl ?_
  exact ⟨rfl, HB6.out⟩
set_option maxHeartbeats 4000000 in
set_option maxRecDepth 1000000 in
theorem kind_entries (f : SpecD) (k : Value) (kd : Int) (nm : ByteArray) (hk : Int) (a : Option Addr) (n c : Nat) (dep : Int) (w : World) (ty : ByteArray) (ht : ty.size ≤ 900) (hdp : 0 ≤ dep) (hdp2 : dep ≤ 1000000)
    (hty : ∀ W, Below w.heap.size w W → Calls Tryz.prog 13 #[.iface 104 (.agg #[.int .i64 kd, .string nm, .int .i64 hk, .slice a n c])] W (Ret W (.string ty)))
    (bb oo : Nat) (vs us : Nat → Value) (ks rs : Nat → ByteArray) (ha : 0 < n → a = some ⟨bb, oo, none⟩) (hc0 : ∀ i, i < n → w.cell? ⟨bb, oo + i * 2, none⟩ = some (us i)) (hc : ∀ i, i < n → w.cell? ⟨bb, oo + i * 2 + 1, none⟩ = some (vs i)) (hn : n ≤ 1000) (ss : List Tx) (hl : ss.length = n)
    (hsh : ∀ i, i < n → ∃ t y, vs i = .iface t y) (hv : ∀ i (h : i < ss.length) W, Below w.heap.size w W → Calls Tryz.prog 25 #[.agg #[.bool f.plus, .bool f.minus, .bool f.sharp, .bool f.space, .bool f.zero, .int .i64 f.wid, .int .i64 f.prec, .int .i32 f.verb, k], vs i, .int .i64 (dep + 1)] W (Ret W (.string (rs i))))
    (hsh0 : ∀ i, i < n → ∃ t y, us i = .iface t y) (hv0 : ∀ i, i < n → ∀ W, Below w.heap.size w W → Calls Tryz.prog 25 #[.agg #[.bool f.plus, .bool f.minus, .bool f.sharp, .bool f.space, .bool f.zero, .int .i64 f.wid, .int .i64 f.prec, .int .i32 f.verb, k], us i, .int .i64 (dep + 1)] W (Ret W (.string (ks i))))
    (hz : ∀ i, i < n → (ks i).size ≤ 1000000000 ∧ (rs i).size ≤ 1000000000) (hs : ∀ i (h : i < ss.length), ss[i].1 = ks i ++ ⟨#[58]⟩ ++ rs i) :
    Calls Tryz.prog 48 #[.agg #[.bool f.plus, .bool f.minus, .bool f.sharp, .bool f.space, .bool f.zero, .int .i64 f.wid, .int .i64 f.prec, .int .i32 f.verb, k], .iface 104 (.agg #[.int .i64 kd, .string nm, .int .i64 hk, .slice a n c]), .int .i64 dep] w (Ret2 w (groupB f ty ⟨#[109, 97, 112, 91]⟩ ⟨#[93]⟩ (txs ss)) true) := by
  have HGR : Hid (∀ wa W3, Below w.heap.size w wa → W3 = (((wa.alloc (.cells #[.bool f.plus, .bool f.minus, .bool f.sharp, .bool f.space, .bool f.zero, .int .i64 f.wid, .int .i64 f.prec, .int .i32 f.verb, k] 57)).alloc (.cells #[.int .i64 kd, .string nm, .int .i64 hk, .slice a n c] 104)).alloc (.cells #[.int .i64 dep] 3)) →
      Below w.heap.size w W3 ∧ Calls Tryz.prog 80 #[.agg #[.bool f.plus, .bool f.minus, .bool f.sharp, .bool f.space, .bool f.zero, .int .i64 f.wid, .int .i64 f.prec, .int .i32 f.verb, k], .iface 104 (.agg #[.int .i64 kd, .string nm, .int .i64 hk, .slice a n c]), .string ⟨#[109, 97, 112, 91]⟩, .string ⟨#[93]⟩, .func (.func 110) #[] #[.pointer (some ⟨wa.heap.size + 1, 0, none⟩), .pointer (some ⟨wa.heap.size, 0, none⟩), .pointer (some ⟨wa.heap.size + 1 + 1, 0, none⟩)]] W3 (Ret W3 (.string (groupB f ty ⟨#[109, 97, 112, 91]⟩ ⟨#[93]⟩ (txs ss))))) := by
    refine Lib.hid fun wa W3 hwa hW3 => ?_
    have s1 : (wa.alloc (.cells #[.bool f.plus, .bool f.minus, .bool f.sharp, .bool f.space, .bool f.zero, .int .i64 f.wid, .int .i64 f.prec, .int .i32 f.verb, k] 57)).heap.size = wa.heap.size + 1 := World.size_alloc _ _
    have s2 : ((wa.alloc (.cells #[.bool f.plus, .bool f.minus, .bool f.sharp, .bool f.space, .bool f.zero, .int .i64 f.wid, .int .i64 f.prec, .int .i32 f.verb, k] 57)).alloc (.cells #[.int .i64 kd, .string nm, .int .i64 hk, .slice a n c] 104)).heap.size = wa.heap.size + 1 + 1 := by rw [World.size_alloc, s1]
    have s3 : (((wa.alloc (.cells #[.bool f.plus, .bool f.minus, .bool f.sharp, .bool f.space, .bool f.zero, .int .i64 f.wid, .int .i64 f.prec, .int .i32 f.verb, k] 57)).alloc (.cells #[.int .i64 kd, .string nm, .int .i64 hk, .slice a n c] 104)).alloc (.cells #[.int .i64 dep] 3)).heap.size = wa.heap.size + 1 + 1 + 1 := by rw [World.size_alloc, s2]
    have h0 := heap_alloc_new wa (.cells #[.bool f.plus, .bool f.minus, .bool f.sharp, .bool f.space, .bool f.zero, .int .i64 f.wid, .int .i64 f.prec, .int .i32 f.verb, k] 57)
    have h1 := heap_alloc_new (wa.alloc (.cells #[.bool f.plus, .bool f.minus, .bool f.sharp, .bool f.space, .bool f.zero, .int .i64 f.wid, .int .i64 f.prec, .int .i32 f.verb, k] 57)) (.cells #[.int .i64 kd, .string nm, .int .i64 hk, .slice a n c] 104)
    have h2 := heap_alloc_new ((wa.alloc (.cells #[.bool f.plus, .bool f.minus, .bool f.sharp, .bool f.space, .bool f.zero, .int .i64 f.wid, .int .i64 f.prec, .int .i32 f.verb, k] 57)).alloc (.cells #[.int .i64 kd, .string nm, .int .i64 hk, .slice a n c] 104)) (.cells #[.int .i64 dep] 3)
    rw [s1] at h1
    rw [s2] at h2
    have c2 := Below.new (w := (wa.alloc (.cells #[.bool f.plus, .bool f.minus, .bool f.sharp, .bool f.space, .bool f.zero, .int .i64 f.wid, .int .i64 f.prec, .int .i32 f.verb, k] 57)).alloc (.cells #[.int .i64 kd, .string nm, .int .i64 hk, .slice a n c] 104)) (.cells #[.int .i64 dep] 3)
    have c1 := Below.new (w := wa.alloc (.cells #[.bool f.plus, .bool f.minus, .bool f.sharp, .bool f.space, .bool f.zero, .int .i64 f.wid, .int .i64 f.prec, .int .i32 f.verb, k] 57)) (.cells #[.int .i64 kd, .string nm, .int .i64 hk, .slice a n c] 104)
    have b2 : W3.heap[wa.heap.size + 1 + 1]? = some (.cells #[.int .i64 dep] 3 (0, 0)) := by rw [hW3]; exact h2
    have b1 : W3.heap[wa.heap.size + 1]? = some (.cells #[.int .i64 kd, .string nm, .int .i64 hk, .slice a n c] 104 (0, 0)) := by rw [hW3]; exact (c2.block _ (by rw [s2]; omega)).trans h1
    have b0 : W3.heap[wa.heap.size]? = some (.cells #[.bool f.plus, .bool f.minus, .bool f.sharp, .bool f.space, .bool f.zero, .int .i64 f.wid, .int .i64 f.prec, .int .i32 f.verb, k] 57 (0, 0)) := by rw [hW3]; exact (c2.block _ (by rw [s2]; omega)).trans ((c1.block _ (by rw [s1]; omega)).trans h0)
    have hb3 : Below w.heap.size w W3 := by rw [hW3]; exact ((hwa.push _).push _).push _
    exact ⟨hb3, group_any f k _ ⟨#[109, 97, 112, 91]⟩ ⟨#[93]⟩ ty _ _ ss W3 (by decide) (by decide) (by omega) ht (fun W hW => hty W (hb3.next hW)) (entries_gives f k kd nm hk a n c bb oo vs dep W3 (wa.heap.size + 1) wa.heap.size (wa.heap.size + 1 + 1) us ks rs b1 b0 b2 hdp hdp2 ha (fun i hi => cell_below hb3 (hc0 i hi)) (fun i hi => cell_below hb3 (hc i hi)) hn ss hl hsh (fun i h W hW => hv i h W (hb3.next hW)) hsh0 (fun i h W hW => hv0 i h W (hb3.next hW)) hz hs) (enters_of Tryz.func110 (by kernel_rfl) rfl)⟩
  have tas82 := as82
  have tas85 := as85
  have tas87 := as87
  have tas90 := as90
  have tas92 := as92
  have tas94 := as94
  have tas95 := as95
  have tas104 := as104
  have tas114 := as114
  have tas117 := as117
  obtain ⟨r, hr⟩ : ∃ r, groupB f ty ⟨#[109, 97, 112, 91]⟩ ⟨#[93]⟩ (txs ss) = r := ⟨_, rfl⟩
  rw [hr] at HGR ⊢
  clear hr ha hc hc0 hl hn hv hv0 hsh hsh0 hz hs hty
  have HW : Hid (((w.alloc (.cells #[.bool f.plus, .bool f.minus, .bool f.sharp, .bool f.space, .bool f.zero, .int .i64 f.wid, .int .i64 f.prec, .int .i32 f.verb, k] 57)).alloc (.cells #[.int .i64 kd, .string nm, .int .i64 hk, .slice a n c] 104)).heap[w.heap.size]? = some (.cells #[.bool f.plus, .bool f.minus, .bool f.sharp, .bool f.space, .bool f.zero, .int .i64 f.wid, .int .i64 f.prec, .int .i32 f.verb, k] 57 (0, 0))) := Lib.hid (((Below.new _).block _ (by simp)).trans (heap_alloc_new w _))
  have HI : Hid (((w.alloc (.cells #[.bool f.plus, .bool f.minus, .bool f.sharp, .bool f.space, .bool f.zero, .int .i64 f.wid, .int .i64 f.prec, .int .i32 f.verb, k] 57)).alloc (.cells #[.int .i64 kd, .string nm, .int .i64 hk, .slice a n c] 104)).heap[w.heap.size + 1]? = some (.cells #[.int .i64 kd, .string nm, .int .i64 hk, .slice a n c] 104 (0, 0))) := by
    have h := heap_alloc_new (w.alloc (.cells #[.bool f.plus, .bool f.minus, .bool f.sharp, .bool f.space, .bool f.zero, .int .i64 f.wid, .int .i64 f.prec, .int .i32 f.verb, k] 57)) (.cells #[.int .i64 kd, .string nm, .int .i64 hk, .slice a n c] 104)
    rw [World.size_alloc] at h
    exact Lib.hid h
  have HB := Lib.hid ((Below.new (w := w) (.cells #[.bool f.plus, .bool f.minus, .bool f.sharp, .bool f.space, .bool f.zero, .int .i64 f.wid, .int .i64 f.prec, .int .i32 f.verb, k] 57)).push (.cells #[.int .i64 kd, .string nm, .int .i64 hk, .slice a n c] 104))
  go_enter Tryz.func48, Tryz.ntmps48
  go_upto_region 35 with fail
  generalize ((w.alloc (.cells #[.bool f.plus, .bool f.minus, .bool f.sharp, .bool f.space, .bool f.zero, .int .i64 f.wid, .int .i64 f.prec, .int .i32 f.verb, k] 57)).alloc (.cells #[.int .i64 kd, .string nm, .int .i64 hk, .slice a n c] 104)) = W2 at HW HI HB ⊢
  refine late_begin [] (fun _ => True) (fun W => Below W2.heap.size W2 W) (by kernel_rfl) ?_
  have HT0 : Below W2.heap.size W2 W2.drew := (Below.refl _ W2).drew
  generalize W2.drew = W4 at HT0 ⊢
  refine late_take (i := 0) (.agg #[.bool f.plus, .bool f.minus, .bool f.sharp, .bool f.space, .bool f.zero, .int .i64 f.wid, .int .i64 f.prec, .int .i32 f.verb, k]) false rfl (by kernel_rfl) (by kernel_rfl) (by kernel_rfl) (by kernel_rfl) (fun h => by cases h) (fun _ _ _ h => h) (by rfl) (fun W hS hT => ?_) (fun _ => trivial) HT0 (fun h => by cases h) ?_
  · exact exec_load_row 57 _ (by rfl) w.heap.size (by rfl) _ (run_loadVar_row W w.heap.size 57 57 #[.bool f.plus, .bool f.minus, .bool f.sharp, .bool f.space, .bool f.zero, .int .i64 f.wid, .int .i64 f.prec, .int .i32 f.verb, k] (0, 0) _ ((hT.block _ (lt_of_some HW.out)).trans HW.out) Tryz.underlying57 rfl writer9)
  try simp only [Act.put, List.getElem_toArray, List.getElem_cons_zero, List.getElem_cons_succ, List.setIfInBounds_toArray, List.set_cons_zero, List.set_cons_succ]
  refine late_take (i := 1) (.iface 104 (.agg #[.int .i64 kd, .string nm, .int .i64 hk, .slice a n c])) false rfl (by kernel_rfl) (by kernel_rfl) (by kernel_rfl) (by kernel_rfl) (fun h => by cases h) (fun _ _ _ h => h) (by rfl) (fun W hS hT => ?_) (fun _ => trivial) HT0 (fun h => by cases h) ?_
  · go_simp
  try simp only [Act.put, List.getElem_toArray, List.getElem_cons_zero, List.getElem_cons_succ, List.setIfInBounds_toArray, List.set_cons_zero, List.set_cons_succ]
  refine late_take (i := 2) (.agg #[.bool f.plus, .bool f.minus, .bool f.sharp, .bool f.space, .bool f.zero, .int .i64 f.wid, .int .i64 f.prec, .int .i32 f.verb, k]) false rfl (by kernel_rfl) (by kernel_rfl) (by kernel_rfl) (by kernel_rfl) (fun h => by cases h) (fun _ _ _ h => h) (by rfl) (fun W hS hT => ?_) (fun _ => trivial) HT0 (fun h => by cases h) ?_
  · exact exec_load_row 57 _ (by rfl) w.heap.size (by rfl) _ (run_loadVar_row W w.heap.size 57 57 #[.bool f.plus, .bool f.minus, .bool f.sharp, .bool f.space, .bool f.zero, .int .i64 f.wid, .int .i64 f.prec, .int .i32 f.verb, k] (0, 0) _ ((hT.block _ (lt_of_some HW.out)).trans HW.out) Tryz.underlying57 rfl writer9)
  try simp only [Act.put, List.getElem_toArray, List.getElem_cons_zero, List.getElem_cons_succ, List.setIfInBounds_toArray, List.set_cons_zero, List.set_cons_succ]
  refine late_take (i := 3) (.agg #[.int .i64 kd, .string nm, .int .i64 hk, .slice a n c]) false rfl (by kernel_rfl) (by kernel_rfl) (by kernel_rfl) (by kernel_rfl) (fun h => by cases h) (fun _ _ _ h => h) (by rfl) (fun W hS hT => ?_) (fun _ => trivial) HT0 (fun h => by cases h) ?_
  · exact exec_load_row 104 _ (by rfl) (w.heap.size + 1) (by rfl) _ (run_loadVar_row W (w.heap.size + 1) 104 104 #[.int .i64 kd, .string nm, .int .i64 hk, .slice a n c] (0, 0) _ ((hT.block _ (lt_of_some HI.out)).trans HI.out) Tryz.underlying104 rfl map4)
  try simp only [Act.put, List.getElem_toArray, List.getElem_cons_zero, List.getElem_cons_succ, List.setIfInBounds_toArray, List.set_cons_zero, List.set_cons_succ]
  refine late_take (i := 4) (.int .i64 dep) false rfl (by kernel_rfl) (by kernel_rfl) (by kernel_rfl) (by kernel_rfl) (fun h => by cases h) (fun _ _ _ h => h) (by rfl) (fun W hS hT => ?_) (fun _ => trivial) HT0 (fun h => by cases h) ?_
  · go_simp
  try simp only [Act.put, List.getElem_toArray, List.getElem_cons_zero, List.getElem_cons_succ, List.setIfInBounds_toArray, List.set_cons_zero, List.set_cons_succ]
  refine late_one 5 rfl (by kernel_rfl) (fun K hK => ?_)
  try simp only [List.getElem_toArray, List.getElem_cons_zero, List.getElem_cons_succ]
  rw [if_pos (by rfl)]
  go_simp
  refine (entries_made f k kd nm hk a n c dep _).mono ?_
  rintro e W5 ⟨rfl, hW5⟩
  have HW5 := Lib.hid hW5
  clear hW5
  (try go_simp)
  obtain ⟨hb5, hgr⟩ := HGR.out W4 W5 (HB.out.next HT0) HW5.out
  have hb4 : Below W4.heap.size W4 W5 := by rw [HW5.out]; exact ((Below.new _).push _).push _
  have HT0 := HT0.next hb4
  have HGG := Lib.hid hgr
  have HB5 := Lib.hid hb5
  clear hgr hb4 hb5 HW5 HGR
  refine hK _ _ (fun _ => trivial) HT0 ?_
  clear hK K
  try simp only [Act.put, List.getElem_toArray, List.getElem_cons_zero, List.getElem_cons_succ, List.setIfInBounds_toArray, List.set_cons_zero, List.set_cons_succ]
  refine late_one 6 rfl (by kernel_rfl) (fun K hK => ?_)
  try simp only [List.getElem_toArray, List.getElem_cons_zero, List.getElem_cons_succ]
  rw [if_pos (by rfl)]
  go_simp
  refine HGG.out.mono ?_
  rintro e W6 ⟨rfl, hb6⟩
  (try go_simp)
  have HT0 := HT0.next hb6
  have HB6 := Lib.hid (HB5.out.next hb6)
  clear hb6 HGG HB5
  refine hK _ _ (fun _ => trivial) HT0 ?_
  clear hK K
  try simp only [Act.put, List.getElem_toArray, List.getElem_cons_zero, List.getElem_cons_succ, List.setIfInBounds_toArray, List.set_cons_zero, List.set_cons_succ]
  refine late_take (i := 7) (.string r) false rfl (by kernel_rfl) (by kernel_rfl) (by kernel_rfl) (by kernel_rfl) (fun h => by cases h) (fun _ _ _ h => h) (by rfl) (fun W hS hT => ?_) (fun _ => trivial) HT0 (fun h => by cases h) ?_
  · go_simp
  try simp only [Act.put, List.getElem_toArray, List.getElem_cons_zero, List.getElem_cons_succ, List.setIfInBounds_toArray, List.set_cons_zero, List.set_cons_succ]
  refine late_take (i := 8) (.bool true) false rfl (by kernel_rfl) (by kernel_rfl) (by kernel_rfl) (by kernel_rfl) (fun h => by cases h) (fun _ _ _ h => h) (by rfl) (fun W hS hT => ?_) (fun _ => trivial) HT0 (fun h => by cases h) ?_
  · go_simp
  try simp only [Act.put, List.getElem_toArray, List.getElem_cons_zero, List.getElem_cons_succ, List.setIfInBounds_toArray, List.set_cons_zero, List.set_cons_succ]
  refine late_done (by kernel_rfl) ?_ _
  clear HT0 HW HI HB
  go_wp2_with fail
  refine bodyPost_ret (v := .tuple #[.string r, .bool true]) (by simp [results, Tryz.f48, go_sem]) rfl ?_
  exact ⟨rfl, HB6.out⟩
set_option maxHeartbeats 4000000 in
set_option maxRecDepth 1000000 in
theorem kind_fields (f : SpecD) (k : Value) (kd : Int) (nm : ByteArray) (hk : Int) (a : Option Addr) (n c : Nat) (dep : Int) (w : World) (ty : ByteArray) (ht : ty.size ≤ 900) (hdp : 0 ≤ dep) (hdp2 : dep ≤ 1000000)
    (hty : ∀ W, Below w.heap.size w W → Calls Tryz.prog 13 #[.iface 99 (.agg #[.int .i64 kd, .string nm, .int .i64 hk, .slice a n c])] W (Ret W (.string ty)))
    (bb oo : Nat) (vs : Nat → Value) (nms rs : Nat → ByteArray) (ha : 0 < n → a = some ⟨bb, oo, none⟩) (hc0 : ∀ i, i < n → w.cell? ⟨bb, oo + i * 2, none⟩ = some (.string (nms i))) (hc : ∀ i, i < n → w.cell? ⟨bb, oo + i * 2 + 1, none⟩ = some (vs i)) (hn : n ≤ 1000) (ss : List Tx) (hl : ss.length = n)
    (hsh : ∀ i, i < n → ∃ t y, vs i = .iface t y) (hv : ∀ i (h : i < ss.length) W, Below w.heap.size w W → Calls Tryz.prog 25 #[.agg #[.bool f.plus, .bool f.minus, .bool f.sharp, .bool f.space, .bool f.zero, .int .i64 f.wid, .int .i64 f.prec, .int .i32 f.verb, k], vs i, .int .i64 (dep + 1)] W (Ret W (.string (rs i))))
    (hz : ∀ i, i < n → (nms i).size ≤ 1000000000 ∧ (rs i).size ≤ 1000000000) (hs : ∀ i (h : i < ss.length), ss[i].1 = if namesB f = true then nms i ++ ⟨#[58]⟩ ++ rs i else rs i) :
    Calls Tryz.prog 48 #[.agg #[.bool f.plus, .bool f.minus, .bool f.sharp, .bool f.space, .bool f.zero, .int .i64 f.wid, .int .i64 f.prec, .int .i32 f.verb, k], .iface 99 (.agg #[.int .i64 kd, .string nm, .int .i64 hk, .slice a n c]), .int .i64 dep] w (Ret2 w (groupB f ty ⟨#[123]⟩ ⟨#[125]⟩ (txs ss)) true) := by
  have HGR : Hid (∀ wa W3, Below w.heap.size w wa → W3 = ((((wa.alloc (.cells #[.bool f.plus, .bool f.minus, .bool f.sharp, .bool f.space, .bool f.zero, .int .i64 f.wid, .int .i64 f.prec, .int .i32 f.verb, k] 57)).alloc (.cells #[.int .i64 kd, .string nm, .int .i64 hk, .slice a n c] 99)).alloc (.cells #[.int .i64 dep] 3)).alloc (.cells #[.bool (namesB f)] 4)) →
      Below w.heap.size w W3 ∧ Calls Tryz.prog 80 #[.agg #[.bool f.plus, .bool f.minus, .bool f.sharp, .bool f.space, .bool f.zero, .int .i64 f.wid, .int .i64 f.prec, .int .i32 f.verb, k], .iface 99 (.agg #[.int .i64 kd, .string nm, .int .i64 hk, .slice a n c]), .string ⟨#[123]⟩, .string ⟨#[125]⟩, .func (.func 108) #[] #[.pointer (some ⟨wa.heap.size + 1, 0, none⟩), .pointer (some ⟨wa.heap.size, 0, none⟩), .pointer (some ⟨wa.heap.size + 1 + 1, 0, none⟩), .pointer (some ⟨wa.heap.size + 1 + 1 + 1, 0, none⟩)]] W3 (Ret W3 (.string (groupB f ty ⟨#[123]⟩ ⟨#[125]⟩ (txs ss))))) := by
    refine Lib.hid fun wa W3 hwa hW3 => ?_
    have s1 : (wa.alloc (.cells #[.bool f.plus, .bool f.minus, .bool f.sharp, .bool f.space, .bool f.zero, .int .i64 f.wid, .int .i64 f.prec, .int .i32 f.verb, k] 57)).heap.size = wa.heap.size + 1 := World.size_alloc _ _
    have s2 : ((wa.alloc (.cells #[.bool f.plus, .bool f.minus, .bool f.sharp, .bool f.space, .bool f.zero, .int .i64 f.wid, .int .i64 f.prec, .int .i32 f.verb, k] 57)).alloc (.cells #[.int .i64 kd, .string nm, .int .i64 hk, .slice a n c] 99)).heap.size = wa.heap.size + 1 + 1 := by rw [World.size_alloc, s1]
    have s3 : (((wa.alloc (.cells #[.bool f.plus, .bool f.minus, .bool f.sharp, .bool f.space, .bool f.zero, .int .i64 f.wid, .int .i64 f.prec, .int .i32 f.verb, k] 57)).alloc (.cells #[.int .i64 kd, .string nm, .int .i64 hk, .slice a n c] 99)).alloc (.cells #[.int .i64 dep] 3)).heap.size = wa.heap.size + 1 + 1 + 1 := by rw [World.size_alloc, s2]
    have h0 := heap_alloc_new wa (.cells #[.bool f.plus, .bool f.minus, .bool f.sharp, .bool f.space, .bool f.zero, .int .i64 f.wid, .int .i64 f.prec, .int .i32 f.verb, k] 57)
    have h1 := heap_alloc_new (wa.alloc (.cells #[.bool f.plus, .bool f.minus, .bool f.sharp, .bool f.space, .bool f.zero, .int .i64 f.wid, .int .i64 f.prec, .int .i32 f.verb, k] 57)) (.cells #[.int .i64 kd, .string nm, .int .i64 hk, .slice a n c] 99)
    have h2 := heap_alloc_new ((wa.alloc (.cells #[.bool f.plus, .bool f.minus, .bool f.sharp, .bool f.space, .bool f.zero, .int .i64 f.wid, .int .i64 f.prec, .int .i32 f.verb, k] 57)).alloc (.cells #[.int .i64 kd, .string nm, .int .i64 hk, .slice a n c] 99)) (.cells #[.int .i64 dep] 3)
    rw [s1] at h1
    rw [s2] at h2
    have c2 := Below.new (w := (wa.alloc (.cells #[.bool f.plus, .bool f.minus, .bool f.sharp, .bool f.space, .bool f.zero, .int .i64 f.wid, .int .i64 f.prec, .int .i32 f.verb, k] 57)).alloc (.cells #[.int .i64 kd, .string nm, .int .i64 hk, .slice a n c] 99)) (.cells #[.int .i64 dep] 3)
    have c1 := Below.new (w := wa.alloc (.cells #[.bool f.plus, .bool f.minus, .bool f.sharp, .bool f.space, .bool f.zero, .int .i64 f.wid, .int .i64 f.prec, .int .i32 f.verb, k] 57)) (.cells #[.int .i64 kd, .string nm, .int .i64 hk, .slice a n c] 99)
    have h3 := heap_alloc_new (((wa.alloc (.cells #[.bool f.plus, .bool f.minus, .bool f.sharp, .bool f.space, .bool f.zero, .int .i64 f.wid, .int .i64 f.prec, .int .i32 f.verb, k] 57)).alloc (.cells #[.int .i64 kd, .string nm, .int .i64 hk, .slice a n c] 99)).alloc (.cells #[.int .i64 dep] 3)) (.cells #[.bool (namesB f)] 4)
    rw [s3] at h3
    have c3 := Below.new (w := ((wa.alloc (.cells #[.bool f.plus, .bool f.minus, .bool f.sharp, .bool f.space, .bool f.zero, .int .i64 f.wid, .int .i64 f.prec, .int .i32 f.verb, k] 57)).alloc (.cells #[.int .i64 kd, .string nm, .int .i64 hk, .slice a n c] 99)).alloc (.cells #[.int .i64 dep] 3)) (.cells #[.bool (namesB f)] 4)
    have b3 : W3.heap[wa.heap.size + 1 + 1 + 1]? = some (.cells #[.bool (namesB f)] 4 (0, 0)) := by rw [hW3]; exact h3
    have b2 : W3.heap[wa.heap.size + 1 + 1]? = some (.cells #[.int .i64 dep] 3 (0, 0)) := by rw [hW3]; exact (c3.block _ (by rw [s3]; omega)).trans h2
    have b1 : W3.heap[wa.heap.size + 1]? = some (.cells #[.int .i64 kd, .string nm, .int .i64 hk, .slice a n c] 99 (0, 0)) := by rw [hW3]; exact (c3.block _ (by rw [s3]; omega)).trans ((c2.block _ (by rw [s2]; omega)).trans h1)
    have b0 : W3.heap[wa.heap.size]? = some (.cells #[.bool f.plus, .bool f.minus, .bool f.sharp, .bool f.space, .bool f.zero, .int .i64 f.wid, .int .i64 f.prec, .int .i32 f.verb, k] 57 (0, 0)) := by rw [hW3]; exact (c3.block _ (by rw [s3]; omega)).trans ((c2.block _ (by rw [s2]; omega)).trans ((c1.block _ (by rw [s1]; omega)).trans h0))
    have hb3 : Below w.heap.size w W3 := by rw [hW3]; exact (((hwa.push _).push _).push _).push _
    exact ⟨hb3, group_any f k _ ⟨#[123]⟩ ⟨#[125]⟩ ty _ _ ss W3 (by decide) (by decide) (by omega) ht (fun W hW => hty W (hb3.next hW)) (fields_gives f k kd nm hk a n c bb oo vs dep W3 (wa.heap.size + 1) wa.heap.size (wa.heap.size + 1 + 1) (wa.heap.size + 1 + 1 + 1) nms (namesB f) rs b1 b0 b2 b3 hdp hdp2 ha (fun i hi => cell_below hb3 (hc0 i hi)) (fun i hi => cell_below hb3 (hc i hi)) hn ss hl hsh (fun i h W hW => hv i h W (hb3.next hW)) hz hs) (enters_of Tryz.func108 (by kernel_rfl) rfl)⟩
  have tas82 := as82
  have tas85 := as85
  have tas87 := as87
  have tas90 := as90
  have tas92 := as92
  have tas94 := as94
  have tas95 := as95
  have tas104 := as104
  obtain ⟨r, hr⟩ : ∃ r, groupB f ty ⟨#[123]⟩ ⟨#[125]⟩ (txs ss) = r := ⟨_, rfl⟩
  rw [hr] at HGR ⊢
  clear hr ha hc hc0 hl hn hv hsh hz hs hty
  have HW : Hid (((w.alloc (.cells #[.bool f.plus, .bool f.minus, .bool f.sharp, .bool f.space, .bool f.zero, .int .i64 f.wid, .int .i64 f.prec, .int .i32 f.verb, k] 57)).alloc (.cells #[.int .i64 kd, .string nm, .int .i64 hk, .slice a n c] 99)).heap[w.heap.size]? = some (.cells #[.bool f.plus, .bool f.minus, .bool f.sharp, .bool f.space, .bool f.zero, .int .i64 f.wid, .int .i64 f.prec, .int .i32 f.verb, k] 57 (0, 0))) := Lib.hid (((Below.new _).block _ (by simp)).trans (heap_alloc_new w _))
  have HI : Hid (((w.alloc (.cells #[.bool f.plus, .bool f.minus, .bool f.sharp, .bool f.space, .bool f.zero, .int .i64 f.wid, .int .i64 f.prec, .int .i32 f.verb, k] 57)).alloc (.cells #[.int .i64 kd, .string nm, .int .i64 hk, .slice a n c] 99)).heap[w.heap.size + 1]? = some (.cells #[.int .i64 kd, .string nm, .int .i64 hk, .slice a n c] 99 (0, 0))) := by
    have h := heap_alloc_new (w.alloc (.cells #[.bool f.plus, .bool f.minus, .bool f.sharp, .bool f.space, .bool f.zero, .int .i64 f.wid, .int .i64 f.prec, .int .i32 f.verb, k] 57)) (.cells #[.int .i64 kd, .string nm, .int .i64 hk, .slice a n c] 99)
    rw [World.size_alloc] at h
    exact Lib.hid h
  have HB := Lib.hid ((Below.new (w := w) (.cells #[.bool f.plus, .bool f.minus, .bool f.sharp, .bool f.space, .bool f.zero, .int .i64 f.wid, .int .i64 f.prec, .int .i32 f.verb, k] 57)).push (.cells #[.int .i64 kd, .string nm, .int .i64 hk, .slice a n c] 99))
  go_enter Tryz.func48, Tryz.ntmps48
  go_upto_region 29 with fail
  generalize ((w.alloc (.cells #[.bool f.plus, .bool f.minus, .bool f.sharp, .bool f.space, .bool f.zero, .int .i64 f.wid, .int .i64 f.prec, .int .i32 f.verb, k] 57)).alloc (.cells #[.int .i64 kd, .string nm, .int .i64 hk, .slice a n c] 99)) = W2 at HW HI HB ⊢
  refine late_begin [] (fun _ => True) (fun W => Below W2.heap.size W2 W) (by kernel_rfl) ?_
  have HT0 : Below W2.heap.size W2 W2.drew := (Below.refl _ W2).drew
  generalize W2.drew = W4 at HT0 ⊢
  refine late_take (i := 0) (.agg #[.bool f.plus, .bool f.minus, .bool f.sharp, .bool f.space, .bool f.zero, .int .i64 f.wid, .int .i64 f.prec, .int .i32 f.verb, k]) false rfl (by kernel_rfl) (by kernel_rfl) (by kernel_rfl) (by kernel_rfl) (fun h => by cases h) (fun _ _ _ h => h) (by rfl) (fun W hS hT => ?_) (fun _ => trivial) HT0 (fun h => by cases h) ?_
  · exact exec_load_row 57 _ (by rfl) w.heap.size (by rfl) _ (run_loadVar_row W w.heap.size 57 57 #[.bool f.plus, .bool f.minus, .bool f.sharp, .bool f.space, .bool f.zero, .int .i64 f.wid, .int .i64 f.prec, .int .i32 f.verb, k] (0, 0) _ ((hT.block _ (lt_of_some HW.out)).trans HW.out) Tryz.underlying57 rfl writer9)
  try simp only [Act.put, List.getElem_toArray, List.getElem_cons_zero, List.getElem_cons_succ, List.setIfInBounds_toArray, List.set_cons_zero, List.set_cons_succ]
  refine late_take (i := 1) (.iface 99 (.agg #[.int .i64 kd, .string nm, .int .i64 hk, .slice a n c])) false rfl (by kernel_rfl) (by kernel_rfl) (by kernel_rfl) (by kernel_rfl) (fun h => by cases h) (fun _ _ _ h => h) (by rfl) (fun W hS hT => ?_) (fun _ => trivial) HT0 (fun h => by cases h) ?_
  · go_simp
  try simp only [Act.put, List.getElem_toArray, List.getElem_cons_zero, List.getElem_cons_succ, List.setIfInBounds_toArray, List.set_cons_zero, List.set_cons_succ]
  refine late_take (i := 2) (.agg #[.bool f.plus, .bool f.minus, .bool f.sharp, .bool f.space, .bool f.zero, .int .i64 f.wid, .int .i64 f.prec, .int .i32 f.verb, k]) false rfl (by kernel_rfl) (by kernel_rfl) (by kernel_rfl) (by kernel_rfl) (fun h => by cases h) (fun _ _ _ h => h) (by rfl) (fun W hS hT => ?_) (fun _ => trivial) HT0 (fun h => by cases h) ?_
  · exact exec_load_row 57 _ (by rfl) w.heap.size (by rfl) _ (run_loadVar_row W w.heap.size 57 57 #[.bool f.plus, .bool f.minus, .bool f.sharp, .bool f.space, .bool f.zero, .int .i64 f.wid, .int .i64 f.prec, .int .i32 f.verb, k] (0, 0) _ ((hT.block _ (lt_of_some HW.out)).trans HW.out) Tryz.underlying57 rfl writer9)
  try simp only [Act.put, List.getElem_toArray, List.getElem_cons_zero, List.getElem_cons_succ, List.setIfInBounds_toArray, List.set_cons_zero, List.set_cons_succ]
  refine late_take (i := 3) (.agg #[.int .i64 kd, .string nm, .int .i64 hk, .slice a n c]) false rfl (by kernel_rfl) (by kernel_rfl) (by kernel_rfl) (by kernel_rfl) (fun h => by cases h) (fun _ _ _ h => h) (by rfl) (fun W hS hT => ?_) (fun _ => trivial) HT0 (fun h => by cases h) ?_
  · exact exec_load_row 99 _ (by rfl) (w.heap.size + 1) (by rfl) _ (run_loadVar_row W (w.heap.size + 1) 99 99 #[.int .i64 kd, .string nm, .int .i64 hk, .slice a n c] (0, 0) _ ((hT.block _ (lt_of_some HI.out)).trans HI.out) Tryz.underlying99 rfl struct4)
  try simp only [Act.put, List.getElem_toArray, List.getElem_cons_zero, List.getElem_cons_succ, List.setIfInBounds_toArray, List.set_cons_zero, List.set_cons_succ]
  refine late_take (i := 4) (.int .i64 dep) false rfl (by kernel_rfl) (by kernel_rfl) (by kernel_rfl) (by kernel_rfl) (fun h => by cases h) (fun _ _ _ h => h) (by rfl) (fun W hS hT => ?_) (fun _ => trivial) HT0 (fun h => by cases h) ?_
  · go_simp
  try simp only [Act.put, List.getElem_toArray, List.getElem_cons_zero, List.getElem_cons_succ, List.setIfInBounds_toArray, List.set_cons_zero, List.set_cons_succ]
  refine late_one 5 rfl (by kernel_rfl) (fun K hK => ?_)
  try simp only [List.getElem_toArray, List.getElem_cons_zero, List.getElem_cons_succ]
  rw [if_pos (by rfl)]
  go_simp
  refine (fields_made f k kd nm hk a n c dep _).mono ?_
  rintro e W5 ⟨rfl, hW5⟩
  have HW5 := Lib.hid hW5
  clear hW5
  (try go_simp)
  obtain ⟨hb5, hgr⟩ := HGR.out W4 W5 (HB.out.next HT0) HW5.out
  have hb4 : Below W4.heap.size W4 W5 := by rw [HW5.out]; exact (((Below.new _).push _).push _).push _
  have HT0 := HT0.next hb4
  have HGG := Lib.hid hgr
  have HB5 := Lib.hid hb5
  clear hgr hb4 hb5 HW5 HGR
  refine hK _ _ (fun _ => trivial) HT0 ?_
  clear hK K
  try simp only [Act.put, List.getElem_toArray, List.getElem_cons_zero, List.getElem_cons_succ, List.setIfInBounds_toArray, List.set_cons_zero, List.set_cons_succ]
  refine late_one 6 rfl (by kernel_rfl) (fun K hK => ?_)
  try simp only [List.getElem_toArray, List.getElem_cons_zero, List.getElem_cons_succ]
  rw [if_pos (by rfl)]
  go_simp
  refine HGG.out.mono ?_
  rintro e W6 ⟨rfl, hb6⟩
  (try go_simp)
  have HT0 := HT0.next hb6
  have HB6 := Lib.hid (HB5.out.next hb6)
  clear hb6 HGG HB5
  refine hK _ _ (fun _ => trivial) HT0 ?_
  clear hK K
  try simp only [Act.put, List.getElem_toArray, List.getElem_cons_zero, List.getElem_cons_succ, List.setIfInBounds_toArray, List.set_cons_zero, List.set_cons_succ]
  refine late_take (i := 7) (.string r) false rfl (by kernel_rfl) (by kernel_rfl) (by kernel_rfl) (by kernel_rfl) (fun h => by cases h) (fun _ _ _ h => h) (by rfl) (fun W hS hT => ?_) (fun _ => trivial) HT0 (fun h => by cases h) ?_
  · go_simp
  try simp only [Act.put, List.getElem_toArray, List.getElem_cons_zero, List.getElem_cons_succ, List.setIfInBounds_toArray, List.set_cons_zero, List.set_cons_succ]
  refine late_take (i := 8) (.bool true) false rfl (by kernel_rfl) (by kernel_rfl) (by kernel_rfl) (by kernel_rfl) (fun h => by cases h) (fun _ _ _ h => h) (by rfl) (fun W hS hT => ?_) (fun _ => trivial) HT0 (fun h => by cases h) ?_
  · go_simp
  try simp only [Act.put, List.getElem_toArray, List.getElem_cons_zero, List.getElem_cons_succ, List.setIfInBounds_toArray, List.set_cons_zero, List.set_cons_succ]
  refine late_done (by kernel_rfl) ?_ _
  clear HT0 HW HI HB
  go_wp2_with fail
  refine bodyPost_ret (v := .tuple #[.string r, .bool true]) (by simp [results, Tryz.f48, go_sem]) rfl ?_
  exact ⟨rfl, HB6.out⟩
end Go.Proofs.YtkpfeodffhfejaaGreatDoor
