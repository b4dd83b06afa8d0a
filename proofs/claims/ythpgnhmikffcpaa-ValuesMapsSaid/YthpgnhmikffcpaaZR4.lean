/- The descriptor of a pointer: raw. Condition: the values' numbers are in range. -/
import Derived.Test.YthpgnhmikffcpaaZR3
namespace Go.Proofs.Ythpgnhmikffcpaa
set_option linter.unusedVariables false
set_option linter.unusedSimpArgs false
open Go.RowKit

set_option maxHeartbeats 4000000 in
theorem raw_ptr0 (b : B) (addr : Int) (hr : b.Rng) (ha : U64 addr) (w : World) : Calls Try.prog 45 #[.iface 108 (.agg #[.int .i64 b.kind, .string b.name, .int .i64 b.hook, .int .u64 addr, .nilIface])] w (RawPost w (.great .ptr b addr [] [])) := by
  have HR := Lib.hid hr
  have HA := Lib.hid ha
  clear hr ha
  have t82 := as82
  have t85 := as85
  have t87 := as87
  have t90 := as90
  have t92 := as92
  have t94 := as94
  have t95 := as95
  have t104 := as104
  have t108 := as108
  go_enter Try.func45, Try.ntmps45
  go_wp2_with fail
  refine (base_ptr b addr _ (.inl rfl) _).mono ?_
  rintro e w1 ⟨rfl, hB⟩
  have HB := Lib.hid ((Below.new _).next hB)
  have hbk := (Blk.new w).below hB
  have hsz : w.heap.size < w1.heap.size := by have := hB.size; simp at this; omega
  have rc0 := hbk.c0
  have rc1 := hbk.c1
  have rc2 := hbk.c2
  have rc3 := hbk.c3
  have rc4 := hbk.c4
  have rc5 := hbk.c5
  have rc6 := hbk.c6
  have rc7 := hbk.c7
  have rf0 := hbk.f 0
  have rf1 := hbk.f 1
  have rf2 := hbk.f 2
  have rf3 := hbk.f 3
  have rf4 := hbk.f 4
  have rf5 := hbk.f 5
  have rf6 := hbk.f 6
  have rf7 := hbk.f 7
  clear hB
  go_upto_region 46 with (fail)
  have hq : Blk (((w1.alloc (.cells #[.int .i64 b.kind, .string b.name, .int .i64 b.hook] 71)).alloc (.cells #[.int .i64 b.kind, .string b.name, .int .u64 addr, .int .u64 0, .string ⟨#[]⟩, .slice none 0 0, .slice none 0 0, .int .i64 b.hook] 26)).alloc (.cells #[.int .i64 b.kind, .string b.name, .int .i64 b.hook, .int .u64 addr, .nilIface] 108)) (w1.heap.size + 1) (.int .i64 b.kind) (.string b.name) (.int .u64 addr) (.int .u64 0) (.string ⟨#[]⟩) (.slice none 0 0) (.slice none 0 0) (.int .i64 b.hook) := by
    have := (Blk.of (heap_alloc_new (w1.alloc (.cells #[.int .i64 b.kind, .string b.name, .int .i64 b.hook] 71)) (.cells #[.int .i64 b.kind, .string b.name, .int .u64 addr, .int .u64 0, .string ⟨#[]⟩, .slice none 0 0, .slice none 0 0, .int .i64 b.hook] 26))).below (Below.new (.cells #[.int .i64 b.kind, .string b.name, .int .i64 b.hook, .int .u64 addr, .nilIface] 108))
    simpa using this
  have hb2 := ((hbk.below (Below.new (.cells #[.int .i64 b.kind, .string b.name, .int .i64 b.hook] 71))).below (Below.new (.cells #[.int .i64 b.kind, .string b.name, .int .u64 addr, .int .u64 0, .string ⟨#[]⟩, .slice none 0 0, .slice none 0 0, .int .i64 b.hook] 26))).below (Below.new (.cells #[.int .i64 b.kind, .string b.name, .int .i64 b.hook, .int .u64 addr, .nilIface] 108))
  have HB2 := Lib.hid (((HB.out.push (.cells #[.int .i64 b.kind, .string b.name, .int .i64 b.hook] 71)).push (.cells #[.int .i64 b.kind, .string b.name, .int .u64 addr, .int .u64 0, .string ⟨#[]⟩, .slice none 0 0, .slice none 0 0, .int .i64 b.hook] 26)).push (.cells #[.int .i64 b.kind, .string b.name, .int .i64 b.hook, .int .u64 addr, .nilIface] 108))
  generalize ((w1.alloc (.cells #[.int .i64 b.kind, .string b.name, .int .i64 b.hook] 71)).alloc (.cells #[.int .i64 b.kind, .string b.name, .int .u64 addr, .int .u64 0, .string ⟨#[]⟩, .slice none 0 0, .slice none 0 0, .int .i64 b.hook] 26)).alloc (.cells #[.int .i64 b.kind, .string b.name, .int .i64 b.hook, .int .u64 addr, .nilIface] 108) = W at hq hb2 HB2 ⊢
  clear rc0 rc1 rc2 rc3 rc4 rc5 rc6 rc7 rf0 rf1 rf2 rf3 rf4 rf5 rf6 rf7
  have rc0 := hb2.c0
  have rc1 := hb2.c1
  have rc2 := hb2.c2
  have rc3 := hb2.c3
  have rc4 := hb2.c4
  have rc5 := hb2.c5
  have rc6 := hb2.c6
  have rc7 := hb2.c7
  have rf0 := hb2.f 0
  have rf1 := hb2.f 1
  have rf2 := hb2.f 2
  have rf3 := hb2.f 3
  have rf4 := hb2.f 4
  have rf5 := hb2.f 5
  have rf6 := hb2.f 6
  have rf7 := hb2.f 7
  have sc0 := hq.c0
  have sc1 := hq.c1
  have sc2 := hq.c2
  have sc3 := hq.c3
  have sc4 := hq.c4
  have sc5 := hq.c5
  have sc6 := hq.c6
  have sc7 := hq.c7
  have sf0 := hq.f 0
  have sf1 := hq.f 1
  have sf2 := hq.f 2
  have sf3 := hq.f 3
  have sf4 := hq.f 4
  have sf5 := hq.f 5
  have sf6 := hq.f 6
  have sf7 := hq.f 7
  go_wp2_with fail
  change bodyPost Try.prog Try.f45 _ _ _ (st8 W w.heap.size (.int .i64 b.kind) (.string b.name) (.int .u64 addr) (.int .u64 0) (.string ⟨#[]⟩) (.slice none 0 0) (.slice none 0 0) (.int .i64 b.hook))
  have hb3 := Blk.put W w.heap.size hb2 (.int .i64 b.kind) (.string b.name) (.int .u64 addr) (.int .u64 0) (.string ⟨#[]⟩) (.slice none 0 0) (.slice none 0 0) (.int .i64 b.hook)
  have HBW := Lib.hid (st8_below HB2.out (Nat.le_refl _) (.int .i64 b.kind) (.string b.name) (.int .u64 addr) (.int .u64 0) (.string ⟨#[]⟩) (.slice none 0 0) (.slice none 0 0) (.int .i64 b.hook))
  have HKP := Lib.hid (fun k (hk : k ≠ w.heap.size) => st8_other (w := W) (b := w.heap.size) (u0 := .int .i64 b.kind) (u1 := .string b.name) (u2 := .int .u64 addr) (u3 := .int .u64 0) (u4 := .string ⟨#[]⟩) (u5 := .slice none 0 0) (u6 := .slice none 0 0) (u7 := .int .i64 b.hook) hk)
  generalize st8 W w.heap.size (.int .i64 b.kind) (.string b.name) (.int .u64 addr) (.int .u64 0) (.string ⟨#[]⟩) (.slice none 0 0) (.slice none 0 0) (.int .i64 b.hook) = W9 at hb3 HBW HKP ⊢
  clear rc0 rc1 rc2 rc3 rc4 rc5 rc6 rc7 rf0 rf1 rf2 rf3 rf4 rf5 rf6 rf7 sc0 sc1 sc2 sc3 sc4 sc5 sc6 sc7
  have zc0 := hb3.c0
  have zc1 := hb3.c1
  have zc2 := hb3.c2
  have zc3 := hb3.c3
  have zc4 := hb3.c4
  have zc5 := hb3.c5
  have zc6 := hb3.c6
  have zc7 := hb3.c7
  refine bodyPost_ret (v := .agg #[.int .i64 b.kind, .string b.name, .int .u64 addr, .int .u64 0, .string ⟨#[]⟩, .slice none 0 0, .slice none 0 0, .int .i64 b.hook]) (by simp [results, Try.f45, go_sem, zc0, zc1, zc2, zc3, zc4, zc5, zc6, zc7]) rfl ?_
  exact ⟨HBW.out, _, rfl, by simp only [rawV, rawL]; exact .bare HR.out.1 HA.out U64_0 HR.out.2.1 HR.out.2.2 cap_0⟩

set_option maxHeartbeats 8000000 in
theorem raw_ptr1 (b : B) (addr : Int) (s : TypeId) (z : Value) (x : V) (w : World) (hx : IsV w (.iface s z) x) (hr : b.Rng) (ha : U64 addr) (ih : ∀ (w : World) (v : Value), IsV w v x → Calls Try.prog 45 #[v] w (RawPost w x)) :
    Calls Try.prog 45 #[.iface 108 (.agg #[.int .i64 b.kind, .string b.name, .int .i64 b.hook, .int .u64 addr, .iface s z])] w (RawPost w (.great .ptr b addr [] [x])) := by
  have t82 := as82
  have t85 := as85
  have t87 := as87
  have t90 := as90
  have t92 := as92
  have t94 := as94
  have t95 := as95
  have t104 := as104
  have t108 := as108
  have HX := Lib.hid hx
  have IH := Lib.hid ih
  have HR := Lib.hid hr
  have HA := Lib.hid ha
  clear hx ih hr ha
  go_enter Try.func45, Try.ntmps45
  go_wp2_with fail
  refine (base_ptr b addr _ (.inr ⟨_, _, rfl⟩) _).mono ?_
  rintro e w1 ⟨rfl, hB⟩
  have HB := Lib.hid ((Below.new _).next hB)
  have hbk := (Blk.new w).below hB
  have hsz : w.heap.size < w1.heap.size := by have := hB.size; simp at this; omega
  clear hB
  go_wp2_with fail
  have HIH : Hid (∀ W, Below w.heap.size w W → Calls Try.prog 45 #[.iface s z] W (RawOpen W x)) := fun W hW => (IH.out W _ (HX.out.later hW)).mono fun e w' h => raw_open h
  refine (HIH.out _ (((HB.out.push _).push _).push _)).mono ?_
  rintro e w3 ⟨hb3, k0, ty, b0, i0, tx, a5, n5, c5, a6, n6, c6, h0, rfl, hd3⟩
  have hq : Blk (((w1.alloc (.cells #[.int .i64 b.kind, .string b.name, .int .i64 b.hook] 71)).alloc (.cells #[.int .i64 b.kind, .string b.name, .int .u64 addr, .int .u64 0, .string ⟨#[]⟩, .slice none 0 0, .slice none 0 0, .int .i64 b.hook] 26)).alloc (.cells #[.int .i64 b.kind, .string b.name, .int .i64 b.hook, .int .u64 addr, .iface s z] 108)) (w1.heap.size + 1) (.int .i64 b.kind) (.string b.name) (.int .u64 addr) (.int .u64 0) (.string ⟨#[]⟩) (.slice none 0 0) (.slice none 0 0) (.int .i64 b.hook) := by
    have := (Blk.of (heap_alloc_new (w1.alloc (.cells #[.int .i64 b.kind, .string b.name, .int .i64 b.hook] 71)) (.cells #[.int .i64 b.kind, .string b.name, .int .u64 addr, .int .u64 0, .string ⟨#[]⟩, .slice none 0 0, .slice none 0 0, .int .i64 b.hook] 26))).below (Below.new (.cells #[.int .i64 b.kind, .string b.name, .int .i64 b.hook, .int .u64 addr, .iface s z] 108))
    simpa using this
  have hq3 := hq.below hb3
  have hb2 := (((hbk.below (Below.new (.cells #[.int .i64 b.kind, .string b.name, .int .i64 b.hook] 71))).below (Below.new (.cells #[.int .i64 b.kind, .string b.name, .int .u64 addr, .int .u64 0, .string ⟨#[]⟩, .slice none 0 0, .slice none 0 0, .int .i64 b.hook] 26))).below (Below.new (.cells #[.int .i64 b.kind, .string b.name, .int .i64 b.hook, .int .u64 addr, .iface s z] 108))).below hb3
  have HB3 := Lib.hid ((((HB.out.push (.cells #[.int .i64 b.kind, .string b.name, .int .i64 b.hook] 71)).push (.cells #[.int .i64 b.kind, .string b.name, .int .u64 addr, .int .u64 0, .string ⟨#[]⟩, .slice none 0 0, .slice none 0 0, .int .i64 b.hook] 26)).push (.cells #[.int .i64 b.kind, .string b.name, .int .i64 b.hook, .int .u64 addr, .iface s z] 108)).next hb3)
  have hz3 : w1.heap.size + 2 < w3.heap.size := by have := hb3.size; simp at this; omega
  have hz4 : w1.heap.size + 1 < w3.heap.size := by omega
  have hz5 : w.heap.size < w3.heap.size := by omega
  have hz6 : w1.heap.size < w3.heap.size := by omega
  have HD3 := Lib.hid hd3
  have HBS := Lib.hid hb2
  have HQS := Lib.hid hq3
  have HZ := Lib.hid hb3.size
  clear hb3 hq hd3 hbk
  have rc0 := hb2.c0
  have rc1 := hb2.c1
  have rc2 := hb2.c2
  have rc3 := hb2.c3
  have rc4 := hb2.c4
  have rc5 := hb2.c5
  have rc6 := hb2.c6
  have rc7 := hb2.c7
  have rf0 := hb2.f 0
  have rf1 := hb2.f 1
  have rf2 := hb2.f 2
  have rf3 := hb2.f 3
  have rf4 := hb2.f 4
  have rf5 := hb2.f 5
  have rf6 := hb2.f 6
  have rf7 := hb2.f 7
  have sc0 := hq3.c0
  have sc1 := hq3.c1
  have sc2 := hq3.c2
  have sc3 := hq3.c3
  have sc4 := hq3.c4
  have sc5 := hq3.c5
  have sc6 := hq3.c6
  have sc7 := hq3.c7
  have sf0 := hq3.f 0
  have sf1 := hq3.f 1
  have sf2 := hq3.f 2
  have sf3 := hq3.f 3
  have sf4 := hq3.f 4
  have sf5 := hq3.f 5
  have sf6 := hq3.f 6
  have sf7 := hq3.f 7
  go_upto_region 46 with (fail)
  have hqW := (hq3.put6 (.slice (some ⟨w3.heap.size, 0, none⟩) 1 1)).below (Below.new (.cells #[.int .i64 k0, .string ty, .int .u64 b0, .int .u64 i0, .string tx, .slice a5 n5 c5, .slice a6 n6 c6, .int .i64 h0] 26))
  have hbW2 := (hb2.keep (w' := w3.setCell ⟨w1.heap.size + 1, 6, none⟩ (.slice (some ⟨w3.heap.size, 0, none⟩) 1 1)) (Below.heap_setCell _ _ _ _ (by show w.heap.size ≠ w1.heap.size + 1; omega))).below (Below.new (.cells #[.int .i64 k0, .string ty, .int .u64 b0, .int .u64 i0, .string tx, .slice a5 n5 c5, .slice a6 n6 c6, .int .i64 h0] 26))
  have HBW2 := Lib.hid ((HB3.out.setCell (p := ⟨w1.heap.size + 1, 6, none⟩) (by show w.heap.size ≤ w1.heap.size + 1; omega) (.slice (some ⟨w3.heap.size, 0, none⟩) 1 1)).push (.cells #[.int .i64 k0, .string ty, .int .u64 b0, .int .u64 i0, .string tx, .slice a5 n5 c5, .slice a6 n6 c6, .int .i64 h0] 26))
  have HROW : Hid (((w3.setCell ⟨w1.heap.size + 1, 6, none⟩ (.slice (some ⟨w3.heap.size, 0, none⟩) 1 1)).alloc (.cells #[.int .i64 k0, .string ty, .int .u64 b0, .int .u64 i0, .string tx, .slice a5 n5 c5, .slice a6 n6 c6, .int .i64 h0] 26)).heap[w3.heap.size]? = some (.cells #[.int .i64 k0, .string ty, .int .u64 b0, .int .u64 i0, .string tx, .slice a5 n5 c5, .slice a6 n6 c6, .int .i64 h0] 26 (0, 0))) := by
    show _ = _
    have := heap_alloc_new (w3.setCell ⟨w1.heap.size + 1, 6, none⟩ (.slice (some ⟨w3.heap.size, 0, none⟩) 1 1)) (.cells #[.int .i64 k0, .string ty, .int .u64 b0, .int .u64 i0, .string tx, .slice a5 n5 c5, .slice a6 n6 c6, .int .i64 h0] 26)
    simpa using this
  have HKEEP : Hid (∀ k, k < w3.heap.size → k ≠ w1.heap.size + 1 → ((w3.setCell ⟨w1.heap.size + 1, 6, none⟩ (.slice (some ⟨w3.heap.size, 0, none⟩) 1 1)).alloc (.cells #[.int .i64 k0, .string ty, .int .u64 b0, .int .u64 i0, .string tx, .slice a5 n5 c5, .slice a6 n6 c6, .int .i64 h0] 26)).heap[k]? = w3.heap[k]?) := by
    intro k hk hk2
    rw [Below.heap_alloc _ _ _ (by simpa using hk)]
    exact Below.heap_setCell _ _ _ _ (by show k ≠ w1.heap.size + 1; exact hk2)
  clear hb2 hq3 rc0 rc1 rc2 rc3 rc4 rc5 rc6 rc7 rf0 rf1 rf2 rf3 rf4 rf5 rf6 rf7 sc0 sc1 sc2 sc3 sc4 sc5 sc6 sc7 sf0 sf1 sf2 sf3 sf4 sf5 sf6 sf7
  generalize (w3.setCell ⟨w1.heap.size + 1, 6, none⟩ (.slice (some ⟨w3.heap.size, 0, none⟩) 1 1)).alloc (.cells #[.int .i64 k0, .string ty, .int .u64 b0, .int .u64 i0, .string tx, .slice a5 n5 c5, .slice a6 n6 c6, .int .i64 h0] 26) = W at hqW hbW2 HBW2 HROW HKEEP ⊢
  have rc0 := hbW2.c0
  have rc1 := hbW2.c1
  have rc2 := hbW2.c2
  have rc3 := hbW2.c3
  have rc4 := hbW2.c4
  have rc5 := hbW2.c5
  have rc6 := hbW2.c6
  have rc7 := hbW2.c7
  have rf0 := hbW2.f 0
  have rf1 := hbW2.f 1
  have rf2 := hbW2.f 2
  have rf3 := hbW2.f 3
  have rf4 := hbW2.f 4
  have rf5 := hbW2.f 5
  have rf6 := hbW2.f 6
  have rf7 := hbW2.f 7
  have sc0 := hqW.c0
  have sc1 := hqW.c1
  have sc2 := hqW.c2
  have sc3 := hqW.c3
  have sc4 := hqW.c4
  have sc5 := hqW.c5
  have sc6 := hqW.c6
  have sc7 := hqW.c7
  have sf0 := hqW.f 0
  have sf1 := hqW.f 1
  have sf2 := hqW.f 2
  have sf3 := hqW.f 3
  have sf4 := hqW.f 4
  have sf5 := hqW.f 5
  have sf6 := hqW.f 6
  have sf7 := hqW.f 7
  go_wp2_with fail
  change bodyPost Try.prog Try.f45 _ _ _ (st8 W w.heap.size (.int .i64 b.kind) (.string b.name) (.int .u64 addr) (.int .u64 0) (.string ⟨#[]⟩) (.slice none 0 0) (.slice (some ⟨w3.heap.size, 0, none⟩) 1 1) (.int .i64 b.hook))
  have hb3 := Blk.put W w.heap.size hbW2 (.int .i64 b.kind) (.string b.name) (.int .u64 addr) (.int .u64 0) (.string ⟨#[]⟩) (.slice none 0 0) (.slice (some ⟨w3.heap.size, 0, none⟩) 1 1) (.int .i64 b.hook)
  have HBW := Lib.hid (st8_below HBW2.out (Nat.le_refl _) (.int .i64 b.kind) (.string b.name) (.int .u64 addr) (.int .u64 0) (.string ⟨#[]⟩) (.slice none 0 0) (.slice (some ⟨w3.heap.size, 0, none⟩) 1 1) (.int .i64 b.hook))
  have HKP := Lib.hid (fun k (hk : k ≠ w.heap.size) => st8_other (w := W) (b := w.heap.size) (u0 := .int .i64 b.kind) (u1 := .string b.name) (u2 := .int .u64 addr) (u3 := .int .u64 0) (u4 := .string ⟨#[]⟩) (u5 := .slice none 0 0) (u6 := .slice (some ⟨w3.heap.size, 0, none⟩) 1 1) (u7 := .int .i64 b.hook) hk)
  generalize st8 W w.heap.size (.int .i64 b.kind) (.string b.name) (.int .u64 addr) (.int .u64 0) (.string ⟨#[]⟩) (.slice none 0 0) (.slice (some ⟨w3.heap.size, 0, none⟩) 1 1) (.int .i64 b.hook) = W9 at hb3 HBW HKP ⊢
  clear rc0 rc1 rc2 rc3 rc4 rc5 rc6 rc7 rf0 rf1 rf2 rf3 rf4 rf5 rf6 rf7 sc0 sc1 sc2 sc3 sc4 sc5 sc6 sc7
  have zc0 := hb3.c0
  have zc1 := hb3.c1
  have zc2 := hb3.c2
  have zc3 := hb3.c3
  have zc4 := hb3.c4
  have zc5 := hb3.c5
  have zc6 := hb3.c6
  have zc7 := hb3.c7
  refine bodyPost_ret (v := .agg #[.int .i64 b.kind, .string b.name, .int .u64 addr, .int .u64 0, .string ⟨#[]⟩, .slice none 0 0, .slice (some ⟨w3.heap.size, 0, none⟩) 1 1, .int .i64 b.hook]) (by simp [results, Try.f45, go_sem, zc0, zc1, zc2, zc3, zc4, zc5, zc6, zc7]) rfl ?_
  have hrow : W9.heap[w3.heap.size]? = W.heap[w3.heap.size]? := HKP.out _ (by omega)
  have hbl := Blk.of (hrow.trans HROW.out)
  have hrd : rowD W9 w3.heap.size (0 + 0 * 8) = .agg #[.int .i64 k0, .string ty, .int .u64 b0, .int .u64 i0, .string tx, .slice a5 n5 c5, .slice a6 n6 c6, .int .i64 h0] := by simp [rowD, hbl.c0, hbl.c1, hbl.c2, hbl.c3, hbl.c4, hbl.c5, hbl.c6, hbl.c7]
  refine ⟨HBW.out, _, rfl, IsDF.mk (w.heap.size ≤ ·) (rawV (.great .ptr b addr [] [x])) none 0 (some ⟨w3.heap.size, 0, none⟩) 1 0 0 w3.heap.size 0 (fun i k => i = 0 ∧ w1.heap.size + 2 < k ∧ k < w3.heap.size) HR.out.1 HA.out U64_0 HR.out.2.1 HR.out.2.2 cap_0 (Nat.le_refl _) (by simp [rawV, D.names]) (fun h => by simp [rawV, D.names] at h) (fun i h => by simp [rawV, D.names] at h) (fun x h => by simp [rawV, D.names] at h) ?_ ?_ ?_ ?_ ?_ ?_ ?_ (fun _ h => by simp [rawV, D.names] at h)⟩
  · simp [rawV, rawL, D.parts]
  · simp [rawV, rawL, D.parts, cap47]
  · intro h; exact ⟨rfl, by omega⟩
  · intro i h j hj; exact hbl.f _
  · intro i h
    simp only [rawV, rawL, D.parts, List.length_singleton] at h
    obtain rfl : i = 0 := by omega
    rw [hrd]
    simp only [rawV, rawL, D.parts, List.getElem_cons_zero]
    refine (HD3.out.clip.mono fun k hk => ?_).keep fun k hk hk' => ?_
    · have := hk.1; simp at this; exact ⟨trivial, by omega, hk.2⟩
    · rw [HKP.out k (by omega), HKEEP.out k hk'.2.2 (by omega)]
  · intro i h k hk; exact ⟨by omega, by omega, fun h => by simp [rawV, D.names] at h⟩
  · intro i j k hij h1 h2; omega
end Go.Proofs.Ythpgnhmikffcpaa
