/- The descriptor of a value without parts: raw. No condition but that numbers are in range. -/
import Derived.Test.YthpgnhmikffcpaaZR0
import Derived.RegionTactic
import Derived.Deep.DeepCutAuto
namespace Go.Proofs.Ythpgnhmikffcpaa
set_option linter.unusedVariables false
set_option linter.unusedSimpArgs false
open Go.RowKit

theorem U64_0 : U64 0 := ⟨by decide, by decide⟩
theorem U64_1 : U64 1 := ⟨by decide, by decide⟩
theorem cap_0 : (⟨#[]⟩ : ByteArray).size ≤ cap47 := by unfold cap47; decide
theorem U64_of (x : Int) : U64 (u64of x) := by unfold u64of; constructor <;> omega
theorem I64_0 : I64 0 := ⟨by decide, by decide⟩
/-- The zero descriptor's block. -/
def zeroBlk : Obj := .cells #[.int .i64 0, .string ⟨#[]⟩, .int .u64 0, .int .u64 0, .string ⟨#[]⟩, .slice none 0 0, .slice none 0 0, .int .i64 0] 26
/-- A block of eight cells that may be written. -/
structure Blk (w : World) (b : Nat) (v0 v1 v2 v3 v4 v5 v6 v7 : Value) : Prop where
  c0 : w.cell? ⟨b, 0, none⟩ = some v0
  c1 : w.cell? ⟨b, 1, none⟩ = some v1
  c2 : w.cell? ⟨b, 2, none⟩ = some v2
  c3 : w.cell? ⟨b, 3, none⟩ = some v3
  c4 : w.cell? ⟨b, 4, none⟩ = some v4
  c5 : w.cell? ⟨b, 5, none⟩ = some v5
  c6 : w.cell? ⟨b, 6, none⟩ = some v6
  c7 : w.cell? ⟨b, 7, none⟩ = some v7
  f : ∀ j, w.frozen? ⟨b, j, none⟩ = false
theorem Blk.of {w : World} {b : Nat} {v0 v1 v2 v3 v4 v5 v6 v7 : Value} {t : TypeId} (h : w.heap[b]? = some (.cells #[v0, v1, v2, v3, v4, v5, v6, v7] t (0, 0))) : Blk w b v0 v1 v2 v3 v4 v5 v6 v7 := by
  constructor <;> simp [World.cell?, World.frozen?, h]
theorem Blk.below {w w' : World} {b : Nat} {v0 v1 v2 v3 v4 v5 v6 v7 : Value} (hb : Below w.heap.size w w') (h : Blk w b v0 v1 v2 v3 v4 v5 v6 v7) : Blk w' b v0 v1 v2 v3 v4 v5 v6 v7 :=
  have hlt := World.block_lt_of_cell? w _ h.c0
  ⟨cell_below hb h.c0, cell_below hb h.c1, cell_below hb h.c2, cell_below hb h.c3, cell_below hb h.c4, cell_below hb h.c5, cell_below hb h.c6, cell_below hb h.c7, fun j => by rw [hb.frozen (p := ⟨b, j, none⟩) hlt]; exact h.f j⟩
/-- Eight stores. -/
def st8 (w : World) (b : Nat) (u0 u1 u2 u3 u4 u5 u6 u7 : Value) : World := (((((((w.setCell ⟨b, 0, none⟩ u0).setCell ⟨b, 1, none⟩ u1).setCell ⟨b, 2, none⟩ u2).setCell ⟨b, 3, none⟩ u3).setCell ⟨b, 4, none⟩ u4).setCell ⟨b, 5, none⟩ u5).setCell ⟨b, 6, none⟩ u6).setCell ⟨b, 7, none⟩ u7
theorem st8_below {B : Nat} {a w : World} (h : Below B a w) {b : Nat} (hb : B ≤ b) (u0 u1 u2 u3 u4 u5 u6 u7 : Value) : Below B a (st8 w b u0 u1 u2 u3 u4 u5 u6 u7) :=
  (((((((h.setCell (p := ⟨b, 0, none⟩) hb _).setCell (p := ⟨b, 1, none⟩) hb _).setCell (p := ⟨b, 2, none⟩) hb _).setCell (p := ⟨b, 3, none⟩) hb _).setCell (p := ⟨b, 4, none⟩) hb _).setCell (p := ⟨b, 5, none⟩) hb _).setCell (p := ⟨b, 6, none⟩) hb _).setCell (p := ⟨b, 7, none⟩) hb _
theorem st8_other {w : World} {b : Nat} {u0 u1 u2 u3 u4 u5 u6 u7 : Value} {k : Nat} (h : k ≠ b) : (st8 w b u0 u1 u2 u3 u4 u5 u6 u7).heap[k]? = w.heap[k]? := by
  unfold st8
  repeat rw [Below.heap_setCell _ _ _ _ h]
theorem st8_size {w : World} {b : Nat} {u0 u1 u2 u3 u4 u5 u6 u7 : Value} : (st8 w b u0 u1 u2 u3 u4 u5 u6 u7).heap.size = w.heap.size := by simp [st8]
theorem put_same {w : World} {b i : Nat} {u v : Value} (h : w.cell? ⟨b, i, none⟩ = some v) : (w.setCell ⟨b, i, none⟩ u).cell? ⟨b, i, none⟩ = some u := World.cell?_setCell_same' w _ _ (by rw [h]; rfl)
theorem put_other {w : World} {b i j : Nat} {u v : Value} (h : w.cell? ⟨b, j, none⟩ = some v) (hij : j ≠ i) : (w.setCell ⟨b, i, none⟩ u).cell? ⟨b, j, none⟩ = some v := by
  rw [World.cell?_setCell_other _ _ _ _ (by intro e; injection e; omega)]; exact h
theorem Blk.put (w : World) (b : Nat) {v0 v1 v2 v3 v4 v5 v6 v7 : Value} (h : Blk w b v0 v1 v2 v3 v4 v5 v6 v7) (u0 u1 u2 u3 u4 u5 u6 u7 : Value) : Blk (st8 w b u0 u1 u2 u3 u4 u5 u6 u7) b u0 u1 u2 u3 u4 u5 u6 u7 := by
  have a0 := put_same (u := u0) h.c0
  have a1 := put_other (i := 0) (u := u0) h.c1 (by decide)
  have a2 := put_other (i := 0) (u := u0) h.c2 (by decide)
  have a3 := put_other (i := 0) (u := u0) h.c3 (by decide)
  have a4 := put_other (i := 0) (u := u0) h.c4 (by decide)
  have a5 := put_other (i := 0) (u := u0) h.c5 (by decide)
  have a6 := put_other (i := 0) (u := u0) h.c6 (by decide)
  have a7 := put_other (i := 0) (u := u0) h.c7 (by decide)
  have b0 := put_other (i := 1) (u := u1) a0 (by decide)
  have b1 := put_same (u := u1) a1
  have b2 := put_other (i := 1) (u := u1) a2 (by decide)
  have b3 := put_other (i := 1) (u := u1) a3 (by decide)
  have b4 := put_other (i := 1) (u := u1) a4 (by decide)
  have b5 := put_other (i := 1) (u := u1) a5 (by decide)
  have b6 := put_other (i := 1) (u := u1) a6 (by decide)
  have b7 := put_other (i := 1) (u := u1) a7 (by decide)
  have c0 := put_other (i := 2) (u := u2) b0 (by decide)
  have c1 := put_other (i := 2) (u := u2) b1 (by decide)
  have c2 := put_same (u := u2) b2
  have c3 := put_other (i := 2) (u := u2) b3 (by decide)
  have c4 := put_other (i := 2) (u := u2) b4 (by decide)
  have c5 := put_other (i := 2) (u := u2) b5 (by decide)
  have c6 := put_other (i := 2) (u := u2) b6 (by decide)
  have c7 := put_other (i := 2) (u := u2) b7 (by decide)
  have d0 := put_other (i := 3) (u := u3) c0 (by decide)
  have d1 := put_other (i := 3) (u := u3) c1 (by decide)
  have d2 := put_other (i := 3) (u := u3) c2 (by decide)
  have d3 := put_same (u := u3) c3
  have d4 := put_other (i := 3) (u := u3) c4 (by decide)
  have d5 := put_other (i := 3) (u := u3) c5 (by decide)
  have d6 := put_other (i := 3) (u := u3) c6 (by decide)
  have d7 := put_other (i := 3) (u := u3) c7 (by decide)
  have e0 := put_other (i := 4) (u := u4) d0 (by decide)
  have e1 := put_other (i := 4) (u := u4) d1 (by decide)
  have e2 := put_other (i := 4) (u := u4) d2 (by decide)
  have e3 := put_other (i := 4) (u := u4) d3 (by decide)
  have e4 := put_same (u := u4) d4
  have e5 := put_other (i := 4) (u := u4) d5 (by decide)
  have e6 := put_other (i := 4) (u := u4) d6 (by decide)
  have e7 := put_other (i := 4) (u := u4) d7 (by decide)
  have f0 := put_other (i := 5) (u := u5) e0 (by decide)
  have f1 := put_other (i := 5) (u := u5) e1 (by decide)
  have f2 := put_other (i := 5) (u := u5) e2 (by decide)
  have f3 := put_other (i := 5) (u := u5) e3 (by decide)
  have f4 := put_other (i := 5) (u := u5) e4 (by decide)
  have f5 := put_same (u := u5) e5
  have f6 := put_other (i := 5) (u := u5) e6 (by decide)
  have f7 := put_other (i := 5) (u := u5) e7 (by decide)
  have g0 := put_other (i := 6) (u := u6) f0 (by decide)
  have g1 := put_other (i := 6) (u := u6) f1 (by decide)
  have g2 := put_other (i := 6) (u := u6) f2 (by decide)
  have g3 := put_other (i := 6) (u := u6) f3 (by decide)
  have g4 := put_other (i := 6) (u := u6) f4 (by decide)
  have g5 := put_other (i := 6) (u := u6) f5 (by decide)
  have g6 := put_same (u := u6) f6
  have g7 := put_other (i := 6) (u := u6) f7 (by decide)
  have z0 := put_other (i := 7) (u := u7) g0 (by decide)
  have z1 := put_other (i := 7) (u := u7) g1 (by decide)
  have z2 := put_other (i := 7) (u := u7) g2 (by decide)
  have z3 := put_other (i := 7) (u := u7) g3 (by decide)
  have z4 := put_other (i := 7) (u := u7) g4 (by decide)
  have z5 := put_other (i := 7) (u := u7) g5 (by decide)
  have z6 := put_other (i := 7) (u := u7) g6 (by decide)
  have z7 := put_same (u := u7) g7
  exact ⟨z0, z1, z2, z3, z4, z5, z6, z7, fun j => by simpa [st8] using h.f j⟩
theorem Blk.drew {w : World} {b : Nat} {v0 v1 v2 v3 v4 v5 v6 v7 : Value} (h : Blk w b v0 v1 v2 v3 v4 v5 v6 v7) : Blk w.drew b v0 v1 v2 v3 v4 v5 v6 v7 := ⟨h.c0, h.c1, h.c2, h.c3, h.c4, h.c5, h.c6, h.c7, h.f⟩
theorem Blk.new (w : World) : Blk (w.alloc zeroBlk) w.heap.size (.int .i64 0) (.string ⟨#[]⟩) (.int .u64 0) (.int .u64 0) (.string ⟨#[]⟩) (.slice none 0 0) (.slice none 0 0) (.int .i64 0) := Blk.of (heap_alloc_new w _)

set_option maxHeartbeats 4000000 in
theorem raw_nil (w : World) (v : Value) (h : IsV w v .nil) : Calls Try.prog 45 #[v] w (RawPost w .nil) := by
  have HV := Lib.hid h
  have hs := h.shape
  clear h
  rcases hs with rfl | ⟨t, y, rfl⟩
  all_goals
    go_enter Try.func45, Try.ntmps45
    go_wp2_with fail
    refine (base_any (HV.out.later (Below.new _))).mono ?_
    rintro e w1 ⟨rfl, hB⟩
    have HB := Lib.hid ((Below.new _).next hB)
    have hbk := (Blk.new w).below hB
    have hsz : w.heap.size < w1.heap.size := by have := hB.size; simp at this; omega
    have rc0 := hbk.c0
    have rc1 := hbk.c1
    have rc2 := hbk.c2
    have rc3 := hbk.c3
    have rc4 := hbk.c4
    have rc5 := hbk.c5
    have rc6 := hbk.c6
    have rc7 := hbk.c7
    have rf0 := hbk.f 0
    have rf1 := hbk.f 1
    have rf2 := hbk.f 2
    have rf3 := hbk.f 3
    have rf4 := hbk.f 4
    have rf5 := hbk.f 5
    have rf6 := hbk.f 6
    have rf7 := hbk.f 7
    clear hB
    simp only [V.base, V.isNil]
    go_wp2_with fail
    change bodyPost Try.prog Try.f45 _ _ _ ((st8 w1 w.heap.size (.int .i64 0) (.string ⟨#[]⟩) (.int .u64 0) (.int .u64 0) (.string ⟨#[]⟩) (.slice none 0 0) (.slice none 0 0) (.int .i64 0)).alloc _)
    have hb2 := (Blk.put w1 w.heap.size hbk (.int .i64 0) (.string ⟨#[]⟩) (.int .u64 0) (.int .u64 0) (.string ⟨#[]⟩) (.slice none 0 0) (.slice none 0 0) (.int .i64 0)).below (Below.new (.cells #[.int .i64 0, .string ⟨#[]⟩, .int .i64 0] 71))
    have HBW := Lib.hid ((st8_below HB.out (Nat.le_refl _) (.int .i64 0) (.string ⟨#[]⟩) (.int .u64 0) (.int .u64 0) (.string ⟨#[]⟩) (.slice none 0 0) (.slice none 0 0) (.int .i64 0)).push (.cells #[.int .i64 0, .string ⟨#[]⟩, .int .i64 0] 71))
    generalize (st8 w1 w.heap.size (.int .i64 0) (.string ⟨#[]⟩) (.int .u64 0) (.int .u64 0) (.string ⟨#[]⟩) (.slice none 0 0) (.slice none 0 0) (.int .i64 0)).alloc (.cells #[.int .i64 0, .string ⟨#[]⟩, .int .i64 0] 71) = W at hb2 HBW ⊢
    clear rc0 rc1 rc2 rc3 rc4 rc5 rc6 rc7 rf0 rf1 rf2 rf3 rf4 rf5 rf6 rf7
    have sc0 := hb2.c0
    have sc1 := hb2.c1
    have sc2 := hb2.c2
    have sc3 := hb2.c3
    have sc4 := hb2.c4
    have sc5 := hb2.c5
    have sc6 := hb2.c6
    have sc7 := hb2.c7
    have sf0 := hb2.f 0
    have sf1 := hb2.f 1
    have sf2 := hb2.f 2
    have sf3 := hb2.f 3
    have sf4 := hb2.f 4
    have sf5 := hb2.f 5
    have sf6 := hb2.f 6
    have sf7 := hb2.f 7
    refine bodyPost_ret (v := .agg #[.int .i64 0, .string ⟨#[]⟩, .int .u64 0, .int .u64 0, .string ⟨#[]⟩, .slice none 0 0, .slice none 0 0, .int .i64 0]) (by simp [results, Try.f45, go_sem, sc0, sc1, sc2, sc3, sc4, sc5, sc6, sc7]) rfl ?_
    exact ⟨HBW.out, _, rfl, .bare I64_0 U64_0 U64_0 I64_0 cap_0 cap_0⟩

set_option maxHeartbeats 4000000 in
theorem raw_int (b : B) (x : Int) (hr : (Leaf.int b x).Rng) (w : World) : Calls Try.prog 45 #[.iface 85 (.agg #[.int .i64 b.kind, .string b.name, .int .i64 b.hook, .int .i64 x])] w (RawPost w (.leaf (.int b x))) := by
  have HR := Lib.hid hr
  clear hr
  have t82 := as82
  have t85 := as85
  have t87 := as87
  have t90 := as90
  have t92 := as92
  have t94 := as94
  have t95 := as95
  have t104 := as104
  have t108 := as108
  go_enter Try.func45, Try.ntmps45
  go_wp2_with fail
  refine (base_int b x _).mono ?_
  rintro e w1 ⟨rfl, hB⟩
  have HB := Lib.hid ((Below.new _).next hB)
  have hbk := (Blk.new w).below hB
  have hsz : w.heap.size < w1.heap.size := by have := hB.size; simp at this; omega
  have rc0 := hbk.c0
  have rc1 := hbk.c1
  have rc2 := hbk.c2
  have rc3 := hbk.c3
  have rc4 := hbk.c4
  have rc5 := hbk.c5
  have rc6 := hbk.c6
  have rc7 := hbk.c7
  have rf0 := hbk.f 0
  have rf1 := hbk.f 1
  have rf2 := hbk.f 2
  have rf3 := hbk.f 3
  have rf4 := hbk.f 4
  have rf5 := hbk.f 5
  have rf6 := hbk.f 6
  have rf7 := hbk.f 7
  clear hB
  go_upto_region 46 with (fail)
  have hq : Blk (((w1.alloc (.cells #[.int .i64 b.kind, .string b.name, .int .i64 b.hook] 71)).alloc (.cells #[.int .i64 b.kind, .string b.name, .int .u64 (IntKind.u64.wrap x), .int .u64 0, .string ⟨#[]⟩, .slice none 0 0, .slice none 0 0, .int .i64 b.hook] 26)).alloc (.cells #[.int .i64 b.kind, .string b.name, .int .i64 b.hook, .int .i64 x] 85)) (w1.heap.size + 1) (.int .i64 b.kind) (.string b.name) (.int .u64 (IntKind.u64.wrap x)) (.int .u64 0) (.string ⟨#[]⟩) (.slice none 0 0) (.slice none 0 0) (.int .i64 b.hook) := by
    have := (Blk.of (heap_alloc_new (w1.alloc (.cells #[.int .i64 b.kind, .string b.name, .int .i64 b.hook] 71)) (.cells #[.int .i64 b.kind, .string b.name, .int .u64 (IntKind.u64.wrap x), .int .u64 0, .string ⟨#[]⟩, .slice none 0 0, .slice none 0 0, .int .i64 b.hook] 26))).below (Below.new (.cells #[.int .i64 b.kind, .string b.name, .int .i64 b.hook, .int .i64 x] 85))
    simpa using this
  have hb2 := ((hbk.below (Below.new (.cells #[.int .i64 b.kind, .string b.name, .int .i64 b.hook] 71))).below (Below.new (.cells #[.int .i64 b.kind, .string b.name, .int .u64 (IntKind.u64.wrap x), .int .u64 0, .string ⟨#[]⟩, .slice none 0 0, .slice none 0 0, .int .i64 b.hook] 26))).below (Below.new (.cells #[.int .i64 b.kind, .string b.name, .int .i64 b.hook, .int .i64 x] 85))
  have HB2 := Lib.hid (((HB.out.push (.cells #[.int .i64 b.kind, .string b.name, .int .i64 b.hook] 71)).push (.cells #[.int .i64 b.kind, .string b.name, .int .u64 (IntKind.u64.wrap x), .int .u64 0, .string ⟨#[]⟩, .slice none 0 0, .slice none 0 0, .int .i64 b.hook] 26)).push (.cells #[.int .i64 b.kind, .string b.name, .int .i64 b.hook, .int .i64 x] 85))
  generalize ((w1.alloc (.cells #[.int .i64 b.kind, .string b.name, .int .i64 b.hook] 71)).alloc (.cells #[.int .i64 b.kind, .string b.name, .int .u64 (IntKind.u64.wrap x), .int .u64 0, .string ⟨#[]⟩, .slice none 0 0, .slice none 0 0, .int .i64 b.hook] 26)).alloc (.cells #[.int .i64 b.kind, .string b.name, .int .i64 b.hook, .int .i64 x] 85) = W at hq hb2 HB2 ⊢
  clear rc0 rc1 rc2 rc3 rc4 rc5 rc6 rc7 rf0 rf1 rf2 rf3 rf4 rf5 rf6 rf7
  have rc0 := hb2.c0
  have rc1 := hb2.c1
  have rc2 := hb2.c2
  have rc3 := hb2.c3
  have rc4 := hb2.c4
  have rc5 := hb2.c5
  have rc6 := hb2.c6
  have rc7 := hb2.c7
  have rf0 := hb2.f 0
  have rf1 := hb2.f 1
  have rf2 := hb2.f 2
  have rf3 := hb2.f 3
  have rf4 := hb2.f 4
  have rf5 := hb2.f 5
  have rf6 := hb2.f 6
  have rf7 := hb2.f 7
  have sc0 := hq.c0
  have sc1 := hq.c1
  have sc2 := hq.c2
  have sc3 := hq.c3
  have sc4 := hq.c4
  have sc5 := hq.c5
  have sc6 := hq.c6
  have sc7 := hq.c7
  have sf0 := hq.f 0
  have sf1 := hq.f 1
  have sf2 := hq.f 2
  have sf3 := hq.f 3
  have sf4 := hq.f 4
  have sf5 := hq.f 5
  have sf6 := hq.f 6
  have sf7 := hq.f 7
  go_wp2_with fail
  change bodyPost Try.prog Try.f45 _ _ _ (st8 W w.heap.size (.int .i64 b.kind) (.string b.name) (.int .u64 (IntKind.u64.wrap x)) (.int .u64 0) (.string ⟨#[]⟩) (.slice none 0 0) (.slice none 0 0) (.int .i64 b.hook))
  have hb3 := Blk.put W w.heap.size hb2 (.int .i64 b.kind) (.string b.name) (.int .u64 (IntKind.u64.wrap x)) (.int .u64 0) (.string ⟨#[]⟩) (.slice none 0 0) (.slice none 0 0) (.int .i64 b.hook)
  have HBW := Lib.hid (st8_below HB2.out (Nat.le_refl _) (.int .i64 b.kind) (.string b.name) (.int .u64 (IntKind.u64.wrap x)) (.int .u64 0) (.string ⟨#[]⟩) (.slice none 0 0) (.slice none 0 0) (.int .i64 b.hook))
  have HKP := Lib.hid (fun k (hk : k ≠ w.heap.size) => st8_other (w := W) (b := w.heap.size) (u0 := .int .i64 b.kind) (u1 := .string b.name) (u2 := .int .u64 (IntKind.u64.wrap x)) (u3 := .int .u64 0) (u4 := .string ⟨#[]⟩) (u5 := .slice none 0 0) (u6 := .slice none 0 0) (u7 := .int .i64 b.hook) hk)
  generalize st8 W w.heap.size (.int .i64 b.kind) (.string b.name) (.int .u64 (IntKind.u64.wrap x)) (.int .u64 0) (.string ⟨#[]⟩) (.slice none 0 0) (.slice none 0 0) (.int .i64 b.hook) = W9 at hb3 HBW HKP ⊢
  clear rc0 rc1 rc2 rc3 rc4 rc5 rc6 rc7 rf0 rf1 rf2 rf3 rf4 rf5 rf6 rf7 sc0 sc1 sc2 sc3 sc4 sc5 sc6 sc7
  have zc0 := hb3.c0
  have zc1 := hb3.c1
  have zc2 := hb3.c2
  have zc3 := hb3.c3
  have zc4 := hb3.c4
  have zc5 := hb3.c5
  have zc6 := hb3.c6
  have zc7 := hb3.c7
  refine bodyPost_ret (v := .agg #[.int .i64 b.kind, .string b.name, .int .u64 (IntKind.u64.wrap x), .int .u64 0, .string ⟨#[]⟩, .slice none 0 0, .slice none 0 0, .int .i64 b.hook]) (by simp [results, Try.f45, go_sem, zc0, zc1, zc2, zc3, zc4, zc5, zc6, zc7]) rfl ?_
  exact ⟨HBW.out, _, rfl, .bare HR.out.1.1 (U64_of x) U64_0 HR.out.1.2.1 HR.out.1.2.2 cap_0⟩

set_option maxHeartbeats 4000000 in
theorem raw_bool_true (b : B)  (hr : (Leaf.bool b true).Rng) (w : World) : Calls Try.prog 45 #[.iface 82 (.agg #[.int .i64 b.kind, .string b.name, .int .i64 b.hook, .bool true])] w (RawPost w (.leaf (.bool b true))) := by
  have HR := Lib.hid hr
  clear hr
  have t82 := as82
  have t85 := as85
  have t87 := as87
  have t90 := as90
  have t92 := as92
  have t94 := as94
  have t95 := as95
  have t104 := as104
  have t108 := as108
  go_enter Try.func45, Try.ntmps45
  go_wp2_with fail
  refine (base_bool b true _).mono ?_
  rintro e w1 ⟨rfl, hB⟩
  have HB := Lib.hid ((Below.new _).next hB)
  have hbk := (Blk.new w).below hB
  have hsz : w.heap.size < w1.heap.size := by have := hB.size; simp at this; omega
  have rc0 := hbk.c0
  have rc1 := hbk.c1
  have rc2 := hbk.c2
  have rc3 := hbk.c3
  have rc4 := hbk.c4
  have rc5 := hbk.c5
  have rc6 := hbk.c6
  have rc7 := hbk.c7
  have rf0 := hbk.f 0
  have rf1 := hbk.f 1
  have rf2 := hbk.f 2
  have rf3 := hbk.f 3
  have rf4 := hbk.f 4
  have rf5 := hbk.f 5
  have rf6 := hbk.f 6
  have rf7 := hbk.f 7
  clear hB
  go_upto_region 46 with (fail)
  have hq : Blk (((w1.alloc (.cells #[.int .i64 b.kind, .string b.name, .int .i64 b.hook] 71)).alloc (.cells #[.int .i64 b.kind, .string b.name, .int .u64 1, .int .u64 0, .string ⟨#[]⟩, .slice none 0 0, .slice none 0 0, .int .i64 b.hook] 26)).alloc (.cells #[.int .i64 b.kind, .string b.name, .int .i64 b.hook, .bool true] 82)) (w1.heap.size + 1) (.int .i64 b.kind) (.string b.name) (.int .u64 1) (.int .u64 0) (.string ⟨#[]⟩) (.slice none 0 0) (.slice none 0 0) (.int .i64 b.hook) := by
    have := (Blk.of (heap_alloc_new (w1.alloc (.cells #[.int .i64 b.kind, .string b.name, .int .i64 b.hook] 71)) (.cells #[.int .i64 b.kind, .string b.name, .int .u64 1, .int .u64 0, .string ⟨#[]⟩, .slice none 0 0, .slice none 0 0, .int .i64 b.hook] 26))).below (Below.new (.cells #[.int .i64 b.kind, .string b.name, .int .i64 b.hook, .bool true] 82))
    simpa using this
  have hb2 := ((hbk.below (Below.new (.cells #[.int .i64 b.kind, .string b.name, .int .i64 b.hook] 71))).below (Below.new (.cells #[.int .i64 b.kind, .string b.name, .int .u64 1, .int .u64 0, .string ⟨#[]⟩, .slice none 0 0, .slice none 0 0, .int .i64 b.hook] 26))).below (Below.new (.cells #[.int .i64 b.kind, .string b.name, .int .i64 b.hook, .bool true] 82))
  have HB2 := Lib.hid (((HB.out.push (.cells #[.int .i64 b.kind, .string b.name, .int .i64 b.hook] 71)).push (.cells #[.int .i64 b.kind, .string b.name, .int .u64 1, .int .u64 0, .string ⟨#[]⟩, .slice none 0 0, .slice none 0 0, .int .i64 b.hook] 26)).push (.cells #[.int .i64 b.kind, .string b.name, .int .i64 b.hook, .bool true] 82))
  generalize ((w1.alloc (.cells #[.int .i64 b.kind, .string b.name, .int .i64 b.hook] 71)).alloc (.cells #[.int .i64 b.kind, .string b.name, .int .u64 1, .int .u64 0, .string ⟨#[]⟩, .slice none 0 0, .slice none 0 0, .int .i64 b.hook] 26)).alloc (.cells #[.int .i64 b.kind, .string b.name, .int .i64 b.hook, .bool true] 82) = W at hq hb2 HB2 ⊢
  clear rc0 rc1 rc2 rc3 rc4 rc5 rc6 rc7 rf0 rf1 rf2 rf3 rf4 rf5 rf6 rf7
  have rc0 := hb2.c0
  have rc1 := hb2.c1
  have rc2 := hb2.c2
  have rc3 := hb2.c3
  have rc4 := hb2.c4
  have rc5 := hb2.c5
  have rc6 := hb2.c6
  have rc7 := hb2.c7
  have rf0 := hb2.f 0
  have rf1 := hb2.f 1
  have rf2 := hb2.f 2
  have rf3 := hb2.f 3
  have rf4 := hb2.f 4
  have rf5 := hb2.f 5
  have rf6 := hb2.f 6
  have rf7 := hb2.f 7
  have sc0 := hq.c0
  have sc1 := hq.c1
  have sc2 := hq.c2
  have sc3 := hq.c3
  have sc4 := hq.c4
  have sc5 := hq.c5
  have sc6 := hq.c6
  have sc7 := hq.c7
  have sf0 := hq.f 0
  have sf1 := hq.f 1
  have sf2 := hq.f 2
  have sf3 := hq.f 3
  have sf4 := hq.f 4
  have sf5 := hq.f 5
  have sf6 := hq.f 6
  have sf7 := hq.f 7
  go_wp2_with fail
  change bodyPost Try.prog Try.f45 _ _ _ (st8 W w.heap.size (.int .i64 b.kind) (.string b.name) (.int .u64 1) (.int .u64 0) (.string ⟨#[]⟩) (.slice none 0 0) (.slice none 0 0) (.int .i64 b.hook))
  have hb3 := Blk.put W w.heap.size hb2 (.int .i64 b.kind) (.string b.name) (.int .u64 1) (.int .u64 0) (.string ⟨#[]⟩) (.slice none 0 0) (.slice none 0 0) (.int .i64 b.hook)
  have HBW := Lib.hid (st8_below HB2.out (Nat.le_refl _) (.int .i64 b.kind) (.string b.name) (.int .u64 1) (.int .u64 0) (.string ⟨#[]⟩) (.slice none 0 0) (.slice none 0 0) (.int .i64 b.hook))
  have HKP := Lib.hid (fun k (hk : k ≠ w.heap.size) => st8_other (w := W) (b := w.heap.size) (u0 := .int .i64 b.kind) (u1 := .string b.name) (u2 := .int .u64 1) (u3 := .int .u64 0) (u4 := .string ⟨#[]⟩) (u5 := .slice none 0 0) (u6 := .slice none 0 0) (u7 := .int .i64 b.hook) hk)
  generalize st8 W w.heap.size (.int .i64 b.kind) (.string b.name) (.int .u64 1) (.int .u64 0) (.string ⟨#[]⟩) (.slice none 0 0) (.slice none 0 0) (.int .i64 b.hook) = W9 at hb3 HBW HKP ⊢
  clear rc0 rc1 rc2 rc3 rc4 rc5 rc6 rc7 rf0 rf1 rf2 rf3 rf4 rf5 rf6 rf7 sc0 sc1 sc2 sc3 sc4 sc5 sc6 sc7
  have zc0 := hb3.c0
  have zc1 := hb3.c1
  have zc2 := hb3.c2
  have zc3 := hb3.c3
  have zc4 := hb3.c4
  have zc5 := hb3.c5
  have zc6 := hb3.c6
  have zc7 := hb3.c7
  refine bodyPost_ret (v := .agg #[.int .i64 b.kind, .string b.name, .int .u64 1, .int .u64 0, .string ⟨#[]⟩, .slice none 0 0, .slice none 0 0, .int .i64 b.hook]) (by simp [results, Try.f45, go_sem, zc0, zc1, zc2, zc3, zc4, zc5, zc6, zc7]) rfl ?_
  exact ⟨HBW.out, _, rfl, .bare HR.out.1 U64_1 U64_0 HR.out.2.1 HR.out.2.2 cap_0⟩

set_option maxHeartbeats 4000000 in
theorem raw_bool_false (b : B)  (hr : (Leaf.bool b false).Rng) (w : World) : Calls Try.prog 45 #[.iface 82 (.agg #[.int .i64 b.kind, .string b.name, .int .i64 b.hook, .bool false])] w (RawPost w (.leaf (.bool b false))) := by
  have HR := Lib.hid hr
  clear hr
  have t82 := as82
  have t85 := as85
  have t87 := as87
  have t90 := as90
  have t92 := as92
  have t94 := as94
  have t95 := as95
  have t104 := as104
  have t108 := as108
  go_enter Try.func45, Try.ntmps45
  go_wp2_with fail
  refine (base_bool b false _).mono ?_
  rintro e w1 ⟨rfl, hB⟩
  have HB := Lib.hid ((Below.new _).next hB)
  have hbk := (Blk.new w).below hB
  have hsz : w.heap.size < w1.heap.size := by have := hB.size; simp at this; omega
  have rc0 := hbk.c0
  have rc1 := hbk.c1
  have rc2 := hbk.c2
  have rc3 := hbk.c3
  have rc4 := hbk.c4
  have rc5 := hbk.c5
  have rc6 := hbk.c6
  have rc7 := hbk.c7
  have rf0 := hbk.f 0
  have rf1 := hbk.f 1
  have rf2 := hbk.f 2
  have rf3 := hbk.f 3
  have rf4 := hbk.f 4
  have rf5 := hbk.f 5
  have rf6 := hbk.f 6
  have rf7 := hbk.f 7
  clear hB
  go_upto_region 46 with (fail)
  have hq : Blk (((w1.alloc (.cells #[.int .i64 b.kind, .string b.name, .int .i64 b.hook] 71)).alloc (.cells #[.int .i64 b.kind, .string b.name, .int .u64 0, .int .u64 0, .string ⟨#[]⟩, .slice none 0 0, .slice none 0 0, .int .i64 b.hook] 26)).alloc (.cells #[.int .i64 b.kind, .string b.name, .int .i64 b.hook, .bool false] 82)) (w1.heap.size + 1) (.int .i64 b.kind) (.string b.name) (.int .u64 0) (.int .u64 0) (.string ⟨#[]⟩) (.slice none 0 0) (.slice none 0 0) (.int .i64 b.hook) := by
    have := (Blk.of (heap_alloc_new (w1.alloc (.cells #[.int .i64 b.kind, .string b.name, .int .i64 b.hook] 71)) (.cells #[.int .i64 b.kind, .string b.name, .int .u64 0, .int .u64 0, .string ⟨#[]⟩, .slice none 0 0, .slice none 0 0, .int .i64 b.hook] 26))).below (Below.new (.cells #[.int .i64 b.kind, .string b.name, .int .i64 b.hook, .bool false] 82))
    simpa using this
  have hb2 := ((hbk.below (Below.new (.cells #[.int .i64 b.kind, .string b.name, .int .i64 b.hook] 71))).below (Below.new (.cells #[.int .i64 b.kind, .string b.name, .int .u64 0, .int .u64 0, .string ⟨#[]⟩, .slice none 0 0, .slice none 0 0, .int .i64 b.hook] 26))).below (Below.new (.cells #[.int .i64 b.kind, .string b.name, .int .i64 b.hook, .bool false] 82))
  have HB2 := Lib.hid (((HB.out.push (.cells #[.int .i64 b.kind, .string b.name, .int .i64 b.hook] 71)).push (.cells #[.int .i64 b.kind, .string b.name, .int .u64 0, .int .u64 0, .string ⟨#[]⟩, .slice none 0 0, .slice none 0 0, .int .i64 b.hook] 26)).push (.cells #[.int .i64 b.kind, .string b.name, .int .i64 b.hook, .bool false] 82))
  generalize ((w1.alloc (.cells #[.int .i64 b.kind, .string b.name, .int .i64 b.hook] 71)).alloc (.cells #[.int .i64 b.kind, .string b.name, .int .u64 0, .int .u64 0, .string ⟨#[]⟩, .slice none 0 0, .slice none 0 0, .int .i64 b.hook] 26)).alloc (.cells #[.int .i64 b.kind, .string b.name, .int .i64 b.hook, .bool false] 82) = W at hq hb2 HB2 ⊢
  clear rc0 rc1 rc2 rc3 rc4 rc5 rc6 rc7 rf0 rf1 rf2 rf3 rf4 rf5 rf6 rf7
  have rc0 := hb2.c0
  have rc1 := hb2.c1
  have rc2 := hb2.c2
  have rc3 := hb2.c3
  have rc4 := hb2.c4
  have rc5 := hb2.c5
  have rc6 := hb2.c6
  have rc7 := hb2.c7
  have rf0 := hb2.f 0
  have rf1 := hb2.f 1
  have rf2 := hb2.f 2
  have rf3 := hb2.f 3
  have rf4 := hb2.f 4
  have rf5 := hb2.f 5
  have rf6 := hb2.f 6
  have rf7 := hb2.f 7
  have sc0 := hq.c0
  have sc1 := hq.c1
  have sc2 := hq.c2
  have sc3 := hq.c3
  have sc4 := hq.c4
  have sc5 := hq.c5
  have sc6 := hq.c6
  have sc7 := hq.c7
  have sf0 := hq.f 0
  have sf1 := hq.f 1
  have sf2 := hq.f 2
  have sf3 := hq.f 3
  have sf4 := hq.f 4
  have sf5 := hq.f 5
  have sf6 := hq.f 6
  have sf7 := hq.f 7
  go_wp2_with fail
  change bodyPost Try.prog Try.f45 _ _ _ (st8 W w.heap.size (.int .i64 b.kind) (.string b.name) (.int .u64 0) (.int .u64 0) (.string ⟨#[]⟩) (.slice none 0 0) (.slice none 0 0) (.int .i64 b.hook))
  have hb3 := Blk.put W w.heap.size hb2 (.int .i64 b.kind) (.string b.name) (.int .u64 0) (.int .u64 0) (.string ⟨#[]⟩) (.slice none 0 0) (.slice none 0 0) (.int .i64 b.hook)
  have HBW := Lib.hid (st8_below HB2.out (Nat.le_refl _) (.int .i64 b.kind) (.string b.name) (.int .u64 0) (.int .u64 0) (.string ⟨#[]⟩) (.slice none 0 0) (.slice none 0 0) (.int .i64 b.hook))
  have HKP := Lib.hid (fun k (hk : k ≠ w.heap.size) => st8_other (w := W) (b := w.heap.size) (u0 := .int .i64 b.kind) (u1 := .string b.name) (u2 := .int .u64 0) (u3 := .int .u64 0) (u4 := .string ⟨#[]⟩) (u5 := .slice none 0 0) (u6 := .slice none 0 0) (u7 := .int .i64 b.hook) hk)
  generalize st8 W w.heap.size (.int .i64 b.kind) (.string b.name) (.int .u64 0) (.int .u64 0) (.string ⟨#[]⟩) (.slice none 0 0) (.slice none 0 0) (.int .i64 b.hook) = W9 at hb3 HBW HKP ⊢
  clear rc0 rc1 rc2 rc3 rc4 rc5 rc6 rc7 rf0 rf1 rf2 rf3 rf4 rf5 rf6 rf7 sc0 sc1 sc2 sc3 sc4 sc5 sc6 sc7
  have zc0 := hb3.c0
  have zc1 := hb3.c1
  have zc2 := hb3.c2
  have zc3 := hb3.c3
  have zc4 := hb3.c4
  have zc5 := hb3.c5
  have zc6 := hb3.c6
  have zc7 := hb3.c7
  refine bodyPost_ret (v := .agg #[.int .i64 b.kind, .string b.name, .int .u64 0, .int .u64 0, .string ⟨#[]⟩, .slice none 0 0, .slice none 0 0, .int .i64 b.hook]) (by simp [results, Try.f45, go_sem, zc0, zc1, zc2, zc3, zc4, zc5, zc6, zc7]) rfl ?_
  exact ⟨HBW.out, _, rfl, .bare HR.out.1 U64_0 U64_0 HR.out.2.1 HR.out.2.2 cap_0⟩

set_option maxHeartbeats 4000000 in
theorem raw_uint (b : B) (x : Int) (hr : (Leaf.uint b x).Rng) (w : World) : Calls Try.prog 45 #[.iface 87 (.agg #[.int .i64 b.kind, .string b.name, .int .i64 b.hook, .int .u64 x])] w (RawPost w (.leaf (.uint b x))) := by
  have HR := Lib.hid hr
  clear hr
  have t82 := as82
  have t85 := as85
  have t87 := as87
  have t90 := as90
  have t92 := as92
  have t94 := as94
  have t95 := as95
  have t104 := as104
  have t108 := as108
  go_enter Try.func45, Try.ntmps45
  go_wp2_with fail
  refine (base_uint b x _).mono ?_
  rintro e w1 ⟨rfl, hB⟩
  have HB := Lib.hid ((Below.new _).next hB)
  have hbk := (Blk.new w).below hB
  have hsz : w.heap.size < w1.heap.size := by have := hB.size; simp at this; omega
  have rc0 := hbk.c0
  have rc1 := hbk.c1
  have rc2 := hbk.c2
  have rc3 := hbk.c3
  have rc4 := hbk.c4
  have rc5 := hbk.c5
  have rc6 := hbk.c6
  have rc7 := hbk.c7
  have rf0 := hbk.f 0
  have rf1 := hbk.f 1
  have rf2 := hbk.f 2
  have rf3 := hbk.f 3
  have rf4 := hbk.f 4
  have rf5 := hbk.f 5
  have rf6 := hbk.f 6
  have rf7 := hbk.f 7
  clear hB
  go_upto_region 46 with (fail)
  have hq : Blk (((w1.alloc (.cells #[.int .i64 b.kind, .string b.name, .int .i64 b.hook] 71)).alloc (.cells #[.int .i64 b.kind, .string b.name, .int .u64 x, .int .u64 0, .string ⟨#[]⟩, .slice none 0 0, .slice none 0 0, .int .i64 b.hook] 26)).alloc (.cells #[.int .i64 b.kind, .string b.name, .int .i64 b.hook, .int .u64 x] 87)) (w1.heap.size + 1) (.int .i64 b.kind) (.string b.name) (.int .u64 x) (.int .u64 0) (.string ⟨#[]⟩) (.slice none 0 0) (.slice none 0 0) (.int .i64 b.hook) := by
    have := (Blk.of (heap_alloc_new (w1.alloc (.cells #[.int .i64 b.kind, .string b.name, .int .i64 b.hook] 71)) (.cells #[.int .i64 b.kind, .string b.name, .int .u64 x, .int .u64 0, .string ⟨#[]⟩, .slice none 0 0, .slice none 0 0, .int .i64 b.hook] 26))).below (Below.new (.cells #[.int .i64 b.kind, .string b.name, .int .i64 b.hook, .int .u64 x] 87))
    simpa using this
  have hb2 := ((hbk.below (Below.new (.cells #[.int .i64 b.kind, .string b.name, .int .i64 b.hook] 71))).below (Below.new (.cells #[.int .i64 b.kind, .string b.name, .int .u64 x, .int .u64 0, .string ⟨#[]⟩, .slice none 0 0, .slice none 0 0, .int .i64 b.hook] 26))).below (Below.new (.cells #[.int .i64 b.kind, .string b.name, .int .i64 b.hook, .int .u64 x] 87))
  have HB2 := Lib.hid (((HB.out.push (.cells #[.int .i64 b.kind, .string b.name, .int .i64 b.hook] 71)).push (.cells #[.int .i64 b.kind, .string b.name, .int .u64 x, .int .u64 0, .string ⟨#[]⟩, .slice none 0 0, .slice none 0 0, .int .i64 b.hook] 26)).push (.cells #[.int .i64 b.kind, .string b.name, .int .i64 b.hook, .int .u64 x] 87))
  generalize ((w1.alloc (.cells #[.int .i64 b.kind, .string b.name, .int .i64 b.hook] 71)).alloc (.cells #[.int .i64 b.kind, .string b.name, .int .u64 x, .int .u64 0, .string ⟨#[]⟩, .slice none 0 0, .slice none 0 0, .int .i64 b.hook] 26)).alloc (.cells #[.int .i64 b.kind, .string b.name, .int .i64 b.hook, .int .u64 x] 87) = W at hq hb2 HB2 ⊢
  clear rc0 rc1 rc2 rc3 rc4 rc5 rc6 rc7 rf0 rf1 rf2 rf3 rf4 rf5 rf6 rf7
  have rc0 := hb2.c0
  have rc1 := hb2.c1
  have rc2 := hb2.c2
  have rc3 := hb2.c3
  have rc4 := hb2.c4
  have rc5 := hb2.c5
  have rc6 := hb2.c6
  have rc7 := hb2.c7
  have rf0 := hb2.f 0
  have rf1 := hb2.f 1
  have rf2 := hb2.f 2
  have rf3 := hb2.f 3
  have rf4 := hb2.f 4
  have rf5 := hb2.f 5
  have rf6 := hb2.f 6
  have rf7 := hb2.f 7
  have sc0 := hq.c0
  have sc1 := hq.c1
  have sc2 := hq.c2
  have sc3 := hq.c3
  have sc4 := hq.c4
  have sc5 := hq.c5
  have sc6 := hq.c6
  have sc7 := hq.c7
  have sf0 := hq.f 0
  have sf1 := hq.f 1
  have sf2 := hq.f 2
  have sf3 := hq.f 3
  have sf4 := hq.f 4
  have sf5 := hq.f 5
  have sf6 := hq.f 6
  have sf7 := hq.f 7
  go_wp2_with fail
  change bodyPost Try.prog Try.f45 _ _ _ (st8 W w.heap.size (.int .i64 b.kind) (.string b.name) (.int .u64 x) (.int .u64 0) (.string ⟨#[]⟩) (.slice none 0 0) (.slice none 0 0) (.int .i64 b.hook))
  have hb3 := Blk.put W w.heap.size hb2 (.int .i64 b.kind) (.string b.name) (.int .u64 x) (.int .u64 0) (.string ⟨#[]⟩) (.slice none 0 0) (.slice none 0 0) (.int .i64 b.hook)
  have HBW := Lib.hid (st8_below HB2.out (Nat.le_refl _) (.int .i64 b.kind) (.string b.name) (.int .u64 x) (.int .u64 0) (.string ⟨#[]⟩) (.slice none 0 0) (.slice none 0 0) (.int .i64 b.hook))
  have HKP := Lib.hid (fun k (hk : k ≠ w.heap.size) => st8_other (w := W) (b := w.heap.size) (u0 := .int .i64 b.kind) (u1 := .string b.name) (u2 := .int .u64 x) (u3 := .int .u64 0) (u4 := .string ⟨#[]⟩) (u5 := .slice none 0 0) (u6 := .slice none 0 0) (u7 := .int .i64 b.hook) hk)
  generalize st8 W w.heap.size (.int .i64 b.kind) (.string b.name) (.int .u64 x) (.int .u64 0) (.string ⟨#[]⟩) (.slice none 0 0) (.slice none 0 0) (.int .i64 b.hook) = W9 at hb3 HBW HKP ⊢
  clear rc0 rc1 rc2 rc3 rc4 rc5 rc6 rc7 rf0 rf1 rf2 rf3 rf4 rf5 rf6 rf7 sc0 sc1 sc2 sc3 sc4 sc5 sc6 sc7
  have zc0 := hb3.c0
  have zc1 := hb3.c1
  have zc2 := hb3.c2
  have zc3 := hb3.c3
  have zc4 := hb3.c4
  have zc5 := hb3.c5
  have zc6 := hb3.c6
  have zc7 := hb3.c7
  refine bodyPost_ret (v := .agg #[.int .i64 b.kind, .string b.name, .int .u64 x, .int .u64 0, .string ⟨#[]⟩, .slice none 0 0, .slice none 0 0, .int .i64 b.hook]) (by simp [results, Try.f45, go_sem, zc0, zc1, zc2, zc3, zc4, zc5, zc6, zc7]) rfl ?_
  exact ⟨HBW.out, _, rfl, .bare HR.out.1.1 HR.out.2 U64_0 HR.out.1.2.1 HR.out.1.2.2 cap_0⟩

set_option maxHeartbeats 4000000 in
theorem raw_float (b : B) (x n : Int) (hr : (Leaf.float b x n).Rng) (w : World) : Calls Try.prog 45 #[.iface 90 (.agg #[.int .i64 b.kind, .string b.name, .int .i64 b.hook, .int .u64 x, .int .i64 n])] w (RawPost w (.leaf (.float b x n))) := by
  have HR := Lib.hid hr
  clear hr
  have t82 := as82
  have t85 := as85
  have t87 := as87
  have t90 := as90
  have t92 := as92
  have t94 := as94
  have t95 := as95
  have t104 := as104
  have t108 := as108
  go_enter Try.func45, Try.ntmps45
  go_wp2_with fail
  refine (base_float b x n _).mono ?_
  rintro e w1 ⟨rfl, hB⟩
  have HB := Lib.hid ((Below.new _).next hB)
  have hbk := (Blk.new w).below hB
  have hsz : w.heap.size < w1.heap.size := by have := hB.size; simp at this; omega
  have rc0 := hbk.c0
  have rc1 := hbk.c1
  have rc2 := hbk.c2
  have rc3 := hbk.c3
  have rc4 := hbk.c4
  have rc5 := hbk.c5
  have rc6 := hbk.c6
  have rc7 := hbk.c7
  have rf0 := hbk.f 0
  have rf1 := hbk.f 1
  have rf2 := hbk.f 2
  have rf3 := hbk.f 3
  have rf4 := hbk.f 4
  have rf5 := hbk.f 5
  have rf6 := hbk.f 6
  have rf7 := hbk.f 7
  clear hB
  go_upto_region 46 with (fail)
  have hq : Blk (((w1.alloc (.cells #[.int .i64 b.kind, .string b.name, .int .i64 b.hook] 71)).alloc (.cells #[.int .i64 b.kind, .string b.name, .int .u64 x, .int .u64 0, .string ⟨#[]⟩, .slice none 0 0, .slice none 0 0, .int .i64 b.hook] 26)).alloc (.cells #[.int .i64 b.kind, .string b.name, .int .i64 b.hook, .int .u64 x, .int .i64 n] 90)) (w1.heap.size + 1) (.int .i64 b.kind) (.string b.name) (.int .u64 x) (.int .u64 0) (.string ⟨#[]⟩) (.slice none 0 0) (.slice none 0 0) (.int .i64 b.hook) := by
    have := (Blk.of (heap_alloc_new (w1.alloc (.cells #[.int .i64 b.kind, .string b.name, .int .i64 b.hook] 71)) (.cells #[.int .i64 b.kind, .string b.name, .int .u64 x, .int .u64 0, .string ⟨#[]⟩, .slice none 0 0, .slice none 0 0, .int .i64 b.hook] 26))).below (Below.new (.cells #[.int .i64 b.kind, .string b.name, .int .i64 b.hook, .int .u64 x, .int .i64 n] 90))
    simpa using this
  have hb2 := ((hbk.below (Below.new (.cells #[.int .i64 b.kind, .string b.name, .int .i64 b.hook] 71))).below (Below.new (.cells #[.int .i64 b.kind, .string b.name, .int .u64 x, .int .u64 0, .string ⟨#[]⟩, .slice none 0 0, .slice none 0 0, .int .i64 b.hook] 26))).below (Below.new (.cells #[.int .i64 b.kind, .string b.name, .int .i64 b.hook, .int .u64 x, .int .i64 n] 90))
  have HB2 := Lib.hid (((HB.out.push (.cells #[.int .i64 b.kind, .string b.name, .int .i64 b.hook] 71)).push (.cells #[.int .i64 b.kind, .string b.name, .int .u64 x, .int .u64 0, .string ⟨#[]⟩, .slice none 0 0, .slice none 0 0, .int .i64 b.hook] 26)).push (.cells #[.int .i64 b.kind, .string b.name, .int .i64 b.hook, .int .u64 x, .int .i64 n] 90))
  generalize ((w1.alloc (.cells #[.int .i64 b.kind, .string b.name, .int .i64 b.hook] 71)).alloc (.cells #[.int .i64 b.kind, .string b.name, .int .u64 x, .int .u64 0, .string ⟨#[]⟩, .slice none 0 0, .slice none 0 0, .int .i64 b.hook] 26)).alloc (.cells #[.int .i64 b.kind, .string b.name, .int .i64 b.hook, .int .u64 x, .int .i64 n] 90) = W at hq hb2 HB2 ⊢
  clear rc0 rc1 rc2 rc3 rc4 rc5 rc6 rc7 rf0 rf1 rf2 rf3 rf4 rf5 rf6 rf7
  have rc0 := hb2.c0
  have rc1 := hb2.c1
  have rc2 := hb2.c2
  have rc3 := hb2.c3
  have rc4 := hb2.c4
  have rc5 := hb2.c5
  have rc6 := hb2.c6
  have rc7 := hb2.c7
  have rf0 := hb2.f 0
  have rf1 := hb2.f 1
  have rf2 := hb2.f 2
  have rf3 := hb2.f 3
  have rf4 := hb2.f 4
  have rf5 := hb2.f 5
  have rf6 := hb2.f 6
  have rf7 := hb2.f 7
  have sc0 := hq.c0
  have sc1 := hq.c1
  have sc2 := hq.c2
  have sc3 := hq.c3
  have sc4 := hq.c4
  have sc5 := hq.c5
  have sc6 := hq.c6
  have sc7 := hq.c7
  have sf0 := hq.f 0
  have sf1 := hq.f 1
  have sf2 := hq.f 2
  have sf3 := hq.f 3
  have sf4 := hq.f 4
  have sf5 := hq.f 5
  have sf6 := hq.f 6
  have sf7 := hq.f 7
  go_wp2_with fail
  change bodyPost Try.prog Try.f45 _ _ _ (st8 W w.heap.size (.int .i64 b.kind) (.string b.name) (.int .u64 x) (.int .u64 0) (.string ⟨#[]⟩) (.slice none 0 0) (.slice none 0 0) (.int .i64 b.hook))
  have hb3 := Blk.put W w.heap.size hb2 (.int .i64 b.kind) (.string b.name) (.int .u64 x) (.int .u64 0) (.string ⟨#[]⟩) (.slice none 0 0) (.slice none 0 0) (.int .i64 b.hook)
  have HBW := Lib.hid (st8_below HB2.out (Nat.le_refl _) (.int .i64 b.kind) (.string b.name) (.int .u64 x) (.int .u64 0) (.string ⟨#[]⟩) (.slice none 0 0) (.slice none 0 0) (.int .i64 b.hook))
  have HKP := Lib.hid (fun k (hk : k ≠ w.heap.size) => st8_other (w := W) (b := w.heap.size) (u0 := .int .i64 b.kind) (u1 := .string b.name) (u2 := .int .u64 x) (u3 := .int .u64 0) (u4 := .string ⟨#[]⟩) (u5 := .slice none 0 0) (u6 := .slice none 0 0) (u7 := .int .i64 b.hook) hk)
  generalize st8 W w.heap.size (.int .i64 b.kind) (.string b.name) (.int .u64 x) (.int .u64 0) (.string ⟨#[]⟩) (.slice none 0 0) (.slice none 0 0) (.int .i64 b.hook) = W9 at hb3 HBW HKP ⊢
  clear rc0 rc1 rc2 rc3 rc4 rc5 rc6 rc7 rf0 rf1 rf2 rf3 rf4 rf5 rf6 rf7 sc0 sc1 sc2 sc3 sc4 sc5 sc6 sc7
  have zc0 := hb3.c0
  have zc1 := hb3.c1
  have zc2 := hb3.c2
  have zc3 := hb3.c3
  have zc4 := hb3.c4
  have zc5 := hb3.c5
  have zc6 := hb3.c6
  have zc7 := hb3.c7
  refine bodyPost_ret (v := .agg #[.int .i64 b.kind, .string b.name, .int .u64 x, .int .u64 0, .string ⟨#[]⟩, .slice none 0 0, .slice none 0 0, .int .i64 b.hook]) (by simp [results, Try.f45, go_sem, zc0, zc1, zc2, zc3, zc4, zc5, zc6, zc7]) rfl ?_
  exact ⟨HBW.out, _, rfl, .bare HR.out.1.1 HR.out.2 U64_0 HR.out.1.2.1 HR.out.1.2.2 cap_0⟩

set_option maxHeartbeats 4000000 in
theorem raw_text (b : B) (s : ByteArray) (hr : (Leaf.text b s).Rng) (w : World) : Calls Try.prog 45 #[.iface 94 (.agg #[.int .i64 b.kind, .string b.name, .int .i64 b.hook, .string s])] w (RawPost w (.leaf (.text b s))) := by
  have HR := Lib.hid hr
  clear hr
  have t82 := as82
  have t85 := as85
  have t87 := as87
  have t90 := as90
  have t92 := as92
  have t94 := as94
  have t95 := as95
  have t104 := as104
  have t108 := as108
  go_enter Try.func45, Try.ntmps45
  go_wp2_with fail
  refine (base_text b s _).mono ?_
  rintro e w1 ⟨rfl, hB⟩
  have HB := Lib.hid ((Below.new _).next hB)
  have hbk := (Blk.new w).below hB
  have hsz : w.heap.size < w1.heap.size := by have := hB.size; simp at this; omega
  have rc0 := hbk.c0
  have rc1 := hbk.c1
  have rc2 := hbk.c2
  have rc3 := hbk.c3
  have rc4 := hbk.c4
  have rc5 := hbk.c5
  have rc6 := hbk.c6
  have rc7 := hbk.c7
  have rf0 := hbk.f 0
  have rf1 := hbk.f 1
  have rf2 := hbk.f 2
  have rf3 := hbk.f 3
  have rf4 := hbk.f 4
  have rf5 := hbk.f 5
  have rf6 := hbk.f 6
  have rf7 := hbk.f 7
  clear hB
  go_upto_region 46 with (fail)
  have hq : Blk (((w1.alloc (.cells #[.int .i64 b.kind, .string b.name, .int .i64 b.hook] 71)).alloc (.cells #[.int .i64 b.kind, .string b.name, .int .u64 0, .int .u64 0, .string s, .slice none 0 0, .slice none 0 0, .int .i64 b.hook] 26)).alloc (.cells #[.int .i64 b.kind, .string b.name, .int .i64 b.hook, .string s] 94)) (w1.heap.size + 1) (.int .i64 b.kind) (.string b.name) (.int .u64 0) (.int .u64 0) (.string s) (.slice none 0 0) (.slice none 0 0) (.int .i64 b.hook) := by
    have := (Blk.of (heap_alloc_new (w1.alloc (.cells #[.int .i64 b.kind, .string b.name, .int .i64 b.hook] 71)) (.cells #[.int .i64 b.kind, .string b.name, .int .u64 0, .int .u64 0, .string s, .slice none 0 0, .slice none 0 0, .int .i64 b.hook] 26))).below (Below.new (.cells #[.int .i64 b.kind, .string b.name, .int .i64 b.hook, .string s] 94))
    simpa using this
  have hb2 := ((hbk.below (Below.new (.cells #[.int .i64 b.kind, .string b.name, .int .i64 b.hook] 71))).below (Below.new (.cells #[.int .i64 b.kind, .string b.name, .int .u64 0, .int .u64 0, .string s, .slice none 0 0, .slice none 0 0, .int .i64 b.hook] 26))).below (Below.new (.cells #[.int .i64 b.kind, .string b.name, .int .i64 b.hook, .string s] 94))
  have HB2 := Lib.hid (((HB.out.push (.cells #[.int .i64 b.kind, .string b.name, .int .i64 b.hook] 71)).push (.cells #[.int .i64 b.kind, .string b.name, .int .u64 0, .int .u64 0, .string s, .slice none 0 0, .slice none 0 0, .int .i64 b.hook] 26)).push (.cells #[.int .i64 b.kind, .string b.name, .int .i64 b.hook, .string s] 94))
  generalize ((w1.alloc (.cells #[.int .i64 b.kind, .string b.name, .int .i64 b.hook] 71)).alloc (.cells #[.int .i64 b.kind, .string b.name, .int .u64 0, .int .u64 0, .string s, .slice none 0 0, .slice none 0 0, .int .i64 b.hook] 26)).alloc (.cells #[.int .i64 b.kind, .string b.name, .int .i64 b.hook, .string s] 94) = W at hq hb2 HB2 ⊢
  clear rc0 rc1 rc2 rc3 rc4 rc5 rc6 rc7 rf0 rf1 rf2 rf3 rf4 rf5 rf6 rf7
  have rc0 := hb2.c0
  have rc1 := hb2.c1
  have rc2 := hb2.c2
  have rc3 := hb2.c3
  have rc4 := hb2.c4
  have rc5 := hb2.c5
  have rc6 := hb2.c6
  have rc7 := hb2.c7
  have rf0 := hb2.f 0
  have rf1 := hb2.f 1
  have rf2 := hb2.f 2
  have rf3 := hb2.f 3
  have rf4 := hb2.f 4
  have rf5 := hb2.f 5
  have rf6 := hb2.f 6
  have rf7 := hb2.f 7
  have sc0 := hq.c0
  have sc1 := hq.c1
  have sc2 := hq.c2
  have sc3 := hq.c3
  have sc4 := hq.c4
  have sc5 := hq.c5
  have sc6 := hq.c6
  have sc7 := hq.c7
  have sf0 := hq.f 0
  have sf1 := hq.f 1
  have sf2 := hq.f 2
  have sf3 := hq.f 3
  have sf4 := hq.f 4
  have sf5 := hq.f 5
  have sf6 := hq.f 6
  have sf7 := hq.f 7
  go_wp2_with fail
  change bodyPost Try.prog Try.f45 _ _ _ (st8 W w.heap.size (.int .i64 b.kind) (.string b.name) (.int .u64 0) (.int .u64 0) (.string s) (.slice none 0 0) (.slice none 0 0) (.int .i64 b.hook))
  have hb3 := Blk.put W w.heap.size hb2 (.int .i64 b.kind) (.string b.name) (.int .u64 0) (.int .u64 0) (.string s) (.slice none 0 0) (.slice none 0 0) (.int .i64 b.hook)
  have HBW := Lib.hid (st8_below HB2.out (Nat.le_refl _) (.int .i64 b.kind) (.string b.name) (.int .u64 0) (.int .u64 0) (.string s) (.slice none 0 0) (.slice none 0 0) (.int .i64 b.hook))
  have HKP := Lib.hid (fun k (hk : k ≠ w.heap.size) => st8_other (w := W) (b := w.heap.size) (u0 := .int .i64 b.kind) (u1 := .string b.name) (u2 := .int .u64 0) (u3 := .int .u64 0) (u4 := .string s) (u5 := .slice none 0 0) (u6 := .slice none 0 0) (u7 := .int .i64 b.hook) hk)
  generalize st8 W w.heap.size (.int .i64 b.kind) (.string b.name) (.int .u64 0) (.int .u64 0) (.string s) (.slice none 0 0) (.slice none 0 0) (.int .i64 b.hook) = W9 at hb3 HBW HKP ⊢
  clear rc0 rc1 rc2 rc3 rc4 rc5 rc6 rc7 rf0 rf1 rf2 rf3 rf4 rf5 rf6 rf7 sc0 sc1 sc2 sc3 sc4 sc5 sc6 sc7
  have zc0 := hb3.c0
  have zc1 := hb3.c1
  have zc2 := hb3.c2
  have zc3 := hb3.c3
  have zc4 := hb3.c4
  have zc5 := hb3.c5
  have zc6 := hb3.c6
  have zc7 := hb3.c7
  refine bodyPost_ret (v := .agg #[.int .i64 b.kind, .string b.name, .int .u64 0, .int .u64 0, .string s, .slice none 0 0, .slice none 0 0, .int .i64 b.hook]) (by simp [results, Try.f45, go_sem, zc0, zc1, zc2, zc3, zc4, zc5, zc6, zc7]) rfl ?_
  exact ⟨HBW.out, _, rfl, .bare HR.out.1.1 U64_0 U64_0 HR.out.1.2.1 HR.out.1.2.2 HR.out.2⟩

set_option maxHeartbeats 4000000 in
theorem raw_bytes (b : B) (s : ByteArray) (hr : (Leaf.bytes b s).Rng) (w : World) : Calls Try.prog 45 #[.iface 95 (.agg #[.int .i64 b.kind, .string b.name, .int .i64 b.hook, .string s])] w (RawPost w (.leaf (.bytes b s))) := by
  have HR := Lib.hid hr
  clear hr
  have t82 := as82
  have t85 := as85
  have t87 := as87
  have t90 := as90
  have t92 := as92
  have t94 := as94
  have t95 := as95
  have t104 := as104
  have t108 := as108
  go_enter Try.func45, Try.ntmps45
  go_wp2_with fail
  refine (base_bytes b s _).mono ?_
  rintro e w1 ⟨rfl, hB⟩
  have HB := Lib.hid ((Below.new _).next hB)
  have hbk := (Blk.new w).below hB
  have hsz : w.heap.size < w1.heap.size := by have := hB.size; simp at this; omega
  have rc0 := hbk.c0
  have rc1 := hbk.c1
  have rc2 := hbk.c2
  have rc3 := hbk.c3
  have rc4 := hbk.c4
  have rc5 := hbk.c5
  have rc6 := hbk.c6
  have rc7 := hbk.c7
  have rf0 := hbk.f 0
  have rf1 := hbk.f 1
  have rf2 := hbk.f 2
  have rf3 := hbk.f 3
  have rf4 := hbk.f 4
  have rf5 := hbk.f 5
  have rf6 := hbk.f 6
  have rf7 := hbk.f 7
  clear hB
  go_upto_region 46 with (fail)
  have hq : Blk (((w1.alloc (.cells #[.int .i64 b.kind, .string b.name, .int .i64 b.hook] 71)).alloc (.cells #[.int .i64 b.kind, .string b.name, .int .u64 0, .int .u64 0, .string s, .slice none 0 0, .slice none 0 0, .int .i64 b.hook] 26)).alloc (.cells #[.int .i64 b.kind, .string b.name, .int .i64 b.hook, .string s] 95)) (w1.heap.size + 1) (.int .i64 b.kind) (.string b.name) (.int .u64 0) (.int .u64 0) (.string s) (.slice none 0 0) (.slice none 0 0) (.int .i64 b.hook) := by
    have := (Blk.of (heap_alloc_new (w1.alloc (.cells #[.int .i64 b.kind, .string b.name, .int .i64 b.hook] 71)) (.cells #[.int .i64 b.kind, .string b.name, .int .u64 0, .int .u64 0, .string s, .slice none 0 0, .slice none 0 0, .int .i64 b.hook] 26))).below (Below.new (.cells #[.int .i64 b.kind, .string b.name, .int .i64 b.hook, .string s] 95))
    simpa using this
  have hb2 := ((hbk.below (Below.new (.cells #[.int .i64 b.kind, .string b.name, .int .i64 b.hook] 71))).below (Below.new (.cells #[.int .i64 b.kind, .string b.name, .int .u64 0, .int .u64 0, .string s, .slice none 0 0, .slice none 0 0, .int .i64 b.hook] 26))).below (Below.new (.cells #[.int .i64 b.kind, .string b.name, .int .i64 b.hook, .string s] 95))
  have HB2 := Lib.hid (((HB.out.push (.cells #[.int .i64 b.kind, .string b.name, .int .i64 b.hook] 71)).push (.cells #[.int .i64 b.kind, .string b.name, .int .u64 0, .int .u64 0, .string s, .slice none 0 0, .slice none 0 0, .int .i64 b.hook] 26)).push (.cells #[.int .i64 b.kind, .string b.name, .int .i64 b.hook, .string s] 95))
  generalize ((w1.alloc (.cells #[.int .i64 b.kind, .string b.name, .int .i64 b.hook] 71)).alloc (.cells #[.int .i64 b.kind, .string b.name, .int .u64 0, .int .u64 0, .string s, .slice none 0 0, .slice none 0 0, .int .i64 b.hook] 26)).alloc (.cells #[.int .i64 b.kind, .string b.name, .int .i64 b.hook, .string s] 95) = W at hq hb2 HB2 ⊢
  clear rc0 rc1 rc2 rc3 rc4 rc5 rc6 rc7 rf0 rf1 rf2 rf3 rf4 rf5 rf6 rf7
  have rc0 := hb2.c0
  have rc1 := hb2.c1
  have rc2 := hb2.c2
  have rc3 := hb2.c3
  have rc4 := hb2.c4
  have rc5 := hb2.c5
  have rc6 := hb2.c6
  have rc7 := hb2.c7
  have rf0 := hb2.f 0
  have rf1 := hb2.f 1
  have rf2 := hb2.f 2
  have rf3 := hb2.f 3
  have rf4 := hb2.f 4
  have rf5 := hb2.f 5
  have rf6 := hb2.f 6
  have rf7 := hb2.f 7
  have sc0 := hq.c0
  have sc1 := hq.c1
  have sc2 := hq.c2
  have sc3 := hq.c3
  have sc4 := hq.c4
  have sc5 := hq.c5
  have sc6 := hq.c6
  have sc7 := hq.c7
  have sf0 := hq.f 0
  have sf1 := hq.f 1
  have sf2 := hq.f 2
  have sf3 := hq.f 3
  have sf4 := hq.f 4
  have sf5 := hq.f 5
  have sf6 := hq.f 6
  have sf7 := hq.f 7
  go_wp2_with fail
  change bodyPost Try.prog Try.f45 _ _ _ (st8 W w.heap.size (.int .i64 b.kind) (.string b.name) (.int .u64 0) (.int .u64 0) (.string s) (.slice none 0 0) (.slice none 0 0) (.int .i64 b.hook))
  have hb3 := Blk.put W w.heap.size hb2 (.int .i64 b.kind) (.string b.name) (.int .u64 0) (.int .u64 0) (.string s) (.slice none 0 0) (.slice none 0 0) (.int .i64 b.hook)
  have HBW := Lib.hid (st8_below HB2.out (Nat.le_refl _) (.int .i64 b.kind) (.string b.name) (.int .u64 0) (.int .u64 0) (.string s) (.slice none 0 0) (.slice none 0 0) (.int .i64 b.hook))
  have HKP := Lib.hid (fun k (hk : k ≠ w.heap.size) => st8_other (w := W) (b := w.heap.size) (u0 := .int .i64 b.kind) (u1 := .string b.name) (u2 := .int .u64 0) (u3 := .int .u64 0) (u4 := .string s) (u5 := .slice none 0 0) (u6 := .slice none 0 0) (u7 := .int .i64 b.hook) hk)
  generalize st8 W w.heap.size (.int .i64 b.kind) (.string b.name) (.int .u64 0) (.int .u64 0) (.string s) (.slice none 0 0) (.slice none 0 0) (.int .i64 b.hook) = W9 at hb3 HBW HKP ⊢
  clear rc0 rc1 rc2 rc3 rc4 rc5 rc6 rc7 rf0 rf1 rf2 rf3 rf4 rf5 rf6 rf7 sc0 sc1 sc2 sc3 sc4 sc5 sc6 sc7
  have zc0 := hb3.c0
  have zc1 := hb3.c1
  have zc2 := hb3.c2
  have zc3 := hb3.c3
  have zc4 := hb3.c4
  have zc5 := hb3.c5
  have zc6 := hb3.c6
  have zc7 := hb3.c7
  refine bodyPost_ret (v := .agg #[.int .i64 b.kind, .string b.name, .int .u64 0, .int .u64 0, .string s, .slice none 0 0, .slice none 0 0, .int .i64 b.hook]) (by simp [results, Try.f45, go_sem, zc0, zc1, zc2, zc3, zc4, zc5, zc6, zc7]) rfl ?_
  exact ⟨HBW.out, _, rfl, .bare HR.out.1.1 U64_0 U64_0 HR.out.1.2.1 HR.out.1.2.2 HR.out.2⟩

set_option maxHeartbeats 4000000 in
theorem raw_cplx (b : B) (x y n : Int) (hr : (Leaf.cplx b x y n).Rng) (w : World) : Calls Try.prog 45 #[.iface 92 (.agg #[.int .i64 b.kind, .string b.name, .int .i64 b.hook, .int .u64 x, .int .u64 y, .int .i64 n])] w (RawPost w (.leaf (.cplx b x y n))) := by
  have HR := Lib.hid hr
  clear hr
  have t82 := as82
  have t85 := as85
  have t87 := as87
  have t90 := as90
  have t92 := as92
  have t94 := as94
  have t95 := as95
  have t104 := as104
  have t108 := as108
  go_enter Try.func45, Try.ntmps45
  go_wp2_with fail
  refine (base_cplx b x y n _).mono ?_
  rintro e w1 ⟨rfl, hB⟩
  have HB := Lib.hid ((Below.new _).next hB)
  have hbk := (Blk.new w).below hB
  have hsz : w.heap.size < w1.heap.size := by have := hB.size; simp at this; omega
  have rc0 := hbk.c0
  have rc1 := hbk.c1
  have rc2 := hbk.c2
  have rc3 := hbk.c3
  have rc4 := hbk.c4
  have rc5 := hbk.c5
  have rc6 := hbk.c6
  have rc7 := hbk.c7
  have rf0 := hbk.f 0
  have rf1 := hbk.f 1
  have rf2 := hbk.f 2
  have rf3 := hbk.f 3
  have rf4 := hbk.f 4
  have rf5 := hbk.f 5
  have rf6 := hbk.f 6
  have rf7 := hbk.f 7
  clear hB
  go_wp2_with fail
  go_region
  go_upto_region 46 with (fail)
  have hq : Blk (((w1.alloc (.cells #[.int .i64 b.kind, .string b.name, .int .i64 b.hook] 71)).alloc (.cells #[.int .i64 b.kind, .string b.name, .int .u64 x, .int .u64 y, .string ⟨#[]⟩, .slice none 0 0, .slice none 0 0, .int .i64 b.hook] 26)).alloc (.cells #[.int .i64 b.kind, .string b.name, .int .i64 b.hook, .int .u64 x, .int .u64 y, .int .i64 n] 92)) (w1.heap.size + 1) (.int .i64 b.kind) (.string b.name) (.int .u64 x) (.int .u64 y) (.string ⟨#[]⟩) (.slice none 0 0) (.slice none 0 0) (.int .i64 b.hook) := by
    have := (Blk.of (heap_alloc_new (w1.alloc (.cells #[.int .i64 b.kind, .string b.name, .int .i64 b.hook] 71)) (.cells #[.int .i64 b.kind, .string b.name, .int .u64 x, .int .u64 y, .string ⟨#[]⟩, .slice none 0 0, .slice none 0 0, .int .i64 b.hook] 26))).below (Below.new (.cells #[.int .i64 b.kind, .string b.name, .int .i64 b.hook, .int .u64 x, .int .u64 y, .int .i64 n] 92))
    simpa using this
  have hb2 := ((hbk.below (Below.new (.cells #[.int .i64 b.kind, .string b.name, .int .i64 b.hook] 71))).below (Below.new (.cells #[.int .i64 b.kind, .string b.name, .int .u64 x, .int .u64 y, .string ⟨#[]⟩, .slice none 0 0, .slice none 0 0, .int .i64 b.hook] 26))).below (Below.new (.cells #[.int .i64 b.kind, .string b.name, .int .i64 b.hook, .int .u64 x, .int .u64 y, .int .i64 n] 92))
  have HB2 := Lib.hid (((HB.out.push (.cells #[.int .i64 b.kind, .string b.name, .int .i64 b.hook] 71)).push (.cells #[.int .i64 b.kind, .string b.name, .int .u64 x, .int .u64 y, .string ⟨#[]⟩, .slice none 0 0, .slice none 0 0, .int .i64 b.hook] 26)).push (.cells #[.int .i64 b.kind, .string b.name, .int .i64 b.hook, .int .u64 x, .int .u64 y, .int .i64 n] 92))
  replace hq := hq.drew
  replace hb2 := hb2.drew
  replace HB2 := Lib.hid HB2.out.drew
  generalize (((w1.alloc (.cells #[.int .i64 b.kind, .string b.name, .int .i64 b.hook] 71)).alloc (.cells #[.int .i64 b.kind, .string b.name, .int .u64 x, .int .u64 y, .string ⟨#[]⟩, .slice none 0 0, .slice none 0 0, .int .i64 b.hook] 26)).alloc (.cells #[.int .i64 b.kind, .string b.name, .int .i64 b.hook, .int .u64 x, .int .u64 y, .int .i64 n] 92)).drew = W at hq hb2 HB2 ⊢
  clear rc0 rc1 rc2 rc3 rc4 rc5 rc6 rc7 rf0 rf1 rf2 rf3 rf4 rf5 rf6 rf7
  have rc0 := hb2.c0
  have rc1 := hb2.c1
  have rc2 := hb2.c2
  have rc3 := hb2.c3
  have rc4 := hb2.c4
  have rc5 := hb2.c5
  have rc6 := hb2.c6
  have rc7 := hb2.c7
  have rf0 := hb2.f 0
  have rf1 := hb2.f 1
  have rf2 := hb2.f 2
  have rf3 := hb2.f 3
  have rf4 := hb2.f 4
  have rf5 := hb2.f 5
  have rf6 := hb2.f 6
  have rf7 := hb2.f 7
  have sc0 := hq.c0
  have sc1 := hq.c1
  have sc2 := hq.c2
  have sc3 := hq.c3
  have sc4 := hq.c4
  have sc5 := hq.c5
  have sc6 := hq.c6
  have sc7 := hq.c7
  have sf0 := hq.f 0
  have sf1 := hq.f 1
  have sf2 := hq.f 2
  have sf3 := hq.f 3
  have sf4 := hq.f 4
  have sf5 := hq.f 5
  have sf6 := hq.f 6
  have sf7 := hq.f 7
  go_wp2_with fail
  change bodyPost Try.prog Try.f45 _ _ _ (st8 W w.heap.size (.int .i64 b.kind) (.string b.name) (.int .u64 x) (.int .u64 y) (.string ⟨#[]⟩) (.slice none 0 0) (.slice none 0 0) (.int .i64 b.hook))
  have hb3 := Blk.put W w.heap.size hb2 (.int .i64 b.kind) (.string b.name) (.int .u64 x) (.int .u64 y) (.string ⟨#[]⟩) (.slice none 0 0) (.slice none 0 0) (.int .i64 b.hook)
  have HBW := Lib.hid (st8_below HB2.out (Nat.le_refl _) (.int .i64 b.kind) (.string b.name) (.int .u64 x) (.int .u64 y) (.string ⟨#[]⟩) (.slice none 0 0) (.slice none 0 0) (.int .i64 b.hook))
  have HKP := Lib.hid (fun k (hk : k ≠ w.heap.size) => st8_other (w := W) (b := w.heap.size) (u0 := .int .i64 b.kind) (u1 := .string b.name) (u2 := .int .u64 x) (u3 := .int .u64 y) (u4 := .string ⟨#[]⟩) (u5 := .slice none 0 0) (u6 := .slice none 0 0) (u7 := .int .i64 b.hook) hk)
  generalize st8 W w.heap.size (.int .i64 b.kind) (.string b.name) (.int .u64 x) (.int .u64 y) (.string ⟨#[]⟩) (.slice none 0 0) (.slice none 0 0) (.int .i64 b.hook) = W9 at hb3 HBW HKP ⊢
  clear rc0 rc1 rc2 rc3 rc4 rc5 rc6 rc7 rf0 rf1 rf2 rf3 rf4 rf5 rf6 rf7 sc0 sc1 sc2 sc3 sc4 sc5 sc6 sc7
  have zc0 := hb3.c0
  have zc1 := hb3.c1
  have zc2 := hb3.c2
  have zc3 := hb3.c3
  have zc4 := hb3.c4
  have zc5 := hb3.c5
  have zc6 := hb3.c6
  have zc7 := hb3.c7
  refine bodyPost_ret (v := .agg #[.int .i64 b.kind, .string b.name, .int .u64 x, .int .u64 y, .string ⟨#[]⟩, .slice none 0 0, .slice none 0 0, .int .i64 b.hook]) (by simp [results, Try.f45, go_sem, zc0, zc1, zc2, zc3, zc4, zc5, zc6, zc7]) rfl ?_
  exact ⟨HBW.out, _, rfl, .bare HR.out.1.1 HR.out.2.1 HR.out.2.2 HR.out.1.2.1 HR.out.1.2.2 cap_0⟩

theorem raw_leaf (l : Leaf) (hr : l.Rng) (w : World) : Calls Try.prog 45 #[l.val] w (RawPost w (.leaf l)) := by
  cases l with
  | bool b v =>
    cases v with
    | false => exact raw_bool_false b hr w
    | true => exact raw_bool_true b hr w
  | int b x => exact raw_int b x hr w
  | uint b x => exact raw_uint b x hr w
  | float b x n => exact raw_float b x n hr w
  | cplx b x y n => exact raw_cplx b x y n hr w
  | text b s => exact raw_text b s hr w
  | bytes b s => exact raw_bytes b s hr w
end Go.Proofs.Ythpgnhmikffcpaa
