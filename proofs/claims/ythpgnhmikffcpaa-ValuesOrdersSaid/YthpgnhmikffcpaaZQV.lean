/- Keys have one order: the plain law. No condition. -/
import Derived.Test.YthpgnhmikffcpaaZQN
namespace Go.Proofs.Ythpgnhmikffcpaa
set_option linter.unusedVariables false
set_option linter.unusedSimpArgs false
open Go.RowKit

/-- A descriptor without its hook. -/
def unhD : D → D
  | .mk k t b i x n p _ => .mk k t b i x n p 0
theorem key_of {x : V} (h : x.ok) (hk : keyK x.base.kind = true) : KeyV x := by
  have hk : (1 ≤ x.base.kind ∧ x.base.kind ≤ 11) ∨ x.base.kind = 16 := by simpa [keyK] using hk
  cases x with
  | nil => simp [V.base] at hk
  | leaf l => exact ⟨l, rfl, h⟩
  | great t b a n l => cases t <;> (simp only [V.ok, V.base] at h hk; exfalso; omega)
theorem ord_self (x : V) : ordV x x = 0 := by
  unfold ordV
  rw [if_neg (by simp)]
  split <;> simp [andThenName, cmpI_self, cmpS_self]
theorem ord_anti {a b : V} (ha : KeyV a) (hb : KeyV b) : ordV b a = - ordV a b := ordP_anti (a := (a, a)) (b := (b, b)) ha hb
theorem ord_le {a b c : V} (ha : KeyV a) (hb : KeyV b) (hc : KeyV c) (h1 : ordV a b ≤ 0) (h2 : ordV b c ≤ 0) : ordV a c ≤ 0 := ordP_trans (a := (a, a)) (b := (b, b)) (d := (c, c)) ha hb hc h1 h2
/-- The third comparison is the lesser of the two. -/
theorem ord_min {a b c : V} (ha : KeyV a) (hb : KeyV b) (hc : KeyV c) (h1 : ordV a b ≤ 0) (h2 : ordV b c ≤ 0) : ordV a c = min (ordV a b) (ordV b c) := by
  have v1 := ordV_vals a b
  have v2 := ordV_vals b c
  have v3 := ordV_vals a c
  have l1 := ord_le ha hb hc h1 h2
  have e1 := ord_anti ha hb
  have e2 := ord_anti hb hc
  have e3 := ord_anti ha hc
  have l2 : ordV a c = 0 → ordV a b = 0 ∧ ordV b c = 0 := by
    intro h
    have p1 := ord_le hb hc ha h2 (by omega)
    have p2 := ord_le hc ha hb (by omega) h1
    omega
  have l3 : ordV a b = 0 → ordV b c = 0 → 0 ≤ ordV a c := by
    intro h h'
    have p1 := ord_le hc hb ha (by omega) (by omega)
    omega
  rcases v1 with v1 | v1 | v1 <;> rcases v2 with v2 | v2 | v2 <;> rcases v3 with v3 | v3 | v3 <;> first | omega | (have := l2 v3; omega) | (have := l3 v1 v2; omega)
theorem u64of_inj {x y : Int} (hx : I64 x) (hy : I64 y) (h : u64of x = u64of y) : x = y := by
  have a := wrap_u64of hx
  have b := wrap_u64of hy
  rw [h, b] at a
  exact a.symm
/-- Keys are equal when their descriptors are, but for the hook. -/
theorem ord_zero {x y : V} (ox : x.ok) (oy : y.ok) (kx : keyK x.base.kind = true) (ky : keyK y.base.kind = true) (rx : VR x) (ry : VR y) : ordV x y = 0 ↔ unhD (rawV x) = unhD (rawV y) := by
  obtain ⟨l, rfl, -⟩ := key_of ox kx
  obtain ⟨m, rfl, -⟩ := key_of oy ky
  have kx' : (1 ≤ (V.leaf l).base.kind ∧ (V.leaf l).base.kind ≤ 11) ∨ (V.leaf l).base.kind = 16 := by simpa [keyK] using kx
  clear kx
  have ky' : (1 ≤ (V.leaf m).base.kind ∧ (V.leaf m).base.kind ≤ 11) ∨ (V.leaf m).base.kind = 16 := by simpa [keyK] using ky
  clear ky
  have h1 := ordL_eq ox oy
  unfold ordL at h1
  rw [h1]
  unfold cmpK
  rw [lexC_zero, lexC_zero, lexC_zero, cmpI_zero, cmpI_zero, cmpS_zero, cmpS_zero]
  cases rx with
  | leaf _ hl =>
    cases ry with
    | leaf _ hm =>
      cases l <;> cases m <;> simp only [V.ok, V.base, Leaf.base] at ox oy kx' ky' <;> (first | (exfalso; omega) | skip)
      all_goals simp only [Leaf.Rng] at hl hm
      all_goals simp only [Leaf.num, Leaf.txt, Leaf.nam, Leaf.keyed, V.base, Leaf.base, rawV, rawLeaf, unhD, D.mk.injEq, if_true, true_and, and_true]
      case bool.bool b p c q => exact ⟨fun ⟨e1, e2, e3⟩ => ⟨e1, e3, e2⟩, fun ⟨e1, e2, e3⟩ => ⟨e1, e3, e2⟩⟩
      case int.int b p c q => exact ⟨fun ⟨e1, e2, e3⟩ => ⟨e1, e3, by rw [e2]⟩, fun ⟨e1, e2, e3⟩ => ⟨e1, u64of_inj hl.2 hm.2 e3, e2⟩⟩
      case uint.uint b p c q => exact ⟨fun ⟨e1, e2, e3⟩ => ⟨e1, e3, e2⟩, fun ⟨e1, e2, e3⟩ => ⟨e1, e3, e2⟩⟩
      case text.text b p c q => exact ⟨fun ⟨e1, e2, e3⟩ => ⟨e1, e3, e2⟩, fun ⟨e1, e2, e3⟩ => ⟨e1, e3, e2⟩⟩
      all_goals (constructor <;> (rintro ⟨h, _⟩; exfalso; omega))
end Go.Proofs.Ythpgnhmikffcpaa

/- unhooked: a descriptor without its hook. No condition. -/
namespace Go.Proofs.Ythpgnhmikffcpaa
set_option linter.unusedVariables false
set_option linter.unusedSimpArgs false
open Go.RowKit

def UnhPost (w : World) (d : D) (e : Ending) (w' : World) : Prop := Below w.heap.size w w' ∧ ∃ k0x tyx b0x i0x txx a5x n5x c5x a6x n6x c6x h0x, e = .returned (.agg #[.int .i64 k0x, .string tyx, .int .u64 b0x, .int .u64 i0x, .string txx, .slice a5x n5x c5x, .slice a6x n6x c6x, .int .i64 h0x]) ∧
  IsD w' (.agg #[.int .i64 k0x, .string tyx, .int .u64 b0x, .int .u64 i0x, .string txx, .slice a5x n5x c5x, .slice a6x n6x c6x, .int .i64 h0x]) (unhD d)
set_option maxRecDepth 100000 in
set_option maxHeartbeats 2000000 in
theorem unhooked_any {d : D} {w : World} {v : Value} (h : IsD w v d) : Calls Try.prog 24 #[v] w (UnhPost w d) := by
  obtain ⟨a5, c5, a6, c6, b6, o6, rfl, hk, hb, hi, hh, ht, hx, hn, h1, h2, h3, hp⟩ := h.cases'
  have HU : Hid (∀ w', Below w.heap.size w w' → IsD w' (aggD (unhD d) a5 c5 a6 c6) (unhD d)) := by
    intro w' hW
    refine IsD.later hW ?_
    cases d with
    | mk k t b i x n p h => exact IsD.mk (.mk k t b i x n p 0) a5 c5 a6 c6 b6 o6 hk hb hi (by unfold I64; simp [D.hook]) ht hx hn h1 h2 h3 hp
  clear h hk hb hi hh ht hx hn h1 h2 h3 hp
  have HP : Hid (∀ w', Below w.heap.size w w' → UnhPost w d (.returned (.agg #[.int .i64 d.kind, .string d.type, .int .u64 d.bits, .int .u64 d.imag, .string d.text, .slice a5 d.names.length c5, .slice a6 d.parts.length c6, .int .i64 0])) w') := by
    intro w' hW
    have := HU.out w' hW
    cases d with
    | mk k t b i x n p h => exact ⟨hW, k, t, b, i, x, a5, n.length, c5, a6, p.length, c6, 0, rfl, this⟩
  clear HU
  unfold aggD
  go_enter Try.func24, Try.ntmps24
  go_wp2_with fail
  have hB : Below w.heap.size w ((w.alloc (.cells #[.int .i64 d.kind, .string d.type, .int .u64 d.bits, .int .u64 d.imag, .string d.text, .slice a5 d.names.length c5, .slice a6 d.parts.length c6, .int .i64 0] 26)).alloc (.cells #[.int .i64 d.kind, .string d.type, .int .u64 d.bits, .int .u64 d.imag, .string d.text, .slice a5 d.names.length c5, .slice a6 d.parts.length c6, .int .i64 0] 26)) := (Below.new _).push _
  obtain ⟨z0, z1, z2, z3, z4, z5, z6, z7, _⟩ := Blk.of (heap_alloc_new (w.alloc (.cells #[.int .i64 d.kind, .string d.type, .int .u64 d.bits, .int .u64 d.imag, .string d.text, .slice a5 d.names.length c5, .slice a6 d.parts.length c6, .int .i64 0] 26)) (.cells #[.int .i64 d.kind, .string d.type, .int .u64 d.bits, .int .u64 d.imag, .string d.text, .slice a5 d.names.length c5, .slice a6 d.parts.length c6, .int .i64 0] 26))
  have hs : (w.alloc (.cells #[.int .i64 d.kind, .string d.type, .int .u64 d.bits, .int .u64 d.imag, .string d.text, .slice a5 d.names.length c5, .slice a6 d.parts.length c6, .int .i64 0] 26)).heap.size = w.heap.size + 1 := by simp
  rw [hs] at z0 z1 z2 z3 z4 z5 z6 z7
  generalize (w.alloc (.cells #[.int .i64 d.kind, .string d.type, .int .u64 d.bits, .int .u64 d.imag, .string d.text, .slice a5 d.names.length c5, .slice a6 d.parts.length c6, .int .i64 0] 26)).alloc (.cells #[.int .i64 d.kind, .string d.type, .int .u64 d.bits, .int .u64 d.imag, .string d.text, .slice a5 d.names.length c5, .slice a6 d.parts.length c6, .int .i64 0] 26) = W at hB z0 z1 z2 z3 z4 z5 z6 z7 ⊢
  refine bodyPost_ret (v := .agg #[.int .i64 d.kind, .string d.type, .int .u64 d.bits, .int .u64 d.imag, .string d.text, .slice a5 d.names.length c5, .slice a6 d.parts.length c6, .int .i64 0]) (by simp [results, Try.f24, go_sem, z0, z1, z2, z3, z4, z5, z6, z7]) rfl ?_
  exact HP.out _ hB
end Go.Proofs.Ythpgnhmikffcpaa
