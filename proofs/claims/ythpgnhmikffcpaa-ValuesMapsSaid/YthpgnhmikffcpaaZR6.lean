/- The descriptor of any value: raw, Raw; how a value is told again: Type, Hook, Size, Deep, Cmp. Condition: the values' numbers are in range. -/
import Derived.Test.YthpgnhmikffcpaaZR5
import Derived.Test.YthpgnhmikffcpaaZR4
import Derived.Test.YthpgnhmikffcpaaZM9
namespace Go.Proofs.Ythpgnhmikffcpaa
set_option linter.unusedVariables false
set_option linter.unusedSimpArgs false
open Go.RowKit

namespace V
mutual
theorem induct_v {P : V → Prop} (hn : P .nil) (hl : ∀ l, P (.leaf l)) (h : ∀ t b a n l, (∀ x ∈ l, P x) → P (.great t b a n l)) : ∀ x, P x
  | .nil => hn
  | .leaf l => hl l
  | .great t b a n l => h t b a n l (induct_w hn hl h l)
theorem induct_w {P : V → Prop} (hn : P .nil) (hl : ∀ l, P (.leaf l)) (h : ∀ t b a n l, (∀ x ∈ l, P x) → P (.great t b a n l)) : ∀ l : List V, ∀ x ∈ l, P x
  | [], _, hx => by cases hx
  | y :: l, x, hx => by
    rcases List.mem_cons.1 hx with e | hx
    · rw [e]; exact induct_v hn hl h y
    · exact induct_w hn hl h l x hx
end
end V

theorem raw_any : ∀ (x : V), VR x → ∀ (w : World) (v : Value), IsV w v x → Calls Try.prog 45 #[v] w (RawPost w x) := by
  refine V.induct_v ?_ ?_ ?_
  · intro _ w v h
    exact raw_nil w v h
  · intro l hr w v h
    cases h
    cases hr with
    | leaf _ h => exact raw_leaf l h w
  · intro t b a n l ih hr w v h
    cases hr with
    | great _ _ _ _ _ hb ha hn hl =>
      have ih' : ∀ x ∈ l, ∀ (w : World) (v : Value), IsV w v x → Calls Try.prog 45 #[v] w (RawPost w x) := fun x hx => ih x hx (hl x hx)
      cases h with
      | list _ a c bb oo vs _ h1 h2 h3 h4 h5 h6 => exact raw_many 114 _ .list b l (by decide) (by decide) (by decide) (by decide) (by decide) (by decide) (by decide) (by decide) (by decide) w (.list b a c bb oo vs l h1 h2 h3 h4 h5 h6) hb ih'
      | struct _ a c bb oo vs names _ hnn h1 h2 h3 h4 h4' h5 h6 => exact raw_struct b a c bb oo vs n l w hnn h2 h3 h4 h4' h5 h6 hb hn ih'
      | map _ a c bb oo m vs _ hnn h1 h2 h3 h4 h4' h5 h6 => exact raw_many 117 _ .map b l (by decide) (by decide) (by decide) (by decide) (by decide) (by decide) (by decide) (by decide) (by decide) w (.map b a c bb oo m vs l hnn h1 h2 h3 h4 h4' h5 h6) hb ih'
      | ptr0 _ addr => exact raw_ptr0 b a hb ha w
      | ptr1 _ addr u x hv h =>
        rcases h.shape with rfl | ⟨s, z, rfl⟩
        · exact absurd rfl hv
        · exact raw_ptr1 b a s z x w h hb ha (fun w v hh => ih' x (by simp) w v hh)

theorem Raw_any {x : V} (hr : VR x) {w : World} {v : Value} (h : IsV w v x) : Calls Try.prog 17 #[v] w (RawPost w x) := by
  have HV := Lib.hid h
  have hs := h.shape
  clear h
  have HC : Hid (∀ W, Below w.heap.size w W → Calls Try.prog 45 #[v] W (RawOpen W x)) := fun W hW => (raw_any x hr W v (HV.out.later hW)).mono fun e w' h => raw_open h
  clear hr
  rcases hs with rfl | ⟨t, y, rfl⟩
  all_goals
    go_enter Try.func17, Try.ntmps17
    go_wp2_with fail
    refine (HC.out _ (Below.new _)).mono ?_
    rintro e w3 ⟨hb3, k0, ty, b0, i0, tx, a5, n5, c5, a6, n6, c6, h0, rfl, hd3⟩
    have hbk := (Blk.new w).below hb3
    have HB := Lib.hid ((Below.new (w := w) zeroBlk).next hb3)
    have HD3 := Lib.hid hd3
    have hz : w.heap.size < w3.heap.size := by have := hb3.size; simp at this; omega
    clear hb3 hd3
    have rc0 := hbk.c0
    have rc1 := hbk.c1
    have rc2 := hbk.c2
    have rc3 := hbk.c3
    have rc4 := hbk.c4
    have rc5 := hbk.c5
    have rc6 := hbk.c6
    have rc7 := hbk.c7
    have rf0 := hbk.f 0
    have rf1 := hbk.f 1
    have rf2 := hbk.f 2
    have rf3 := hbk.f 3
    have rf4 := hbk.f 4
    have rf5 := hbk.f 5
    have rf6 := hbk.f 6
    have rf7 := hbk.f 7
    go_wp2_with fail
    change bodyPost Try.prog Try.f17 _ _ _ (st8 w3 w.heap.size (.int .i64 k0) (.string ty) (.int .u64 b0) (.int .u64 i0) (.string tx) (.slice a5 n5 c5) (.slice a6 n6 c6) (.int .i64 h0))
    have hb9 := Blk.put w3 w.heap.size hbk (.int .i64 k0) (.string ty) (.int .u64 b0) (.int .u64 i0) (.string tx) (.slice a5 n5 c5) (.slice a6 n6 c6) (.int .i64 h0)
    have HBW := Lib.hid (st8_below HB.out (Nat.le_refl _) (.int .i64 k0) (.string ty) (.int .u64 b0) (.int .u64 i0) (.string tx) (.slice a5 n5 c5) (.slice a6 n6 c6) (.int .i64 h0))
    have HKP := Lib.hid (fun k (hk : k ≠ w.heap.size) => st8_other (w := w3) (b := w.heap.size) (u0 := .int .i64 k0) (u1 := .string ty) (u2 := .int .u64 b0) (u3 := .int .u64 i0) (u4 := .string tx) (u5 := .slice a5 n5 c5) (u6 := .slice a6 n6 c6) (u7 := .int .i64 h0) hk)
    generalize st8 w3 w.heap.size (.int .i64 k0) (.string ty) (.int .u64 b0) (.int .u64 i0) (.string tx) (.slice a5 n5 c5) (.slice a6 n6 c6) (.int .i64 h0) = W9 at hb9 HBW HKP ⊢
    clear rc0 rc1 rc2 rc3 rc4 rc5 rc6 rc7 rf0 rf1 rf2 rf3 rf4 rf5 rf6 rf7
    have zc0 := hb9.c0
    have zc1 := hb9.c1
    have zc2 := hb9.c2
    have zc3 := hb9.c3
    have zc4 := hb9.c4
    have zc5 := hb9.c5
    have zc6 := hb9.c6
    have zc7 := hb9.c7
    refine bodyPost_ret (v := .agg #[.int .i64 k0, .string ty, .int .u64 b0, .int .u64 i0, .string tx, .slice a5 n5 c5, .slice a6 n6 c6, .int .i64 h0]) (by simp [results, Try.f17, go_sem, zc0, zc1, zc2, zc3, zc4, zc5, zc6, zc7]) rfl ?_
    exact ⟨HBW.out, _, rfl, IsDF.mono (S := fun k => w.heap.size + 1 ≤ k) (fun k hk => by omega) ((HD3.out.mono (S' := fun k => w.heap.size + 1 ≤ k) fun k hk => by simpa using hk).keep fun k hk hk' => HKP.out k (by omega))⟩
end Go.Proofs.Ythpgnhmikffcpaa
