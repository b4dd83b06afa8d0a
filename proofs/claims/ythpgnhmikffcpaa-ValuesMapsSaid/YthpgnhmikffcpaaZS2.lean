/- Entries of a map in a row of the call's own; two of them exchanged. -/
import Derived.Test.YthpgnhmikffcpaaZH
import Derived.Test.YthpgnhmikffcpaaZSQ
import Derived.RegionTactic
import Derived.BigRegion
import Derived.BigQuiet
namespace Go.Proofs.Ythpgnhmikffcpaa
set_option linter.unusedVariables false
open Go.RowKit

def Leaf.ty : Leaf → TypeId
  | .bool _ _ => 82
  | .int _ _ => 85
  | .uint _ _ => 87
  | .float _ _ _ => 90
  | .cplx _ _ _ _ => 92
  | .text _ _ => 94
  | .bytes _ _ => 95
def Leaf.body : Leaf → Value
  | .bool b v => .agg #[.int .i64 b.kind, .string b.name, .int .i64 b.hook, .bool v]
  | .int b x => .agg #[.int .i64 b.kind, .string b.name, .int .i64 b.hook, .int .i64 x]
  | .uint b x => .agg #[.int .i64 b.kind, .string b.name, .int .i64 b.hook, .int .u64 x]
  | .float b x n => .agg #[.int .i64 b.kind, .string b.name, .int .i64 b.hook, .int .u64 x, .int .i64 n]
  | .cplx b x y n => .agg #[.int .i64 b.kind, .string b.name, .int .i64 b.hook, .int .u64 x, .int .u64 y, .int .i64 n]
  | .text b s => .agg #[.int .i64 b.kind, .string b.name, .int .i64 b.hook, .string s]
  | .bytes b s => .agg #[.int .i64 b.kind, .string b.name, .int .i64 b.hook, .string s]
theorem Leaf.val_eq (l : Leaf) : l.val = .iface l.ty l.body := by cases l <;> rfl

/-- A map's entry: its key, its value. -/
structure Ent where
  k : Leaf
  t : TypeId
  y : Value

/-- The entries f lie in block g; what lies below B is as it was. -/
structure St (W0 : World) (B g n : Nat) (f : Nat → Ent) (w : World) : Prop where
  c0 : ∀ i, i < n → w.cell? ⟨g, i * 2, none⟩ = some (.iface (f i).k.ty (f i).k.body)
  c1 : ∀ i, i < n → w.cell? ⟨g, i * 2 + 1, none⟩ = some (.iface (f i).t (f i).y)
  f0 : ∀ i, i < n → w.frozen? ⟨g, i * 2, none⟩ = false
  f1 : ∀ i, i < n → w.frozen? ⟨g, i * 2 + 1, none⟩ = false
  lo : Below B W0 w
  hB : B ≤ g
  hg : g < w.heap.size

theorem St.call {W0 : World} {B g n : Nat} {f : Nat → Ent} {w w' : World} (h : St W0 B g n f w) (hb : Below w.heap.size w w') : St W0 B g n f w' where
  c0 i hi := cell_below hb (h.c0 i hi)
  c1 i hi := cell_below hb (h.c1 i hi)
  f0 i hi := by rw [hb.frozen h.hg]; exact h.f0 i hi
  f1 i hi := by rw [hb.frozen h.hg]; exact h.f1 i hi
  lo := h.lo.trans (hb.mono (by have := h.hB; have := h.hg; omega))
  hB := h.hB
  hg := by have := hb.size; have := h.hg; omega

theorem cell_put (w : World) (g k l : Nat) (v : Value) (h : (w.cell? ⟨g, k, none⟩).isSome = true) : (w.setCell ⟨g, k, none⟩ v).cell? ⟨g, l, none⟩ = if l = k then some v else w.cell? ⟨g, l, none⟩ := by
  by_cases e : l = k
  · subst e; rw [if_pos rfl]; exact World.cell?_setCell_same' w _ v h
  · rw [if_neg e]
    exact World.cell?_setCell_other w _ _ v (by intro hh; injection hh; omega)
theorem some_put (w : World) (g k l : Nat) (v : Value) (h : (w.cell? ⟨g, k, none⟩).isSome = true) (h' : (w.cell? ⟨g, l, none⟩).isSome = true) : ((w.setCell ⟨g, k, none⟩ v).cell? ⟨g, l, none⟩).isSome = true := by
  rw [cell_put w g k l v h]; split
  · rfl
  · exact h'
theorem St.drew {W0 : World} {B g n : Nat} {f : Nat → Ent} {w : World} (h : St W0 B g n f w) : St W0 B g n f w.drew :=
  ⟨h.c0, h.c1, h.f0, h.f1, h.lo.drew, h.hB, h.hg⟩
theorem St.swap {W0 : World} {B g n : Nat} {q : Nat → Ent} {w : World} (h : St W0 B g n q w) {i j : Nat} (hi : i < n) (hj : j < n) (hij : i ≠ j) :
    St W0 B g n (swp q i j) (((((w.setCell ⟨g, i * 2, none⟩ (.iface (q j).k.ty (q j).k.body)).setCell ⟨g, i * 2 + 1, none⟩ (.iface (q j).t (q j).y)).setCell ⟨g, j * 2, none⟩ (.iface (q i).k.ty (q i).k.body)).setCell ⟨g, j * 2 + 1, none⟩ (.iface (q i).t (q i).y)).drew) := by
  apply St.drew
  have key : ∀ l x, w.cell? ⟨g, l, none⟩ = some x → ((((w.setCell ⟨g, i * 2, none⟩ (.iface (q j).k.ty (q j).k.body)).setCell ⟨g, i * 2 + 1, none⟩ (.iface (q j).t (q j).y)).setCell ⟨g, j * 2, none⟩ (.iface (q i).k.ty (q i).k.body)).setCell ⟨g, j * 2 + 1, none⟩ (.iface (q i).t (q i).y)).cell? ⟨g, l, none⟩ =
      some (if l = j * 2 + 1 then .iface (q i).t (q i).y else if l = j * 2 then .iface (q i).k.ty (q i).k.body else if l = i * 2 + 1 then .iface (q j).t (q j).y else if l = i * 2 then .iface (q j).k.ty (q j).k.body else x) := by
    intro l x hx
    have a0 : (w.cell? ⟨g, i * 2, none⟩).isSome = true := by rw [h.c0 i hi]; rfl
    have a1 : (w.cell? ⟨g, i * 2 + 1, none⟩).isSome = true := by rw [h.c1 i hi]; rfl
    have a2 : (w.cell? ⟨g, j * 2, none⟩).isSome = true := by rw [h.c0 j hj]; rfl
    have a3 : (w.cell? ⟨g, j * 2 + 1, none⟩).isSome = true := by rw [h.c1 j hj]; rfl
    have b1 := some_put w g _ _ (.iface (q j).k.ty (q j).k.body) a0 a1
    have b2 := some_put w g _ _ (.iface (q j).k.ty (q j).k.body) a0 a2
    have b3 := some_put w g _ _ (.iface (q j).k.ty (q j).k.body) a0 a3
    have d2 := some_put _ g _ _ (.iface (q j).t (q j).y) b1 b2
    have d3 := some_put _ g _ _ (.iface (q j).t (q j).y) b1 b3
    have m3 := some_put _ g _ _ (.iface (q i).k.ty (q i).k.body) d2 d3
    rw [cell_put _ _ _ _ _ m3, cell_put _ _ _ _ _ d2, cell_put _ _ _ _ _ b1, cell_put _ _ _ _ _ a0, hx]
    split
    · rfl
    · split
      · rfl
      · split
        · rfl
        · split <;> rfl
  constructor
  · intro k hk
    rw [key _ _ (h.c0 k hk)]
    unfold swp
    by_cases e1 : k = i
    · subst e1; rw [if_pos rfl, if_neg (by omega), if_neg (by omega), if_neg (by omega), if_pos rfl]
    · rw [if_neg e1]
      by_cases e2 : k = j
      · subst e2; rw [if_pos rfl, if_neg (by omega), if_pos rfl]
      · rw [if_neg e2, if_neg (by omega), if_neg (by omega), if_neg (by omega), if_neg (by omega)]
  · intro k hk
    rw [key _ _ (h.c1 k hk)]
    unfold swp
    by_cases e1 : k = i
    · subst e1; rw [if_pos rfl, if_neg (by omega), if_neg (by omega), if_pos rfl]
    · rw [if_neg e1]
      by_cases e2 : k = j
      · subst e2; rw [if_pos rfl, if_pos rfl]
      · rw [if_neg e2, if_neg (by omega), if_neg (by omega), if_neg (by omega), if_neg (by omega)]
  · intro k hk; simpa using h.f0 k hk
  · intro k hk; simpa using h.f1 k hk
  · exact (((h.lo.setCell h.hB _).setCell h.hB _).setCell h.hB _).setCell h.hB _
  · exact h.hB
  · simpa using h.hg

set_option maxHeartbeats 2000000 in
theorem swapRange_any {W0 : World} {B g n : Nat} (f : Nat → Ent) (a b c cap : Nat) (w : World) (h : St W0 B g n f w) (h1 : a + c ≤ b) (h2 : b + c ≤ n) (hn : n < 1000) :
    Calls Try.prog 85 #[.slice (some ⟨g, 0, none⟩) n cap, .int .i64 a, .int .i64 b, .int .i64 c, .func (.func 71) #[] #[]] w fun e w' => e = .returned (.tuple #[]) ∧ St W0 B g n (swr f a b c) w' := by
  have HS := Lib.hid h
  clear h
  go_enter Try.func85, Try.ntmps85
  go_wp2_with fail
  go_loopw [10] (fun vi wr => ∃ i : Nat, vi = .int .i64 i ∧ i ≤ c ∧ Hid (St W0 B g n (swr f a b i) wr)) (fun vi _ => c - (intOf vi).toNat)
  case atStart => exact ⟨0, rfl, by omega, by rw [swr_zero]; exact HS.out⟩
  case round =>
    obtain ⟨i, rfl, hi, HI⟩ := hrel
    by_cases hc : i < c
    · obtain ⟨q, hq⟩ : ∃ q, q = swr f a b i := ⟨_, rfl⟩
      rw [← hq] at HI
      have HQ := Lib.hid hq
      clear hq
      have x0 := HI.out.c0 (a + i) (by omega)
      have x1 := HI.out.c1 (a + i) (by omega)
      have y0 := HI.out.c0 (b + i) (by omega)
      have y1 := HI.out.c1 (b + i) (by omega)
      have e0 := HI.out.f0 (a + i) (by omega)
      have e1 := HI.out.f1 (a + i) (by omega)
      have g0 := HI.out.f0 (b + i) (by omega)
      have g1 := HI.out.f1 (b + i) (by omega)
      obtain ⟨tx, htx⟩ : ∃ v, v = (q (a + i)).k.ty := ⟨_, rfl⟩
      obtain ⟨vx, hvx⟩ : ∃ v, v = (q (a + i)).k.body := ⟨_, rfl⟩
      obtain ⟨sx, hsx⟩ : ∃ v, v = (q (a + i)).t := ⟨_, rfl⟩
      obtain ⟨zx, hzx⟩ : ∃ v, v = (q (a + i)).y := ⟨_, rfl⟩
      rw [← htx, ← hvx] at x0
      rw [← hsx, ← hzx] at x1
      have HTx := Lib.hid htx
      have HVx := Lib.hid hvx
      have HSx := Lib.hid hsx
      have HZx := Lib.hid hzx
      clear htx hvx hsx hzx
      obtain ⟨ty, hty⟩ : ∃ v, v = (q (b + i)).k.ty := ⟨_, rfl⟩
      obtain ⟨vy, hvy⟩ : ∃ v, v = (q (b + i)).k.body := ⟨_, rfl⟩
      obtain ⟨sy, hsy⟩ : ∃ v, v = (q (b + i)).t := ⟨_, rfl⟩
      obtain ⟨zy, hzy⟩ : ∃ v, v = (q (b + i)).y := ⟨_, rfl⟩
      rw [← hty, ← hvy] at y0
      rw [← hsy, ← hzy] at y1
      have HTy := Lib.hid hty
      have HVy := Lib.hid hvy
      have HSy := Lib.hid hsy
      have HZy := Lib.hid hzy
      clear hty hvy hsy hzy
      have p1 : (a : Int) + (i : Int) < (n : Int) := by omega
      have p2 : (b : Int) + (i : Int) < (n : Int) := by omega
      have p3 : (0 : Int) ≤ (a : Int) + (i : Int) := by omega
      have p4 : (0 : Int) ≤ (b : Int) + (i : Int) := by omega
      have p5 : ((a : Int) + (i : Int)).toNat = a + i := by omega
      have p6 : ((b : Int) + (i : Int)).toNat = b + i := by omega
      have ne1 : ¬ (b + i) * 2 = (a + i) * 2 := by omega
      have ne2 : ¬ (b + i) * 2 = (a + i) * 2 + 1 := by omega
      have ne3 : ¬ (b + i) * 2 + 1 = (a + i) * 2 := by omega
      have ne4 : ¬ (b + i) * 2 + 1 = (a + i) * 2 + 1 := by omega
      go_wp2_with fail
      go_region
      go_wp2_with fail
      go_roundw
      case rel =>
        refine ⟨i + 1, by go_num, by omega, ?_⟩
        rw [← swr_succ f a b i (by omega), ← HQ.out, HTx.out, HVx.out, HSx.out, HZx.out, HTy.out, HVy.out, HSy.out, HZy.out]
        exact HI.out.swap (by omega) (by omega) (by omega)
      case measure => simp [intOf]; omega
    · obtain rfl : i = c := by omega
      go_wp2_with fail
      go_end0
      exact ⟨rfl, HI.out⟩
end Go.Proofs.Ythpgnhmikffcpaa

/- Two neighbouring ranges exchanged; an insertion; the comparison of two entries. -/
namespace Go.Proofs.Ythpgnhmikffcpaa
set_option linter.unusedVariables false
open Go.RowKit

set_option maxHeartbeats 2000000 in
theorem rotate_any {W0 : World} {B g n : Nat} (f : Nat → Ent) (a m b cap : Nat) (w : World) (h : St W0 B g n f w) (h1 : a < m) (h2 : m < b) (h3 : b ≤ n) (hn : n < 1000) :
    Calls Try.prog 84 #[.slice (some ⟨g, 0, none⟩) n cap, .int .i64 a, .int .i64 m, .int .i64 b, .func (.func 71) #[] #[]] w fun e w' => e = .returned (.tuple #[]) ∧ St W0 B g n (rot f a m b) w' := by
  have HS := Lib.hid h
  clear h
  go_enter Try.func84, Try.ntmps84
  go_wp2_with fail
  go_loopw [10, 11] (fun vi vj wr => ∃ (i j : Nat) (q : Nat → Ent), vi = .int .i64 i ∧ vj = .int .i64 j ∧ 1 ≤ i ∧ i ≤ m ∧ 1 ≤ j ∧ m + j ≤ n ∧ Hid (rot q (m - i) m (m + j) = rot f a m b) ∧ Hid (St W0 B g n q wr)) (fun vi vj _ => (intOf vi).toNat + (intOf vj).toNat)
  case atStart =>
    refine ⟨m - a, b - m, f, by go_num, by go_num, by omega, by omega, by omega, by omega, ?_, HS.out⟩
    rw [show m - (m - a) = a by omega, show m + (b - m) = b by omega]; rfl
  case round =>
    obtain ⟨i, j, q, rfl, rfl, hi1, him, hj1, hjn, HR, HI⟩ := hrel
    by_cases hne : i = j
    · subst hne
      go_wp2_with fail
      have e1 : (m : Int) - (i : Int) = ((m - i : Nat) : Int) := by omega
      rw [e1]
      refine (swapRange_any q (m - i) m i cap _ HI.out (by omega) hjn hn).mono ?_
      rintro e w1 ⟨rfl, h1⟩
      have H1 := Lib.hid h1
      clear h1
      go_wp2_with fail
      go_end0
      exact ⟨rfl, by rw [← HR.out, rot_even q m i him]; exact H1.out⟩
    · by_cases hlt : j < i
      · go_wp2_with fail
        have e1 : (m : Int) - (i : Int) = ((m - i : Nat) : Int) := by omega
        rw [e1]
        refine (swapRange_any q (m - i) m j cap _ HI.out (by omega) hjn hn).mono ?_
        rintro e w1 ⟨rfl, h1⟩
        have H1 := Lib.hid h1
        clear h1
        go_wp2_with fail
        go_roundw
        case rel =>
          refine ⟨i - j, j, _, by go_num, rfl, by omega, by omega, hj1, hjn, ?_, H1.out⟩
          show _ = _
          rw [← HR.out]; exact rot_left q m i j him hlt
        case measure => simp [intOf]; omega
      · go_wp2_with fail
        have e1 : (m : Int) - (i : Int) = ((m - i : Nat) : Int) := by omega
        have e2 : (m : Int) + (j : Int) - (i : Int) = ((m + j - i : Nat) : Int) := by omega
        rw [e1, e2]
        refine (swapRange_any q (m - i) (m + j - i) i cap _ HI.out (by omega) (by omega) hn).mono ?_
        rintro e w1 ⟨rfl, h1⟩
        have H1 := Lib.hid h1
        clear h1
        go_wp2_with fail
        go_roundw
        case rel =>
          refine ⟨i, j - i, _, rfl, by go_num, hi1, him, by omega, by omega, ?_, H1.out⟩
          show _ = _
          rw [← HR.out]; exact rot_right q m i j him (by omega)
        case measure => simp [intOf]; omega

/-- The order of two keys. -/
def ordL (a b : Leaf) : Int := ordV (.leaf a) (.leaf b)
theorem cmp71 (x y : Ent) (hx : (V.leaf x.k).ok) (hy : (V.leaf y.k).ok) (w : World) :
    Calls Try.prog 71 #[.agg #[.iface x.k.ty x.k.body, .iface x.t x.y], .agg #[.iface y.k.ty y.k.body, .iface y.t y.y]] w fun e w' => e = .returned (.int .i64 (ordL x.k y.k)) ∧ Below w.heap.size w w' := by
  obtain ⟨kx, tx, yx⟩ := x
  obtain ⟨ky, ty, yy⟩ := y
  show Calls Try.prog 71 #[.agg #[.iface kx.ty kx.body, .iface tx yx], .agg #[.iface ky.ty ky.body, .iface ty yy]] w fun e w' => e = .returned (.int .i64 (ordL kx ky)) ∧ Below w.heap.size w w'
  have HX := Lib.hid hx
  have HY := Lib.hid hy
  obtain ⟨c, hc⟩ : ∃ c, c = ordL kx ky := ⟨_, rfl⟩
  rw [← hc]
  have HC := Lib.hid hc
  obtain ⟨t1, ht1⟩ : ∃ v, v = kx.ty := ⟨_, rfl⟩
  obtain ⟨t2, ht2⟩ : ∃ v, v = ky.ty := ⟨_, rfl⟩
  obtain ⟨b1, hb1⟩ : ∃ v, v = kx.body := ⟨_, rfl⟩
  obtain ⟨b2, hb2⟩ : ∃ v, v = ky.body := ⟨_, rfl⟩
  rw [← ht1, ← ht2, ← hb1, ← hb2]
  have H1 := Lib.hid ht1
  have H2 := Lib.hid ht2
  have H3 := Lib.hid hb1
  have H4 := Lib.hid hb2
  clear hx hy hc ht1 ht2 hb1 hb2
  go_enter Try.func71, Try.ntmps71
  go_wp2_with fail
  have hv1 : ∀ W : World, IsV W (.iface t1 b1) (.leaf kx) := fun W => by rw [H1.out, H3.out, ← Leaf.val_eq]; exact .leaf kx
  have hv2 : ∀ W : World, IsV W (.iface t2 b2) (.leaf ky) := fun W => by rw [H2.out, H4.out, ← Leaf.val_eq]; exact .leaf ky
  refine (order_any (hv1 _) (hv2 _) HX.out HY.out).mono ?_
  unfold OrdPost
  rintro e w1 ⟨rfl, hB⟩
  have HB := Lib.hid hB
  clear hB hv1 hv2
  go_wp2_with fail
  go_ret
  exact ⟨by rw [HC.out]; rfl, ((Below.new _).push _).next HB.out⟩
end Go.Proofs.Ythpgnhmikffcpaa
