/- Two neighbouring ranges exchanged; an insertion; the comparison of two entries. -/
import Derived.Test.YthpgnhmikffcpaaS1
namespace Go.Proofs.Ythpgnhmikffcpaa
set_option linter.unusedVariables false
open Go.RowKit

set_option maxHeartbeats 2000000 in
theorem rotate_any {W0 : World} {B g n : Nat} (f : Nat → Ent) (a m b cap : Nat) (w : World) (h : St W0 B g n f w) (h1 : a < m) (h2 : m < b) (h3 : b ≤ n) (hn : n < 1000) :
    Calls Try.prog 84 #[.slice (some ⟨g, 0, none⟩) n cap, .int .i64 a, .int .i64 m, .int .i64 b, .func (.func 71) #[] #[]] w fun e w' => e = .returned (.tuple #[]) ∧ St W0 B g n (rot f a m b) w' := by
  have HS := Lib.hid h
  clear h
  go_enter Try.func84, Try.ntmps84
  go_wp2_with fail
  go_loopw [10, 11] (fun vi vj wr => ∃ (i j : Nat) (q : Nat → Ent), vi = .int .i64 i ∧ vj = .int .i64 j ∧ 1 ≤ i ∧ i ≤ m ∧ 1 ≤ j ∧ m + j ≤ n ∧ Hid (rot q (m - i) m (m + j) = rot f a m b) ∧ Hid (St W0 B g n q wr)) (fun vi vj _ => (intOf vi).toNat + (intOf vj).toNat)
  case atStart =>
    refine ⟨m - a, b - m, f, by go_num, by go_num, by omega, by omega, by omega, by omega, ?_, HS.out⟩
    rw [show m - (m - a) = a by omega, show m + (b - m) = b by omega]; rfl
  case round =>
    obtain ⟨i, j, q, rfl, rfl, hi1, him, hj1, hjn, HR, HI⟩ := hrel
    by_cases hne : i = j
    · subst hne
      go_wp2_with fail
      have e1 : (m : Int) - (i : Int) = ((m - i : Nat) : Int) := by omega
      rw [e1]
      refine (swapRange_any q (m - i) m i cap _ HI.out (by omega) hjn hn).mono ?_
      rintro e w1 ⟨rfl, h1⟩
      have H1 := Lib.hid h1
      clear h1
      go_wp2_with fail
      go_end0
      exact ⟨rfl, by rw [← HR.out, rot_even q m i him]; exact H1.out⟩
    · by_cases hlt : j < i
      · go_wp2_with fail
        have e1 : (m : Int) - (i : Int) = ((m - i : Nat) : Int) := by omega
        rw [e1]
        refine (swapRange_any q (m - i) m j cap _ HI.out (by omega) hjn hn).mono ?_
        rintro e w1 ⟨rfl, h1⟩
        have H1 := Lib.hid h1
        clear h1
        go_wp2_with fail
        go_roundw
        case rel =>
          refine ⟨i - j, j, _, by go_num, rfl, by omega, by omega, hj1, hjn, ?_, H1.out⟩
          show _ = _
          rw [← HR.out]; exact rot_left q m i j him hlt
        case measure => simp [intOf]; omega
      · go_wp2_with fail
        have e1 : (m : Int) - (i : Int) = ((m - i : Nat) : Int) := by omega
        have e2 : (m : Int) + (j : Int) - (i : Int) = ((m + j - i : Nat) : Int) := by omega
        rw [e1, e2]
        refine (swapRange_any q (m - i) (m + j - i) i cap _ HI.out (by omega) (by omega) hn).mono ?_
        rintro e w1 ⟨rfl, h1⟩
        have H1 := Lib.hid h1
        clear h1
        go_wp2_with fail
        go_roundw
        case rel =>
          refine ⟨i, j - i, _, rfl, by go_num, hi1, him, by omega, by omega, ?_, H1.out⟩
          show _ = _
          rw [← HR.out]; exact rot_right q m i j him (by omega)
        case measure => simp [intOf]; omega

/-- The order of two keys. -/
def ordL (a b : Leaf) : Int := ordV (.leaf a) (.leaf b)
theorem cmp71 (x y : Ent) (hx : (V.leaf x.k).ok) (hy : (V.leaf y.k).ok) (w : World) :
    Calls Try.prog 71 #[.agg #[.iface x.k.ty x.k.body, .iface x.t x.y], .agg #[.iface y.k.ty y.k.body, .iface y.t y.y]] w fun e w' => e = .returned (.int .i64 (ordL x.k y.k)) ∧ Below w.heap.size w w' := by
  obtain ⟨kx, tx, yx⟩ := x
  obtain ⟨ky, ty, yy⟩ := y
  show Calls Try.prog 71 #[.agg #[.iface kx.ty kx.body, .iface tx yx], .agg #[.iface ky.ty ky.body, .iface ty yy]] w fun e w' => e = .returned (.int .i64 (ordL kx ky)) ∧ Below w.heap.size w w'
  have HX := Lib.hid hx
  have HY := Lib.hid hy
  obtain ⟨c, hc⟩ : ∃ c, c = ordL kx ky := ⟨_, rfl⟩
  rw [← hc]
  have HC := Lib.hid hc
  obtain ⟨t1, ht1⟩ : ∃ v, v = kx.ty := ⟨_, rfl⟩
  obtain ⟨t2, ht2⟩ : ∃ v, v = ky.ty := ⟨_, rfl⟩
  obtain ⟨b1, hb1⟩ : ∃ v, v = kx.body := ⟨_, rfl⟩
  obtain ⟨b2, hb2⟩ : ∃ v, v = ky.body := ⟨_, rfl⟩
  rw [← ht1, ← ht2, ← hb1, ← hb2]
  have H1 := Lib.hid ht1
  have H2 := Lib.hid ht2
  have H3 := Lib.hid hb1
  have H4 := Lib.hid hb2
  clear hx hy hc ht1 ht2 hb1 hb2
  go_enter Try.func71, Try.ntmps71
  go_wp2_with fail
  have hv1 : ∀ W : World, IsV W (.iface t1 b1) (.leaf kx) := fun W => by rw [H1.out, H3.out, ← Leaf.val_eq]; exact .leaf kx
  have hv2 : ∀ W : World, IsV W (.iface t2 b2) (.leaf ky) := fun W => by rw [H2.out, H4.out, ← Leaf.val_eq]; exact .leaf ky
  refine (order_any (hv1 _) (hv2 _) HX.out HY.out).mono ?_
  unfold OrdPost
  rintro e w1 ⟨rfl, hB⟩
  have HB := Lib.hid hB
  clear hB hv1 hv2
  go_wp2_with fail
  go_ret
  exact ⟨by rw [HC.out]; rfl, ((Below.new _).push _).next HB.out⟩
end Go.Proofs.Ythpgnhmikffcpaa
