/- The merge of two sorted runs of a map's entries, where one of them is one entry long. -/
import Derived.Test.YtkpfeodffhfejaaGreatDoorCA14
namespace Go.Proofs.YtkpfeodffhfejaaGreatDoor
set_option linter.unusedVariables false
set_option maxRecDepth 1000000
open Go.RowKit

theorem InsAt.mk' {W0 : World} {B g n a b : Nat} {f : Nat → Ent} {w : World} (h : St W0 B g n f w) (hok : OkE n f) : InsAt W0 B g n f a b f w := ⟨h, Mix.refl _ _ _, PermOn.refl _ _, hok⟩

set_option maxHeartbeats 16000000 in
set_option maxRecDepth 100000 in
theorem merge_left {W0 : World} {B g n : Nat} (f : Nat → Ent) (a m b cap : Nat) (w : World) (h : St W0 B g n f w) (hok : OkE n f) (hm : m = a + 1) (h1 : m < b) (h2 : b ≤ n) (hn : n < 1000) (hs : Srt ltE f m b) :
    Calls Tryz.prog 137 #[.slice (some ⟨g, 0, none⟩) n cap, .int .i64 a, .int .i64 m, .int .i64 b, .func (.func 87) #[] #[]] w (SortPost W0 B g n f a b) := by
  have HS : Hid (InsAt W0 B g n f a b f w) := .mk' h hok
  have HT := Lib.hid hs
  have HM := Lib.hid hm
  have hma : (m : Int) - (a : Int) = 1 := by omega
  clear h hok hs hm
  go_enter Tryz.func137, Tryz.ntmps137
  go_wp2_with fail
  go_loopw [10, 11, 12] (fun vi vj _ wr => ∃ (i j : Nat), vi = .int .i64 i ∧ vj = .int .i64 j ∧ m ≤ i ∧ i ≤ j ∧ j ≤ b ∧ Hid (∀ k, m ≤ k → k < i → ltE (f k) (f a)) ∧ Hid (∀ k, j ≤ k → k < b → ¬ ltE (f k) (f a)) ∧ Hid (InsAt W0 B g n f a b f wr)) (fun vi vj _ _ => (intOf vj).toNat - (intOf vi).toNat)
  case atStart =>
    exact ⟨m, b, rfl, rfl, Nat.le_refl _, by omega, Nat.le_refl _, fun k x y => by omega, fun k x y => by omega, HS.out⟩
  case round =>
    obtain ⟨i, j, rfl, rfl, hmi, hij, hjb, HL, HG, HI⟩ := hrel
    by_cases hlt : i < j
    · obtain ⟨c, hc⟩ : ∃ c, c = (i + j) / 2 := ⟨_, rfl⟩
      have hc1 : i ≤ c := by omega
      have hc2 : c < j := by omega
      have HC0 := Lib.hid hc
      clear hc
      have ham : a < m := by have := HM.out; omega
      go_wp2_with fail
      rw [show ((i : Int) + (j : Int)) / 2 = ((c : Nat) : Int) by have := HC0.out; omega]
      have x0 := (HI.out.st).c0 (c) (by omega)
      have x1 := (HI.out.st).c1 (c) (by omega)
      obtain ⟨tx, htx⟩ : ∃ v, v = (f (c)).k.ty := ⟨_, rfl⟩
      obtain ⟨vx, hvx⟩ : ∃ v, v = (f (c)).k.body := ⟨_, rfl⟩
      obtain ⟨sx, hsx⟩ : ∃ v, v = (f (c)).t := ⟨_, rfl⟩
      obtain ⟨zx, hzx⟩ : ∃ v, v = (f (c)).y := ⟨_, rfl⟩
      rw [← htx, ← hvx] at x0
      rw [← hsx, ← hzx] at x1
      have HTx := Lib.hid htx
      have HVx := Lib.hid hvx
      have HSx := Lib.hid hsx
      have HZx := Lib.hid hzx
      have y0 := (HI.out.st).c0 (a) (by omega)
      have y1 := (HI.out.st).c1 (a) (by omega)
      obtain ⟨ty, hty⟩ : ∃ v, v = (f (a)).k.ty := ⟨_, rfl⟩
      obtain ⟨vy, hvy⟩ : ∃ v, v = (f (a)).k.body := ⟨_, rfl⟩
      obtain ⟨sy, hsy⟩ : ∃ v, v = (f (a)).t := ⟨_, rfl⟩
      obtain ⟨zy, hzy⟩ : ∃ v, v = (f (a)).y := ⟨_, rfl⟩
      rw [← hty, ← hvy] at y0
      rw [← hsy, ← hzy] at y1
      have HTy := Lib.hid hty
      have HVy := Lib.hid hvy
      have HSy := Lib.hid hsy
      have HZy := Lib.hid hzy
      obtain ⟨cc, hcc⟩ : ∃ cc, cc = cmpK (f (c)).k (f (a)).k := ⟨_, rfl⟩
      have HCC := Lib.hid hcc
      have HC : Hid (∀ W : World, Calls Tryz.prog 87 #[.agg #[.iface tx vx, .iface sx zx], .agg #[.iface ty vy, .iface sy zy]] W fun e w' => e = .returned (.int .i64 cc) ∧ Below W.heap.size W w') := by
        intro W
        have := cmp71 (f (c)) (f (a)) (HI.out.ok (c) (by omega)) (HI.out.ok (a) (by omega)) W
        rw [ordL_eq (HI.out.ok (c) (by omega)) (HI.out.ok (a) (by omega)), ← hcc, ← htx, ← hvx, ← hsx, ← hzx, ← hty, ← hvy, ← hsy, ← hzy] at this
        exact this
      clear hcc
      clear htx hvx hsx hzx hty hvy hsy hzy
      have p1 : (c : Int) < (n : Int) := by omega
      have p2 : (a : Int) < (n : Int) := by omega
      by_cases hneg : cc < 0
      · go_wp2_with fail
        go_region_held3 (fun w' => w'.cell? ⟨g, c * 2, none⟩ = some (.iface tx vx) ∧ w'.cell? ⟨g, c * 2 + 1, none⟩ = some (.iface sx zx) ∧ w'.cell? ⟨g, a * 2, none⟩ = some (.iface ty vy) ∧ w'.cell? ⟨g, a * 2 + 1, none⟩ = some (.iface sy zy)) (first | exact ⟨x0, x1, y0, y1⟩ | (refine ⟨?_, ?_, ?_, ?_⟩ <;> (with_reducible (refine cell_below HBc.out ?_)) <;> assumption)) (first
          | (go_at_call 87; (with_reducible refine (HC.out _).mono ?_); rintro e w5 ⟨rfl, hBc⟩; have HBc := Lib.hid hBc; clear hBc))
        have HJ5 := Lib.hid (HI.out.drew.call HBc.out)
        clear x0 x1 y0 y1
        go_wp2_with fail
        go_roundw
        case rel =>
          refine ⟨c + 1, j, by go_num, rfl, by omega, by omega, hjb, ?_, HG.out, HJ5.out⟩
          intro k x y
          by_cases e : k = c
          · subst e; unfold ltE; rw [← HCC.out]; exact hneg
          · by_cases e2 : k < i
            · exact HL.out k x e2
            · have hx : ¬ ltE (f c) (f k) := HT.out k c (by omega) (by omega) (by omega)
              have hy : ltE (f c) (f a) := by unfold ltE; rw [← HCC.out]; exact hneg
              have a1 := totK.anti (f c).k (f k).k
              have a2 := totK.trans (f a).k (f k).k (f c).k
              have a3 := totK.anti (f k).k (f a).k
              have a4 := totK.anti (f c).k (f a).k
              unfold ltE at *
              omega
        case measure => simp [intOf]; omega
      · have hn2 : decide (cc < 0) = false := by simpa using hneg
        go_wp2_with fail
        go_region_held3 (fun w' => w'.cell? ⟨g, c * 2, none⟩ = some (.iface tx vx) ∧ w'.cell? ⟨g, c * 2 + 1, none⟩ = some (.iface sx zx) ∧ w'.cell? ⟨g, a * 2, none⟩ = some (.iface ty vy) ∧ w'.cell? ⟨g, a * 2 + 1, none⟩ = some (.iface sy zy)) (first | exact ⟨x0, x1, y0, y1⟩ | (refine ⟨?_, ?_, ?_, ?_⟩ <;> (with_reducible (refine cell_below HBc.out ?_)) <;> assumption)) (first
          | (go_at_call 87; (with_reducible refine (HC.out _).mono ?_); rintro e w5 ⟨rfl, hBc⟩; have HBc := Lib.hid hBc; clear hBc))
        have HJ5 := Lib.hid (HI.out.drew.call HBc.out)
        clear x0 x1 y0 y1
        go_wp2_with fail
        go_roundw
        case rel =>
          refine ⟨i, c, rfl, rfl, hmi, hc1, by omega, HL.out, ?_, HJ5.out⟩
          intro k x y
          by_cases e : k = c
          · subst e; unfold ltE; rw [← HCC.out]; omega
          · have hx : ¬ ltE (f k) (f c) := HT.out c k (by omega) (by omega) (by omega)
            have hy : ¬ ltE (f c) (f a) := by unfold ltE; rw [← HCC.out]; omega
            exact ordE.trans _ _ _ hy hx
        case measure => simp [intOf]; omega
    · obtain rfl : i = j := by omega
      have ham : a + 1 = m := HM.out.symm
      go_wp2_with fail
      go_loopw [13] (fun vk wr => ∃ k : Nat, vk = .int .i64 k ∧ a ≤ k ∧ k + 1 ≤ i ∧ Hid (InsAt W0 B g n f a b (rot f a (a + 1) (k + 1)) wr)) (fun vk _ => i - (intOf vk).toNat)
      case atStart => exact ⟨a, rfl, Nat.le_refl _, by omega, by rw [rot_same (by omega) (by omega) (.inr rfl)]; exact HI.out⟩
      case round =>
        obtain ⟨k, rfl, hak, hki, HK⟩ := hrel
        by_cases hend : k + 1 < i
        · obtain ⟨q, hq⟩ : ∃ q, q = rot f a (a + 1) (k + 1) := ⟨_, rfl⟩
          rw [← hq] at HK
          have HQ := Lib.hid hq
          clear hq
          have t1 : (k : Int) < (i : Int) - 1 := by omega
          have t2 : (k : Int) < (n : Int) := by omega
          have t3 : (k : Int) + 1 < (n : Int) := by omega
          have t4 : (0 : Int) ≤ (k : Int) + 1 := by omega
          have t5 : ((k : Int) + 1).toNat = k + 1 := by omega
          have t6 : IntKind.i64.wrap ((k : Int) + 1) = (k : Int) + 1 := by rw [IntKind.wrap_i64]; omega
          have x0 := (HK.out.st).c0 (k) (by omega)
          have x1 := (HK.out.st).c1 (k) (by omega)
          have x2 := (HK.out.st).f0 (k) (by omega)
          have x3 := (HK.out.st).f1 (k) (by omega)
          obtain ⟨tx, htx⟩ : ∃ v, v = (q (k)).k.ty := ⟨_, rfl⟩
          obtain ⟨vx, hvx⟩ : ∃ v, v = (q (k)).k.body := ⟨_, rfl⟩
          obtain ⟨sx, hsx⟩ : ∃ v, v = (q (k)).t := ⟨_, rfl⟩
          obtain ⟨zx, hzx⟩ : ∃ v, v = (q (k)).y := ⟨_, rfl⟩
          rw [← htx, ← hvx] at x0
          rw [← hsx, ← hzx] at x1
          have HTx := Lib.hid htx
          have HVx := Lib.hid hvx
          have HSx := Lib.hid hsx
          have HZx := Lib.hid hzx
          have y0 := (HK.out.st).c0 (k + 1) (by omega)
          have y1 := (HK.out.st).c1 (k + 1) (by omega)
          have y2 := (HK.out.st).f0 (k + 1) (by omega)
          have y3 := (HK.out.st).f1 (k + 1) (by omega)
          obtain ⟨ty, hty⟩ : ∃ v, v = (q (k + 1)).k.ty := ⟨_, rfl⟩
          obtain ⟨vy, hvy⟩ : ∃ v, v = (q (k + 1)).k.body := ⟨_, rfl⟩
          obtain ⟨sy, hsy⟩ : ∃ v, v = (q (k + 1)).t := ⟨_, rfl⟩
          obtain ⟨zy, hzy⟩ : ∃ v, v = (q (k + 1)).y := ⟨_, rfl⟩
          rw [← hty, ← hvy] at y0
          rw [← hsy, ← hzy] at y1
          have HTy := Lib.hid hty
          have HVy := Lib.hid hvy
          have HSy := Lib.hid hsy
          have HZy := Lib.hid hzy
          clear htx hvx hsx hzx hty hvy hsy hzy
          have ne1 : ¬ (k + 1) * 2 = (k) * 2 := by omega
          have ne2 : ¬ (k + 1) * 2 = (k) * 2 + 1 := by omega
          have ne3 : ¬ (k + 1) * 2 + 1 = (k) * 2 := by omega
          have ne4 : ¬ (k + 1) * 2 + 1 = (k) * 2 + 1 := by omega
          go_wp2_with fail
          go_region
          go_wp2_with fail
          go_roundw
          case rel =>
            refine ⟨k + 1, by go_num, by omega, by omega, ?_⟩
            rw [← rot_step_up f hak, ← HQ.out, HTx.out, HVx.out, HSx.out, HZx.out, HTy.out, HVy.out, HSy.out, HZy.out]
            exact HK.out.swap (i := k) (j := k + 1) hak (by omega) (by omega) (by omega) (by omega) h2 trivial
          case measure => simp [intOf]; omega
        · obtain rfl : i = k + 1 := by omega
          have t1 : ¬ (k : Int) < ((k + 1 : Nat) : Int) - 1 := by omega
          go_wp2_with fail
          go_end0
          exact ⟨rfl, _, HK.out.st, HK.out.mx, HK.out.pm, one_left ordE (by rw [ham]; exact HT.out) (by omega) hjb (by rw [ham]; exact HL.out) HG.out⟩

set_option maxHeartbeats 16000000 in
set_option maxRecDepth 100000 in
theorem merge_right {W0 : World} {B g n : Nat} (f : Nat → Ent) (a m b cap : Nat) (w : World) (h : St W0 B g n f w) (hok : OkE n f) (hm : b = m + 1) (hm1 : m ≠ a + 1) (h1 : a < m) (h2 : b ≤ n) (hn : n < 1000) (hs : Srt ltE f a m) :
    Calls Tryz.prog 137 #[.slice (some ⟨g, 0, none⟩) n cap, .int .i64 a, .int .i64 m, .int .i64 b, .func (.func 87) #[] #[]] w (SortPost W0 B g n f a b) := by
  have HS : Hid (InsAt W0 B g n f a b f w) := .mk' h hok
  have HT := Lib.hid hs
  have HM := Lib.hid hm
  have hma : ((m : Int) - (a : Int) == 1) = false := by simp; omega
  have hmb : (b : Int) - (m : Int) = 1 := by omega
  clear h hok hs hm hm1
  go_enter Tryz.func137, Tryz.ntmps137
  go_wp2_with fail
  go_loopw [14, 15, 16] (fun vi vj _ wr => ∃ (i j : Nat), vi = .int .i64 i ∧ vj = .int .i64 j ∧ a ≤ i ∧ i ≤ j ∧ j ≤ m ∧ Hid (∀ k, a ≤ k → k < i → ¬ ltE (f m) (f k)) ∧ Hid (∀ k, j ≤ k → k < m → ltE (f m) (f k)) ∧ Hid (InsAt W0 B g n f a b f wr)) (fun vi vj _ _ => (intOf vj).toNat - (intOf vi).toNat)
  case atStart =>
    exact ⟨a, m, rfl, rfl, Nat.le_refl _, by omega, Nat.le_refl _, fun k x y => by omega, fun k x y => by omega, HS.out⟩
  case round =>
    obtain ⟨i, j, rfl, rfl, hmi, hij, hjb, HL, HG, HI⟩ := hrel
    have hmb' : m < b := by have := HM.out; omega
    by_cases hlt : i < j
    · obtain ⟨c, hc⟩ : ∃ c, c = (i + j) / 2 := ⟨_, rfl⟩
      have hc1 : i ≤ c := by omega
      have hc2 : c < j := by omega
      have HC0 := Lib.hid hc
      clear hc
      go_wp2_with fail
      rw [show ((i : Int) + (j : Int)) / 2 = ((c : Nat) : Int) by have := HC0.out; omega]
      have x0 := (HI.out.st).c0 (m) (by omega)
      have x1 := (HI.out.st).c1 (m) (by omega)
      obtain ⟨tx, htx⟩ : ∃ v, v = (f (m)).k.ty := ⟨_, rfl⟩
      obtain ⟨vx, hvx⟩ : ∃ v, v = (f (m)).k.body := ⟨_, rfl⟩
      obtain ⟨sx, hsx⟩ : ∃ v, v = (f (m)).t := ⟨_, rfl⟩
      obtain ⟨zx, hzx⟩ : ∃ v, v = (f (m)).y := ⟨_, rfl⟩
      rw [← htx, ← hvx] at x0
      rw [← hsx, ← hzx] at x1
      have HTx := Lib.hid htx
      have HVx := Lib.hid hvx
      have HSx := Lib.hid hsx
      have HZx := Lib.hid hzx
      have y0 := (HI.out.st).c0 (c) (by omega)
      have y1 := (HI.out.st).c1 (c) (by omega)
      obtain ⟨ty, hty⟩ : ∃ v, v = (f (c)).k.ty := ⟨_, rfl⟩
      obtain ⟨vy, hvy⟩ : ∃ v, v = (f (c)).k.body := ⟨_, rfl⟩
      obtain ⟨sy, hsy⟩ : ∃ v, v = (f (c)).t := ⟨_, rfl⟩
      obtain ⟨zy, hzy⟩ : ∃ v, v = (f (c)).y := ⟨_, rfl⟩
      rw [← hty, ← hvy] at y0
      rw [← hsy, ← hzy] at y1
      have HTy := Lib.hid hty
      have HVy := Lib.hid hvy
      have HSy := Lib.hid hsy
      have HZy := Lib.hid hzy
      obtain ⟨cc, hcc⟩ : ∃ cc, cc = cmpK (f (m)).k (f (c)).k := ⟨_, rfl⟩
      have HCC := Lib.hid hcc
      have HC : Hid (∀ W : World, Calls Tryz.prog 87 #[.agg #[.iface tx vx, .iface sx zx], .agg #[.iface ty vy, .iface sy zy]] W fun e w' => e = .returned (.int .i64 cc) ∧ Below W.heap.size W w') := by
        intro W
        have := cmp71 (f (m)) (f (c)) (HI.out.ok (m) (by omega)) (HI.out.ok (c) (by omega)) W
        rw [ordL_eq (HI.out.ok (m) (by omega)) (HI.out.ok (c) (by omega)), ← hcc, ← htx, ← hvx, ← hsx, ← hzx, ← hty, ← hvy, ← hsy, ← hzy] at this
        exact this
      clear hcc
      clear htx hvx hsx hzx hty hvy hsy hzy
      have p1 : (c : Int) < (n : Int) := by omega
      have p2 : (m : Int) < (n : Int) := by omega
      by_cases hneg : cc < 0
      · go_wp2_with fail
        go_region_held3 (fun w' => w'.cell? ⟨g, m * 2, none⟩ = some (.iface tx vx) ∧ w'.cell? ⟨g, m * 2 + 1, none⟩ = some (.iface sx zx) ∧ w'.cell? ⟨g, c * 2, none⟩ = some (.iface ty vy) ∧ w'.cell? ⟨g, c * 2 + 1, none⟩ = some (.iface sy zy)) (first | exact ⟨x0, x1, y0, y1⟩ | (refine ⟨?_, ?_, ?_, ?_⟩ <;> (with_reducible (refine cell_below HBc.out ?_)) <;> assumption)) (first
          | (go_at_call 87; (with_reducible refine (HC.out _).mono ?_); rintro e w5 ⟨rfl, hBc⟩; have HBc := Lib.hid hBc; clear hBc))
        have HJ5 := Lib.hid (HI.out.drew.call HBc.out)
        clear x0 x1 y0 y1
        go_wp2_with fail
        go_roundw
        case rel =>
          refine ⟨i, c, rfl, rfl, hmi, hc1, by omega, HL.out, ?_, HJ5.out⟩
          intro k x y
          have hy : ltE (f m) (f c) := by unfold ltE; rw [← HCC.out]; exact hneg
          by_cases e : k = c
          · subst e; exact hy
          · have hx : ¬ ltE (f k) (f c) := HT.out c k (by omega) (by omega) (by omega)
            have a1 := totK.anti (f c).k (f k).k
            have a2 := totK.trans (f c).k (f k).k (f m).k
            have a3 := totK.anti (f k).k (f m).k
            have a4 := totK.anti (f c).k (f m).k
            unfold ltE at *
            omega
        case measure => simp [intOf]; omega
      · have hn2 : decide (cc < 0) = false := by simpa using hneg
        go_wp2_with fail
        go_region_held3 (fun w' => w'.cell? ⟨g, m * 2, none⟩ = some (.iface tx vx) ∧ w'.cell? ⟨g, m * 2 + 1, none⟩ = some (.iface sx zx) ∧ w'.cell? ⟨g, c * 2, none⟩ = some (.iface ty vy) ∧ w'.cell? ⟨g, c * 2 + 1, none⟩ = some (.iface sy zy)) (first | exact ⟨x0, x1, y0, y1⟩ | (refine ⟨?_, ?_, ?_, ?_⟩ <;> (with_reducible (refine cell_below HBc.out ?_)) <;> assumption)) (first
          | (go_at_call 87; (with_reducible refine (HC.out _).mono ?_); rintro e w5 ⟨rfl, hBc⟩; have HBc := Lib.hid hBc; clear hBc))
        have HJ5 := Lib.hid (HI.out.drew.call HBc.out)
        clear x0 x1 y0 y1
        go_wp2_with fail
        go_roundw
        case rel =>
          refine ⟨c + 1, j, by go_num, rfl, by omega, by omega, hjb, ?_, HG.out, HJ5.out⟩
          intro k x y
          have hy : ¬ ltE (f m) (f c) := by unfold ltE; rw [← HCC.out]; omega
          by_cases e : k = c
          · subst e; exact hy
          · have hx : ¬ ltE (f c) (f k) := HT.out k c (by omega) (by omega) (by omega)
            exact ordE.trans _ _ _ hx hy
        case measure => simp [intOf]; omega
    · obtain rfl : i = j := by omega
      have hbm : m + 1 = b := HM.out.symm
      go_wp2_with fail
      go_loopw [17] (fun vk wr => ∃ k : Nat, vk = .int .i64 k ∧ i ≤ k ∧ k ≤ m ∧ Hid (InsAt W0 B g n f a b (rot f k m (m + 1)) wr)) (fun vk _ => (intOf vk).toNat)
      case atStart => exact ⟨m, rfl, by omega, by omega, by rw [rot_same (by omega) (by omega) (.inl rfl)]; exact HI.out⟩
      case round =>
        obtain ⟨k, rfl, hak, hki, HK⟩ := hrel
        by_cases hend : i < k
        · obtain ⟨q, hq⟩ : ∃ q, q = rot f k m (m + 1) := ⟨_, rfl⟩
          rw [← hq] at HK
          have HQ := Lib.hid hq
          clear hq
          have t1 : (i : Int) < (k : Int) := by omega
          have t2 : (k : Int) < (n : Int) := by omega
          have t3 : (k : Int) - 1 < (n : Int) := by omega
          have t4 : (0 : Int) ≤ (k : Int) - 1 := by omega
          have t5 : ((k : Int) - 1).toNat = k - 1 := by omega
          have t6 : IntKind.i64.wrap ((k : Int) - 1) = (k : Int) - 1 := by rw [IntKind.wrap_i64]; omega
          have t7 : (1 : Int) ≤ (k : Int) := by omega
          have x0 := (HK.out.st).c0 (k) (by omega)
          have x1 := (HK.out.st).c1 (k) (by omega)
          have x2 := (HK.out.st).f0 (k) (by omega)
          have x3 := (HK.out.st).f1 (k) (by omega)
          obtain ⟨tx, htx⟩ : ∃ v, v = (q (k)).k.ty := ⟨_, rfl⟩
          obtain ⟨vx, hvx⟩ : ∃ v, v = (q (k)).k.body := ⟨_, rfl⟩
          obtain ⟨sx, hsx⟩ : ∃ v, v = (q (k)).t := ⟨_, rfl⟩
          obtain ⟨zx, hzx⟩ : ∃ v, v = (q (k)).y := ⟨_, rfl⟩
          rw [← htx, ← hvx] at x0
          rw [← hsx, ← hzx] at x1
          have HTx := Lib.hid htx
          have HVx := Lib.hid hvx
          have HSx := Lib.hid hsx
          have HZx := Lib.hid hzx
          have y0 := (HK.out.st).c0 (k - 1) (by omega)
          have y1 := (HK.out.st).c1 (k - 1) (by omega)
          have y2 := (HK.out.st).f0 (k - 1) (by omega)
          have y3 := (HK.out.st).f1 (k - 1) (by omega)
          obtain ⟨ty, hty⟩ : ∃ v, v = (q (k - 1)).k.ty := ⟨_, rfl⟩
          obtain ⟨vy, hvy⟩ : ∃ v, v = (q (k - 1)).k.body := ⟨_, rfl⟩
          obtain ⟨sy, hsy⟩ : ∃ v, v = (q (k - 1)).t := ⟨_, rfl⟩
          obtain ⟨zy, hzy⟩ : ∃ v, v = (q (k - 1)).y := ⟨_, rfl⟩
          rw [← hty, ← hvy] at y0
          rw [← hsy, ← hzy] at y1
          have HTy := Lib.hid hty
          have HVy := Lib.hid hvy
          have HSy := Lib.hid hsy
          have HZy := Lib.hid hzy
          clear htx hvx hsx hzx hty hvy hsy hzy
          have ne1 : ¬ (k - 1) * 2 = (k) * 2 := by omega
          have ne2 : ¬ (k - 1) * 2 = (k) * 2 + 1 := by omega
          have ne3 : ¬ (k - 1) * 2 + 1 = (k) * 2 := by omega
          have ne4 : ¬ (k - 1) * 2 + 1 = (k) * 2 + 1 := by omega
          go_wp2_with fail
          go_region
          go_wp2_with fail
          go_roundw
          case rel =>
            refine ⟨k - 1, by go_num, by omega, by omega, ?_⟩
            have e := rot_step_down f (m := m) (k := k - 1) (by omega)
            rw [show k - 1 + 1 = k by omega] at e
            rw [← e, ← HQ.out, HTx.out, HVx.out, HSx.out, HZx.out, HTy.out, HVy.out, HSy.out, HZy.out]
            exact HK.out.swap (i := k) (j := k - 1) (by omega) (by omega) (by omega) (by omega) (by omega) h2 trivial
          case measure => simp [intOf]; omega
        · obtain rfl : i = k := by omega
          go_wp2_with fail
          go_end0
          exact ⟨rfl, _, HK.out.st, HK.out.mx, HK.out.pm, by rw [← hbm]; exact one_right ordE HT.out hmi hki HL.out HG.out⟩
end Go.Proofs.YtkpfeodffhfejaaGreatDoor
