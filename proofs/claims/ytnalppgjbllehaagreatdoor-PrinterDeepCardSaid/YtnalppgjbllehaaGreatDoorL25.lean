/- The insertion sort of a map's entries. Condition: fewer than a thousand, their keys of the kinds of their types. -/
import Derived.Test.YtnalppgjbllehaaGreatDoorL24
import Derived.Deep.RegionHeld3
namespace Go.Proofs.YtnalppgjbllehaaGreatDoor
set_option linter.unusedVariables false
set_option maxRecDepth 1000000
open Go.RowKit

def OkE (n : Nat) (f : Nat → Ent) : Prop := ∀ k, k < n → (V.leaf (f k).k).ok
theorem OkE.mix {n a b : Nat} {f q : Nat → Ent} (h : OkE n f) (hm : Mix a b f q) (hb : b ≤ n) : OkE n q := by
  intro k hk
  by_cases hr : a ≤ k ∧ k < b
  · obtain ⟨k', h1, h2, e⟩ := hm.2 k hr.1 hr.2
    rw [e]; exact h k' (by omega)
  · rw [hm.1 k (by omega)]; exact h k hk
/-- The entries between a and b are in order, those elsewhere as they were. -/
def SortPost (W0 : World) (B g n : Nat) (f : Nat → Ent) (a b : Nat) (e : Ending) (w' : World) : Prop :=
  e = .returned (.tuple #[]) ∧ ∃ q, St W0 B g n q w' ∧ Mix a b f q ∧ PermOn n q f ∧ Srt ltE q a b

/-- What an insertion's round has. -/
structure InsAt (W0 : World) (B g n : Nat) (f : Nat → Ent) (a b : Nat) (q : Nat → Ent) (w : World) : Prop where
  st : St W0 B g n q w
  mx : Mix a b f q
  pm : PermOn n q f
  ok : OkE n q

theorem InsAt.drew {W0 : World} {B g n a b : Nat} {f q : Nat → Ent} {w : World} (h : InsAt W0 B g n f a b q w) : InsAt W0 B g n f a b q w.drew := ⟨h.st.drew, h.mx, h.pm, h.ok⟩
theorem InsAt.call {W0 : World} {B g n a b : Nat} {f q : Nat → Ent} {w w' : World} (h : InsAt W0 B g n f a b q w) (hb : Below w.heap.size w w') : InsAt W0 B g n f a b q w' := ⟨h.st.call hb, h.mx, h.pm, h.ok⟩
theorem InsAt.swap {W0 : World} {B g n a b : Nat} {f q : Nat → Ent} {w : World} (h : InsAt W0 B g n f a b q w) {i j : Nat} (h1 : a ≤ i) (h2 : i < b) (h3 : a ≤ j) (h4 : j < b) (hij : i ≠ j) (hb : b ≤ n) (_ : True) :
    InsAt W0 B g n f a b (swp q i j) (((((w.setCell ⟨g, i * 2, none⟩ (.iface (q j).k.ty (q j).k.body)).setCell ⟨g, i * 2 + 1, none⟩ (.iface (q j).t (q j).y)).setCell ⟨g, j * 2, none⟩ (.iface (q i).k.ty (q i).k.body)).setCell ⟨g, j * 2 + 1, none⟩ (.iface (q i).t (q i).y)).drew) :=
  ⟨h.st.swap (by omega) (by omega) hij, h.mx.trans (Mix.swp q h1 h2 h3 h4), h.pm.trans (swp_perm q (by omega) (by omega)), h.ok.mix (Mix.swp q h1 h2 h3 h4) hb⟩
theorem InsAt.drewN {W0 : World} {B g n a b : Nat} {f q : Nat → Ent} {w : World} (h : InsAt W0 B g n f a b q w) : ∀ k, InsAt W0 B g n f a b q (w.drewN k)
  | 0 => h
  | k + 1 => by have e := h.drewN k; exact ⟨e.st.drew, e.mx, e.pm, e.ok⟩

set_option maxHeartbeats 8000000 in
theorem insertion_any {W0 : World} {B g n : Nat} (f : Nat → Ent) (a b cap : Nat) (w : World) (h : St W0 B g n f w) (hok : OkE n f) (h1 : a ≤ b) (h2 : b ≤ n) (hn : n < 1000) :
    Calls Tryz.prog 146 #[.slice (some ⟨g, 0, none⟩) n cap, .int .i64 a, .int .i64 b, .func (.func 96) #[] #[]] w (SortPost W0 B g n f a b) := by
  have HS : Hid (InsAt W0 B g n f a b f w) := ⟨h, Mix.refl _ _ _, PermOn.refl _ _, hok⟩
  clear h hok
  go_enter Tryz.func146, Tryz.ntmps146
  go_wp2_with fail
  go_loopw [8, 9] (fun vi vj wr => ∃ (i : Nat) (q : Nat → Ent), vi = .int .i64 i ∧ a < i ∧ (i ≤ b ∨ i = a + 1) ∧ Hid (Srt ltE q a i) ∧ Hid (InsAt W0 B g n f a b q wr)) (fun vi _ _ => b - (intOf vi).toNat)
  case atStart =>
    exact ⟨a + 1, f, by go_num, by omega, .inr rfl, fun p q x y z => by omega, HS.out⟩
  case round =>
    obtain ⟨i, q, rfl, hai, hib, HR, HI⟩ := hrel
    by_cases hlt : i < b
    · go_wp2_with fail
      go_loopw [9] (fun vj wr => ∃ (j : Nat) (p : Nat → Ent), vj = .int .i64 j ∧ a ≤ j ∧ j ≤ i ∧ Hid (Ins ltE p a j i) ∧ Hid (InsAt W0 B g n f a b p wr)) (fun vj _ => (intOf vj).toNat)
      case atStart => exact ⟨i, q, rfl, by omega, Nat.le_refl _, Ins.start HR.out, HI.out⟩
      case round =>
        obtain ⟨j, p, rfl, haj, hji, HP, HJ⟩ := hrel
        by_cases hg : a < j
        · have x0 := (HJ.out.st).c0 (j) (by omega)
          have x1 := (HJ.out.st).c1 (j) (by omega)
          have x2 := (HJ.out.st).f0 (j) (by omega)
          have x3 := (HJ.out.st).f1 (j) (by omega)
          obtain ⟨tx, htx⟩ : ∃ v, v = (p (j)).k.ty := ⟨_, rfl⟩
          obtain ⟨vx, hvx⟩ : ∃ v, v = (p (j)).k.body := ⟨_, rfl⟩
          obtain ⟨sx, hsx⟩ : ∃ v, v = (p (j)).t := ⟨_, rfl⟩
          obtain ⟨zx, hzx⟩ : ∃ v, v = (p (j)).y := ⟨_, rfl⟩
          rw [← htx, ← hvx] at x0
          rw [← hsx, ← hzx] at x1
          have HTx := Lib.hid htx
          have HVx := Lib.hid hvx
          have HSx := Lib.hid hsx
          have HZx := Lib.hid hzx
          have y0 := (HJ.out.st).c0 (j - 1) (by omega)
          have y1 := (HJ.out.st).c1 (j - 1) (by omega)
          have y2 := (HJ.out.st).f0 (j - 1) (by omega)
          have y3 := (HJ.out.st).f1 (j - 1) (by omega)
          obtain ⟨ty, hty⟩ : ∃ v, v = (p (j - 1)).k.ty := ⟨_, rfl⟩
          obtain ⟨vy, hvy⟩ : ∃ v, v = (p (j - 1)).k.body := ⟨_, rfl⟩
          obtain ⟨sy, hsy⟩ : ∃ v, v = (p (j - 1)).t := ⟨_, rfl⟩
          obtain ⟨zy, hzy⟩ : ∃ v, v = (p (j - 1)).y := ⟨_, rfl⟩
          rw [← hty, ← hvy] at y0
          rw [← hsy, ← hzy] at y1
          have HTy := Lib.hid hty
          have HVy := Lib.hid hvy
          have HSy := Lib.hid hsy
          have HZy := Lib.hid hzy
          obtain ⟨cc, hcc⟩ : ∃ cc, cc = cmpK (p (j)).k (p (j - 1)).k := ⟨_, rfl⟩
          have HCC := Lib.hid hcc
          have HC : Hid (∀ W : World, Calls Tryz.prog 96 #[.agg #[.iface tx vx, .iface sx zx], .agg #[.iface ty vy, .iface sy zy]] W fun e w' => e = .returned (.int .i64 cc) ∧ Below W.heap.size W w') := by
            intro W
            have := cmp71 (p (j)) (p (j - 1)) (HJ.out.ok (j) (by omega)) (HJ.out.ok (j - 1) (by omega)) W
            rw [ordL_eq (HJ.out.ok (j) (by omega)) (HJ.out.ok (j - 1) (by omega)), ← hcc, ← htx, ← hvx, ← hsx, ← hzx, ← hty, ← hvy, ← hsy, ← hzy] at this
            exact this
          clear hcc
          clear htx hvx hsx hzx hty hvy hsy hzy
          have p1 : (j : Int) < (n : Int) := by omega
          have p2 : (j : Int) - 1 < (n : Int) := by omega
          have p3 : (0 : Int) ≤ (j : Int) - 1 := by omega
          have p4 : ((j : Int) - 1).toNat = j - 1 := by omega
          have p6 : (1 : Int) ≤ (j : Int) := by omega
          have p5 : IntKind.i64.wrap ((j : Int) - 1) = (j : Int) - 1 := by rw [IntKind.wrap_i64]; omega
          have hg' : (a : Int) < (j : Int) := by omega
          by_cases hneg : cc < 0
          · go_wp2_with fail
            go_region_held3 (fun w' => w'.cell? ⟨g, j * 2, none⟩ = some (.iface tx vx) ∧ w'.cell? ⟨g, j * 2 + 1, none⟩ = some (.iface sx zx) ∧ w'.cell? ⟨g, (j - 1) * 2, none⟩ = some (.iface ty vy) ∧ w'.cell? ⟨g, (j - 1) * 2 + 1, none⟩ = some (.iface sy zy)) (first | exact ⟨x0, x1, y0, y1⟩ | (refine ⟨?_, ?_, ?_, ?_⟩ <;> (with_reducible (refine cell_below HBc.out ?_)) <;> assumption)) (first
              | (go_at_call 96; (with_reducible refine (HC.out _).mono ?_); rintro e w5 ⟨rfl, hBc⟩; have HBc := Lib.hid hBc; clear hBc))
            have HJ5 : Hid (InsAt W0 B g n f a b p w5) := HJ.out.drew.call HBc.out
            have x5 := HJ5.out.st.c0 j (by omega)
            have x6 := HJ5.out.st.c1 j (by omega)
            have x7 := HJ5.out.st.f0 j (by omega)
            have x8 := HJ5.out.st.f1 j (by omega)
            have y5 := HJ5.out.st.c0 (j - 1) (by omega)
            have y6 := HJ5.out.st.c1 (j - 1) (by omega)
            have y7 := HJ5.out.st.f0 (j - 1) (by omega)
            have y8 := HJ5.out.st.f1 (j - 1) (by omega)
            rw [← HTx.out, ← HVx.out] at x5
            rw [← HSx.out, ← HZx.out] at x6
            rw [← HTy.out, ← HVy.out] at y5
            rw [← HSy.out, ← HZy.out] at y6
            have ne1 : ¬ (j - 1) * 2 = j * 2 := by omega
            have ne2 : ¬ (j - 1) * 2 = j * 2 + 1 := by omega
            have ne3 : ¬ (j - 1) * 2 + 1 = j * 2 := by omega
            have ne4 : ¬ (j - 1) * 2 + 1 = j * 2 + 1 := by omega
            clear x0 x1 x2 x3 y0 y1 y2 y3
            go_wp2_with fail
            go_region
            go_wp2_with fail
            go_roundw
            case rel =>
              refine ⟨j - 1, swp p j (j - 1), by go_num, by omega, by omega, ?_, ?_⟩
              · exact HP.out.step ordE hg hji (by unfold ltE; rw [← HCC.out]; exact hneg)
              · rw [HTx.out, HVx.out, HSx.out, HZx.out, HTy.out, HVy.out, HSy.out, HZy.out]
                exact HJ5.out.swap (i := j) (j := j - 1) haj (by omega) (by omega) (by omega) (by omega) h2 trivial
            case measure => simp [intOf]; omega
          · go_wp2_with fail
            go_region_held3 (fun w' => w'.cell? ⟨g, j * 2, none⟩ = some (.iface tx vx) ∧ w'.cell? ⟨g, j * 2 + 1, none⟩ = some (.iface sx zx) ∧ w'.cell? ⟨g, (j - 1) * 2, none⟩ = some (.iface ty vy) ∧ w'.cell? ⟨g, (j - 1) * 2 + 1, none⟩ = some (.iface sy zy)) (first | exact ⟨x0, x1, y0, y1⟩ | (refine ⟨?_, ?_, ?_, ?_⟩ <;> (with_reducible (refine cell_below HBc.out ?_)) <;> assumption)) (first
              | (go_at_call 96; (with_reducible refine (HC.out _).mono ?_); rintro e w5 ⟨rfl, hBc⟩; have HBc := Lib.hid hBc; clear hBc))
            have HJ5 : Hid (InsAt W0 B g n f a b p w5) := HJ.out.drew.call HBc.out
            go_wp2_with fail
            go_roundw
            case rel => exact ⟨i + 1, p, by go_num, by omega, .inl (by omega), HP.out.done ordE hji haj (.inr (by unfold ltE; rw [← HCC.out]; omega)), HJ5.out⟩
            case measure => simp [intOf]; omega
        · obtain rfl : a = j := by omega
          have hd : decide ((a : Int) < (a : Int)) = false := by simp
          go_wp2_with fail
          go_quiet (fail)
          go_wp2_with fail
          go_roundw
          case rel => exact ⟨i + 1, p, by go_num, by omega, .inl (by omega), HP.out.done ordE hji haj (.inl rfl), HJ.out.drewN _⟩
          case measure => simp [intOf]; omega
    · go_wp2_with fail
      go_end0
      exact ⟨rfl, q, HI.out.st, HI.out.mx, HI.out.pm, HR.out.sub (Nat.le_refl _) (by omega)⟩
end Go.Proofs.YtnalppgjbllehaaGreatDoor
