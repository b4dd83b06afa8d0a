/- Keys in order: one list in order only, the order by insertion. Without Go. Condition: all are keys. -/
import Derived.Test.YtkpfeodffhfejaaGreatDoorCA10
import Derived.Test.YtkpfeodffhfejaaGreatDoorCA13
import Derived.Deep.RegionHeld3
namespace Go.Proofs.YtkpfeodffhfejaaGreatDoor
set_option linter.unusedVariables false
set_option maxRecDepth 1000000
open Go.RowKit

/-- Lists that are related place by place. -/
inductive Rel2 {α β : Type} (R : α → β → Prop) : List α → List β → Prop where
  | nil : Rel2 R [] []
  | cons {a : α} {b : β} {l : List α} {m : List β} (h : R a b) (t : Rel2 R l m) : Rel2 R (a :: l) (b :: m)
theorem perm_rel {α β : Type} {R : α → β → Prop} {l1 l2 : List α} (h : l1.Perm l2) : ∀ {xs : List β}, Rel2 R l2 xs → ∃ ys, ys.Perm xs ∧ Rel2 R l1 ys := by
  induction h with
  | nil => intro xs h; exact ⟨xs, .refl _, h⟩
  | cons a _ ih =>
    intro xs h
    cases h with
    | cons h t =>
      obtain ⟨ys, h1, h2⟩ := ih t
      exact ⟨_ :: ys, h1.cons _, .cons h h2⟩
  | swap a b l =>
    intro xs h
    cases h with
    | cons h t => cases t with
      | cons h' t' => exact ⟨_, .swap _ _ _, .cons h' (.cons h t')⟩
  | trans _ _ ih1 ih2 =>
    intro xs h
    obtain ⟨ys, h1, h2⟩ := ih2 h
    obtain ⟨zs, h3, h4⟩ := ih1 h2
    exact ⟨zs, h3.trans h1, h4⟩
theorem Rel2.length {α β : Type} {R : α → β → Prop} {l : List α} {m : List β} (h : Rel2 R l m) : l.length = m.length := by
  induction h with
  | nil => rfl
  | cons _ _ ih => simp [ih]
theorem Rel2.get {α β : Type} {R : α → β → Prop} {l : List α} {m : List β} (h : Rel2 R l m) : ∀ i (h1 : i < l.length) (h2 : i < m.length), R l[i] m[i] := by
  induction h with
  | nil => intro i h1; simp at h1
  | cons h _ ih =>
    intro i h1 h2
    cases i with
    | zero => exact h
    | succ i => exact ih i (by simpa using h1) (by simpa using h2)
theorem Rel2.of {α β : Type} {R : α → β → Prop} : ∀ {l : List α} {m : List β}, l.length = m.length → (∀ i (h1 : i < l.length) (h2 : i < m.length), R l[i] m[i]) → Rel2 R l m
  | [], [], _, _ => .nil
  | a :: l, b :: m, hl, h => .cons (h 0 (by simp) (by simp)) (Rel2.of (by simpa using hl) fun i h1 h2 => h (i + 1) (by simpa using h1) (by simpa using h2))
  | [], _ :: _, hl, _ => by simp at hl
  | _ :: _, [], hl, _ => by simp at hl

theorem strict_uniq {α : Type} {c : α → α → Int} : ∀ {l1 l2 : List α}, l1.Perm l2 → (∀ a ∈ l1, ∀ b ∈ l1, c a b < 0 → ¬ c b a < 0) → l1.Pairwise (c · · < 0) → l2.Pairwise (c · · < 0) → l1 = l2
  | [], l2, hp, _, _, _ => (List.nil_perm.1 hp).symm
  | a :: t1, [], hp, _, _, _ => by have := hp.length_eq; simp at this
  | a :: t1, b :: t2, hp, has, h1, h2 => by
    have hab : a = b := by
      have ha : a ∈ b :: t2 := hp.mem_iff.1 (by simp)
      have hb : b ∈ a :: t1 := hp.mem_iff.2 (by simp)
      rcases List.mem_cons.1 ha with e | ha'
      · exact e
      · rcases List.mem_cons.1 hb with e | hb'
        · exact e.symm
        · exact absurd ((List.pairwise_cons.1 h2).1 a ha') (has a (by simp) b hb ((List.pairwise_cons.1 h1).1 b hb'))
    subst hab
    rw [strict_uniq ((List.perm_cons a).1 hp) (fun x hx y hy => has x (by simp [hx]) y (by simp [hy])) (List.pairwise_cons.1 h1).2 (List.pairwise_cons.1 h2).2]

def ordP (a b : V × V) : Int := ordV a.1 b.1
/-- A key. -/
def KeyV (x : V) : Prop := ∃ l, x = .leaf l ∧ (V.leaf l).ok
theorem ordP_anti {a b : V × V} (ha : KeyV a.1) (hb : KeyV b.1) : ordP b a = - ordP a b := by
  obtain ⟨l, e, h⟩ := ha
  obtain ⟨m, e', h'⟩ := hb
  unfold ordP
  rw [e, e']
  have h1 := ordL_eq h h'
  have h2 := ordL_eq h' h
  unfold ordL at h1 h2
  rw [h1, h2]
  exact totK.anti _ _
theorem ordP_trans {a b d : V × V} (ha : KeyV a.1) (hb : KeyV b.1) (hd : KeyV d.1) (h1 : ordP a b ≤ 0) (h2 : ordP b d ≤ 0) : ordP a d ≤ 0 := by
  obtain ⟨l, e, h⟩ := ha
  obtain ⟨m, e', h'⟩ := hb
  obtain ⟨n, e'', h''⟩ := hd
  unfold ordP at h1 h2 ⊢
  rw [e, e'] at h1
  rw [e', e''] at h2
  rw [e, e'']
  have g1 := ordL_eq h h'
  have g2 := ordL_eq h' h''
  have g3 := ordL_eq h h''
  unfold ordL at g1 g2 g3
  rw [g1] at h1
  rw [g2] at h2
  rw [g3]
  exact totK.trans _ _ _ h1 h2
theorem ordP_lt {a b d : V × V} (ha : KeyV a.1) (hb : KeyV b.1) (hd : KeyV d.1) (h1 : ordP a b < 0) (h2 : ordP b d < 0) : ordP a d < 0 := by
  have h3 := ordP_trans ha hb hd (by omega) (by omega)
  by_cases e : ordP a d = 0
  · exfalso
    have h4 := ordP_anti ha hd
    have h5 := ordP_trans hd ha hb (by omega) (by omega)
    have h6 := ordP_anti hb hd
    omega
  · omega

def Keyd (l : List (V × V)) : Prop := ∀ a ∈ l, KeyV a.1
theorem insP_perm (e : V × V) : ∀ l, (insP e l).Perm (e :: l)
  | [] => .refl _
  | x :: l => by
    unfold insP
    split
    · exact .refl _
    · exact ((insP_perm e l).cons x).trans (.swap _ _ _)
theorem sortP_perm : ∀ l, (sortP l).Perm l
  | [] => .refl _
  | e :: l => (insP_perm e _).trans ((sortP_perm l).cons e)
theorem mem3 {a e x : V × V} {l : List (V × V)} (h : a ∈ e :: l) : a ∈ e :: x :: l := by
  rcases List.mem_cons.1 h with rfl | h
  · simp
  · simp [h]
theorem insP_sorted {e : V × V} : ∀ {l : List (V × V)}, Keyd (e :: l) → l.Pairwise (ordP · · < 0) → (∀ x ∈ l, ordP e x ≠ 0) → (insP e l).Pairwise (ordP · · < 0)
  | [], _, _, _ => by simp [insP]
  | x :: l, hk, hs, hne => by
    have ke := hk e (by simp)
    have kx := hk x (by simp)
    unfold insP
    split
    · rename_i h
      refine List.pairwise_cons.2 ⟨fun y hy => ?_, hs⟩
      rcases List.mem_cons.1 hy with rfl | hy
      · exact h
      · exact ordP_lt ke kx (hk y (by simp [hy])) h ((List.pairwise_cons.1 hs).1 y hy)
    · rename_i h
      have hxe : ordP x e < 0 := by
        have h1 := ordP_anti ke kx
        have h2 := hne x (by simp)
        have h3 : ¬ ordP e x < 0 := h
        omega
      refine List.pairwise_cons.2 ⟨fun y hy => ?_, insP_sorted (fun a ha => hk a (mem3 ha)) (List.pairwise_cons.1 hs).2 (fun y hy => hne y (by simp [hy]))⟩
      rcases List.mem_cons.1 ((insP_perm e l).mem_iff.1 hy) with rfl | hy
      · exact hxe
      · exact (List.pairwise_cons.1 hs).1 y hy
theorem sortP_sorted : ∀ {l : List (V × V)}, Keyd l → Apart l → (sortP l).Pairwise (ordP · · < 0)
  | [], _, _ => by simp [sortP]
  | e :: l, hk, ha => by
    refine insP_sorted (fun a h => hk a ?_) (sortP_sorted (fun a h => hk a (by simp [h])) (List.pairwise_cons.1 ha).2) (fun x hx => ?_)
    · rcases List.mem_cons.1 h with rfl | h
      · simp
      · simp [(sortP_perm l).mem_iff.1 h]
    · exact (List.pairwise_cons.1 ha).1 x ((sortP_perm l).mem_iff.1 hx)
theorem apart_perm {l m : List (V × V)} (hp : l.Perm m) (hk : Keyd l) (h : Apart l) : Apart m := by
  unfold Apart at h ⊢
  have h' : l.Pairwise fun a b => KeyV a.1 ∧ KeyV b.1 ∧ ordP a b ≠ 0 := by
    refine List.Pairwise.imp_of_mem ?_ h
    intro a b ha hb e
    exact ⟨hk a ha, hk b hb, e⟩
  have h2 := (List.Perm.pairwise_iff (fun {a b} (h : KeyV a.1 ∧ KeyV b.1 ∧ ordP a b ≠ 0) => ⟨h.2.1, h.1, by rw [ordP_anti h.1 h.2.1]; omega⟩) hp).1 h'
  exact h2.imp fun h => h.2.2
/-- Entries in strict order are those that the order by insertion makes. -/
theorem sorted_is {ys xs : List (V × V)} (hp : ys.Perm xs) (hk : Keyd xs) (hs : ys.Pairwise (ordP · · < 0)) : Apart xs ∧ ys = sortP xs := by
  have hky : Keyd ys := fun a h => hk a (hp.mem_iff.1 h)
  have ha : Apart xs := apart_perm hp hky (hs.imp fun h => by unfold ordP at h; omega)
  refine ⟨ha, strict_uniq (hp.trans (sortP_perm xs).symm) ?_ hs (sortP_sorted hk ha)⟩
  intro a h1 b h2 h3 h4
  have := ordP_anti (hky a h1) (hky b h2)
  omega
theorem adjacent_strict {ys : List (V × V)} (hk : Keyd ys) (h : ∀ i (h : i + 1 < ys.length), ordP ys[i] ys[i + 1] < 0) : ys.Pairwise (ordP · · < 0) := by
  rw [List.pairwise_iff_getElem]
  intro i j hi hj hij
  obtain ⟨k, rfl⟩ : ∃ k, j = i + 1 + k := ⟨j - i - 1, by omega⟩
  clear hij
  induction k with
  | zero => exact h i hj
  | succ k ih =>
    exact ordP_lt (hk _ (List.getElem_mem _)) (hk _ (List.getElem_mem _)) (hk _ (List.getElem_mem _)) (ih (by omega)) (h (i + 1 + k) (by omega))

theorem flat_length : ∀ l : List (V × V), (flat l).length = l.length * 2
  | [] => rfl
  | (a, b) :: l => by simp [flat, flat_length l]; omega
theorem flat_get : ∀ (l : List (V × V)) (i : Nat) (h : i < l.length), (flat l)[i * 2]? = some l[i].1 ∧ (flat l)[i * 2 + 1]? = some l[i].2
  | (a, b) :: l, 0, h => ⟨rfl, rfl⟩
  | (a, b) :: l, i + 1, h => by
    have := flat_get l i (by simpa using h)
    have e : (i + 1) * 2 = i * 2 + 2 := by omega
    rw [e]
    exact this
theorem pairs_length : ∀ (n : Nat) (l : List V), l.length = n * 2 → (pairs l).length = n
  | 0, [], _ => rfl
  | n + 1, a :: b :: l, h => by simp [pairs, pairs_length n l (by simp at h; omega)]
  | 0, _ :: _, h => by simp at h
  | n + 1, [], h => by simp at h
  | n + 1, [_], h => by simp at h; omega
theorem pairs_get : ∀ (n : Nat) (l : List V) (hl : l.length = n * 2) (i : Nat) (hi : i < n) (h : i < (pairs l).length), l[i * 2]? = some (pairs l)[i].1 ∧ l[i * 2 + 1]? = some (pairs l)[i].2
  | n + 1, a :: b :: l, h, 0, hi, _ => ⟨rfl, rfl⟩
  | n + 1, a :: b :: l, h, i + 1, hi, h' => by
    have := pairs_get n l (by simp at h; omega) i (by omega) (by simpa [pairs] using h')
    have e : (i + 1) * 2 = i * 2 + 2 := by omega
    rw [e]
    exact this
  | 0, _, _, i, hi, _ => by omega
  | n + 1, [], h, _, _, _ => by simp at h
  | n + 1, [_], h, _, _, _ => by simp at h; omega
end Go.Proofs.YtkpfeodffhfejaaGreatDoor

/- The insertion sort of a map's entries. Condition: fewer than a thousand, their keys of the kinds of their types. -/
namespace Go.Proofs.YtkpfeodffhfejaaGreatDoor
set_option linter.unusedVariables false
set_option maxRecDepth 1000000
open Go.RowKit

def OkE (n : Nat) (f : Nat → Ent) : Prop := ∀ k, k < n → (V.leaf (f k).k).ok
theorem OkE.mix {n a b : Nat} {f q : Nat → Ent} (h : OkE n f) (hm : Mix a b f q) (hb : b ≤ n) : OkE n q := by
  intro k hk
  by_cases hr : a ≤ k ∧ k < b
  · obtain ⟨k', h1, h2, e⟩ := hm.2 k hr.1 hr.2
    rw [e]; exact h k' (by omega)
  · rw [hm.1 k (by omega)]; exact h k hk
/-- The entries between a and b are in order, those elsewhere as they were. -/
def SortPost (W0 : World) (B g n : Nat) (f : Nat → Ent) (a b : Nat) (e : Ending) (w' : World) : Prop :=
  e = .returned (.tuple #[]) ∧ ∃ q, St W0 B g n q w' ∧ Mix a b f q ∧ PermOn n q f ∧ Srt ltE q a b

/-- What an insertion's round has. -/
structure InsAt (W0 : World) (B g n : Nat) (f : Nat → Ent) (a b : Nat) (q : Nat → Ent) (w : World) : Prop where
  st : St W0 B g n q w
  mx : Mix a b f q
  pm : PermOn n q f
  ok : OkE n q

theorem InsAt.drew {W0 : World} {B g n a b : Nat} {f q : Nat → Ent} {w : World} (h : InsAt W0 B g n f a b q w) : InsAt W0 B g n f a b q w.drew := ⟨h.st.drew, h.mx, h.pm, h.ok⟩
theorem InsAt.call {W0 : World} {B g n a b : Nat} {f q : Nat → Ent} {w w' : World} (h : InsAt W0 B g n f a b q w) (hb : Below w.heap.size w w') : InsAt W0 B g n f a b q w' := ⟨h.st.call hb, h.mx, h.pm, h.ok⟩
theorem InsAt.swap {W0 : World} {B g n a b : Nat} {f q : Nat → Ent} {w : World} (h : InsAt W0 B g n f a b q w) {i j : Nat} (h1 : a ≤ i) (h2 : i < b) (h3 : a ≤ j) (h4 : j < b) (hij : i ≠ j) (hb : b ≤ n) (_ : True) :
    InsAt W0 B g n f a b (swp q i j) (((((w.setCell ⟨g, i * 2, none⟩ (.iface (q j).k.ty (q j).k.body)).setCell ⟨g, i * 2 + 1, none⟩ (.iface (q j).t (q j).y)).setCell ⟨g, j * 2, none⟩ (.iface (q i).k.ty (q i).k.body)).setCell ⟨g, j * 2 + 1, none⟩ (.iface (q i).t (q i).y)).drew) :=
  ⟨h.st.swap (by omega) (by omega) hij, h.mx.trans (Mix.swp q h1 h2 h3 h4), h.pm.trans (swp_perm q (by omega) (by omega)), h.ok.mix (Mix.swp q h1 h2 h3 h4) hb⟩
theorem InsAt.drewN {W0 : World} {B g n a b : Nat} {f q : Nat → Ent} {w : World} (h : InsAt W0 B g n f a b q w) : ∀ k, InsAt W0 B g n f a b q (w.drewN k)
  | 0 => h
  | k + 1 => by have e := h.drewN k; exact ⟨e.st.drew, e.mx, e.pm, e.ok⟩

set_option maxHeartbeats 8000000 in
theorem insertion_any {W0 : World} {B g n : Nat} (f : Nat → Ent) (a b cap : Nat) (w : World) (h : St W0 B g n f w) (hok : OkE n f) (h1 : a ≤ b) (h2 : b ≤ n) (hn : n < 1000) :
    Calls Tryz.prog 136 #[.slice (some ⟨g, 0, none⟩) n cap, .int .i64 a, .int .i64 b, .func (.func 87) #[] #[]] w (SortPost W0 B g n f a b) := by
  have HS : Hid (InsAt W0 B g n f a b f w) := ⟨h, Mix.refl _ _ _, PermOn.refl _ _, hok⟩
  clear h hok
  go_enter Tryz.func136, Tryz.ntmps136
  go_wp2_with fail
  go_loopw [8, 9] (fun vi vj wr => ∃ (i : Nat) (q : Nat → Ent), vi = .int .i64 i ∧ a < i ∧ (i ≤ b ∨ i = a + 1) ∧ Hid (Srt ltE q a i) ∧ Hid (InsAt W0 B g n f a b q wr)) (fun vi _ _ => b - (intOf vi).toNat)
  case atStart =>
    exact ⟨a + 1, f, by go_num, by omega, .inr rfl, fun p q x y z => by omega, HS.out⟩
  case round =>
    obtain ⟨i, q, rfl, hai, hib, HR, HI⟩ := hrel
    by_cases hlt : i < b
    · go_wp2_with fail
      go_loopw [9] (fun vj wr => ∃ (j : Nat) (p : Nat → Ent), vj = .int .i64 j ∧ a ≤ j ∧ j ≤ i ∧ Hid (Ins ltE p a j i) ∧ Hid (InsAt W0 B g n f a b p wr)) (fun vj _ => (intOf vj).toNat)
      case atStart => exact ⟨i, q, rfl, by omega, Nat.le_refl _, Ins.start HR.out, HI.out⟩
      case round =>
        obtain ⟨j, p, rfl, haj, hji, HP, HJ⟩ := hrel
        by_cases hg : a < j
        · have x0 := (HJ.out.st).c0 (j) (by omega)
          have x1 := (HJ.out.st).c1 (j) (by omega)
          have x2 := (HJ.out.st).f0 (j) (by omega)
          have x3 := (HJ.out.st).f1 (j) (by omega)
          obtain ⟨tx, htx⟩ : ∃ v, v = (p (j)).k.ty := ⟨_, rfl⟩
          obtain ⟨vx, hvx⟩ : ∃ v, v = (p (j)).k.body := ⟨_, rfl⟩
          obtain ⟨sx, hsx⟩ : ∃ v, v = (p (j)).t := ⟨_, rfl⟩
          obtain ⟨zx, hzx⟩ : ∃ v, v = (p (j)).y := ⟨_, rfl⟩
          rw [← htx, ← hvx] at x0
          rw [← hsx, ← hzx] at x1
          have HTx := Lib.hid htx
          have HVx := Lib.hid hvx
          have HSx := Lib.hid hsx
          have HZx := Lib.hid hzx
          have y0 := (HJ.out.st).c0 (j - 1) (by omega)
          have y1 := (HJ.out.st).c1 (j - 1) (by omega)
          have y2 := (HJ.out.st).f0 (j - 1) (by omega)
          have y3 := (HJ.out.st).f1 (j - 1) (by omega)
          obtain ⟨ty, hty⟩ : ∃ v, v = (p (j - 1)).k.ty := ⟨_, rfl⟩
          obtain ⟨vy, hvy⟩ : ∃ v, v = (p (j - 1)).k.body := ⟨_, rfl⟩
          obtain ⟨sy, hsy⟩ : ∃ v, v = (p (j - 1)).t := ⟨_, rfl⟩
          obtain ⟨zy, hzy⟩ : ∃ v, v = (p (j - 1)).y := ⟨_, rfl⟩
          rw [← hty, ← hvy] at y0
          rw [← hsy, ← hzy] at y1
          have HTy := Lib.hid hty
          have HVy := Lib.hid hvy
          have HSy := Lib.hid hsy
          have HZy := Lib.hid hzy
          obtain ⟨cc, hcc⟩ : ∃ cc, cc = cmpK (p (j)).k (p (j - 1)).k := ⟨_, rfl⟩
          have HCC := Lib.hid hcc
          have HC : Hid (∀ W : World, Calls Tryz.prog 87 #[.agg #[.iface tx vx, .iface sx zx], .agg #[.iface ty vy, .iface sy zy]] W fun e w' => e = .returned (.int .i64 cc) ∧ Below W.heap.size W w') := by
            intro W
            have := cmp71 (p (j)) (p (j - 1)) (HJ.out.ok (j) (by omega)) (HJ.out.ok (j - 1) (by omega)) W
            rw [ordL_eq (HJ.out.ok (j) (by omega)) (HJ.out.ok (j - 1) (by omega)), ← hcc, ← htx, ← hvx, ← hsx, ← hzx, ← hty, ← hvy, ← hsy, ← hzy] at this
            exact this
          clear hcc
          clear htx hvx hsx hzx hty hvy hsy hzy
          have p1 : (j : Int) < (n : Int) := by omega
          have p2 : (j : Int) - 1 < (n : Int) := by omega
          have p3 : (0 : Int) ≤ (j : Int) - 1 := by omega
          have p4 : ((j : Int) - 1).toNat = j - 1 := by omega
          have p6 : (1 : Int) ≤ (j : Int) := by omega
          have p5 : IntKind.i64.wrap ((j : Int) - 1) = (j : Int) - 1 := by rw [IntKind.wrap_i64]; omega
          have hg' : (a : Int) < (j : Int) := by omega
          by_cases hneg : cc < 0
          · go_wp2_with fail
            go_region_held3 (fun w' => w'.cell? ⟨g, j * 2, none⟩ = some (.iface tx vx) ∧ w'.cell? ⟨g, j * 2 + 1, none⟩ = some (.iface sx zx) ∧ w'.cell? ⟨g, (j - 1) * 2, none⟩ = some (.iface ty vy) ∧ w'.cell? ⟨g, (j - 1) * 2 + 1, none⟩ = some (.iface sy zy)) (first | exact ⟨x0, x1, y0, y1⟩ | (refine ⟨?_, ?_, ?_, ?_⟩ <;> (with_reducible (refine cell_below HBc.out ?_)) <;> assumption)) (first
              | (go_at_call 87; (with_reducible refine (HC.out _).mono ?_); rintro e w5 ⟨rfl, hBc⟩; have HBc := Lib.hid hBc; clear hBc))
            have HJ5 : Hid (InsAt W0 B g n f a b p w5) := HJ.out.drew.call HBc.out
            have x5 := HJ5.out.st.c0 j (by omega)
            have x6 := HJ5.out.st.c1 j (by omega)
            have x7 := HJ5.out.st.f0 j (by omega)
            have x8 := HJ5.out.st.f1 j (by omega)
            have y5 := HJ5.out.st.c0 (j - 1) (by omega)
            have y6 := HJ5.out.st.c1 (j - 1) (by omega)
            have y7 := HJ5.out.st.f0 (j - 1) (by omega)
            have y8 := HJ5.out.st.f1 (j - 1) (by omega)
            rw [← HTx.out, ← HVx.out] at x5
            rw [← HSx.out, ← HZx.out] at x6
            rw [← HTy.out, ← HVy.out] at y5
            rw [← HSy.out, ← HZy.out] at y6
            have ne1 : ¬ (j - 1) * 2 = j * 2 := by omega
            have ne2 : ¬ (j - 1) * 2 = j * 2 + 1 := by omega
            have ne3 : ¬ (j - 1) * 2 + 1 = j * 2 := by omega
            have ne4 : ¬ (j - 1) * 2 + 1 = j * 2 + 1 := by omega
            clear x0 x1 x2 x3 y0 y1 y2 y3
            go_wp2_with fail
            go_region
            go_wp2_with fail
            go_roundw
            case rel =>
              refine ⟨j - 1, swp p j (j - 1), by go_num, by omega, by omega, ?_, ?_⟩
              · exact HP.out.step ordE hg hji (by unfold ltE; rw [← HCC.out]; exact hneg)
              · rw [HTx.out, HVx.out, HSx.out, HZx.out, HTy.out, HVy.out, HSy.out, HZy.out]
                exact HJ5.out.swap (i := j) (j := j - 1) haj (by omega) (by omega) (by omega) (by omega) h2 trivial
            case measure => simp [intOf]; omega
          · go_wp2_with fail
            go_region_held3 (fun w' => w'.cell? ⟨g, j * 2, none⟩ = some (.iface tx vx) ∧ w'.cell? ⟨g, j * 2 + 1, none⟩ = some (.iface sx zx) ∧ w'.cell? ⟨g, (j - 1) * 2, none⟩ = some (.iface ty vy) ∧ w'.cell? ⟨g, (j - 1) * 2 + 1, none⟩ = some (.iface sy zy)) (first | exact ⟨x0, x1, y0, y1⟩ | (refine ⟨?_, ?_, ?_, ?_⟩ <;> (with_reducible (refine cell_below HBc.out ?_)) <;> assumption)) (first
              | (go_at_call 87; (with_reducible refine (HC.out _).mono ?_); rintro e w5 ⟨rfl, hBc⟩; have HBc := Lib.hid hBc; clear hBc))
            have HJ5 : Hid (InsAt W0 B g n f a b p w5) := HJ.out.drew.call HBc.out
            go_wp2_with fail
            go_roundw
            case rel => exact ⟨i + 1, p, by go_num, by omega, .inl (by omega), HP.out.done ordE hji haj (.inr (by unfold ltE; rw [← HCC.out]; omega)), HJ5.out⟩
            case measure => simp [intOf]; omega
        · obtain rfl : a = j := by omega
          have hd : decide ((a : Int) < (a : Int)) = false := by simp
          go_wp2_with fail
          go_quiet (fail)
          go_wp2_with fail
          go_roundw
          case rel => exact ⟨i + 1, p, by go_num, by omega, .inl (by omega), HP.out.done ordE hji haj (.inl rfl), HJ.out.drewN _⟩
          case measure => simp [intOf]; omega
    · go_wp2_with fail
      go_end0
      exact ⟨rfl, q, HI.out.st, HI.out.mx, HI.out.pm, HR.out.sub (Nat.le_refl _) (by omega)⟩
end Go.Proofs.YtkpfeodffhfejaaGreatDoor
