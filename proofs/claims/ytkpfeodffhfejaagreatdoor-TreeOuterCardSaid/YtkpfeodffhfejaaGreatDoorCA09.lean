/- Entries of a map in a row of the call's own; two of them exchanged. -/
import Derived.Test.YtkpfeodffhfejaaGreatDoorCA07
import Derived.Test.YtkpfeodffhfejaaGreatDoorCA08
import Derived.RegionTactic
import Derived.BigRegion
import Derived.BigQuiet
import Derived.Test.YtkpfeodffhfejaaGreatDoorCA05
import Derived.Test.YtkpfeodffhfejaaGreatDoorCA04
import Derived.Test.YtkpfeodffhfejaaGreatDoorCA06
namespace Go.Proofs.YtkpfeodffhfejaaGreatDoor
set_option linter.unusedVariables false
set_option maxRecDepth 1000000
open Go.RowKit

def Leaf.ty : Leaf → TypeId
  | .bool _ _ => 85
  | .int _ _ => 87
  | .uint _ _ => 89
  | .float _ _ _ => 91
  | .cplx _ _ _ _ => 93
  | .text _ _ => 95
  | .bytes _ _ => 96
def Leaf.body : Leaf → Value
  | .bool b v => .agg #[.int .i64 b.kind, .string b.name, .int .i64 b.hook, .bool v]
  | .int b x => .agg #[.int .i64 b.kind, .string b.name, .int .i64 b.hook, .int .i64 x]
  | .uint b x => .agg #[.int .i64 b.kind, .string b.name, .int .i64 b.hook, .int .u64 x]
  | .float b x n => .agg #[.int .i64 b.kind, .string b.name, .int .i64 b.hook, .int .u64 x, .int .i64 n]
  | .cplx b x y n => .agg #[.int .i64 b.kind, .string b.name, .int .i64 b.hook, .int .u64 x, .int .u64 y, .int .i64 n]
  | .text b s => .agg #[.int .i64 b.kind, .string b.name, .int .i64 b.hook, .string s]
  | .bytes b s => .agg #[.int .i64 b.kind, .string b.name, .int .i64 b.hook, .string s]
theorem Leaf.val_eq (l : Leaf) : l.val = .iface l.ty l.body := by cases l <;> rfl

/-- A map's entry: its key, its value. -/
structure Ent where
  k : Leaf
  t : TypeId
  y : Value

/-- The entries f lie in block g; what lies below B is as it was. -/
structure St (W0 : World) (B g n : Nat) (f : Nat → Ent) (w : World) : Prop where
  c0 : ∀ i, i < n → w.cell? ⟨g, i * 2, none⟩ = some (.iface (f i).k.ty (f i).k.body)
  c1 : ∀ i, i < n → w.cell? ⟨g, i * 2 + 1, none⟩ = some (.iface (f i).t (f i).y)
  f0 : ∀ i, i < n → w.frozen? ⟨g, i * 2, none⟩ = false
  f1 : ∀ i, i < n → w.frozen? ⟨g, i * 2 + 1, none⟩ = false
  lo : Below B W0 w
  hB : B ≤ g
  hg : g < w.heap.size

theorem St.call {W0 : World} {B g n : Nat} {f : Nat → Ent} {w w' : World} (h : St W0 B g n f w) (hb : Below w.heap.size w w') : St W0 B g n f w' where
  c0 i hi := cell_below hb (h.c0 i hi)
  c1 i hi := cell_below hb (h.c1 i hi)
  f0 i hi := by rw [hb.frozen h.hg]; exact h.f0 i hi
  f1 i hi := by rw [hb.frozen h.hg]; exact h.f1 i hi
  lo := h.lo.trans (hb.mono (by have := h.hB; have := h.hg; omega))
  hB := h.hB
  hg := by have := hb.size; have := h.hg; omega

theorem cell_put (w : World) (g k l : Nat) (v : Value) (h : (w.cell? ⟨g, k, none⟩).isSome = true) : (w.setCell ⟨g, k, none⟩ v).cell? ⟨g, l, none⟩ = if l = k then some v else w.cell? ⟨g, l, none⟩ := by
  by_cases e : l = k
  · subst e; rw [if_pos rfl]; exact World.cell?_setCell_same' w _ v h
  · rw [if_neg e]
    exact World.cell?_setCell_other w _ _ v (by intro hh; injection hh; omega)
theorem some_put (w : World) (g k l : Nat) (v : Value) (h : (w.cell? ⟨g, k, none⟩).isSome = true) (h' : (w.cell? ⟨g, l, none⟩).isSome = true) : ((w.setCell ⟨g, k, none⟩ v).cell? ⟨g, l, none⟩).isSome = true := by
  rw [cell_put w g k l v h]; split
  · rfl
  · exact h'
theorem St.drew {W0 : World} {B g n : Nat} {f : Nat → Ent} {w : World} (h : St W0 B g n f w) : St W0 B g n f w.drew :=
  ⟨h.c0, h.c1, h.f0, h.f1, h.lo.drew, h.hB, h.hg⟩
theorem St.swap {W0 : World} {B g n : Nat} {q : Nat → Ent} {w : World} (h : St W0 B g n q w) {i j : Nat} (hi : i < n) (hj : j < n) (hij : i ≠ j) :
    St W0 B g n (swp q i j) (((((w.setCell ⟨g, i * 2, none⟩ (.iface (q j).k.ty (q j).k.body)).setCell ⟨g, i * 2 + 1, none⟩ (.iface (q j).t (q j).y)).setCell ⟨g, j * 2, none⟩ (.iface (q i).k.ty (q i).k.body)).setCell ⟨g, j * 2 + 1, none⟩ (.iface (q i).t (q i).y)).drew) := by
  apply St.drew
  have key : ∀ l x, w.cell? ⟨g, l, none⟩ = some x → ((((w.setCell ⟨g, i * 2, none⟩ (.iface (q j).k.ty (q j).k.body)).setCell ⟨g, i * 2 + 1, none⟩ (.iface (q j).t (q j).y)).setCell ⟨g, j * 2, none⟩ (.iface (q i).k.ty (q i).k.body)).setCell ⟨g, j * 2 + 1, none⟩ (.iface (q i).t (q i).y)).cell? ⟨g, l, none⟩ =
      some (if l = j * 2 + 1 then .iface (q i).t (q i).y else if l = j * 2 then .iface (q i).k.ty (q i).k.body else if l = i * 2 + 1 then .iface (q j).t (q j).y else if l = i * 2 then .iface (q j).k.ty (q j).k.body else x) := by
    intro l x hx
    have a0 : (w.cell? ⟨g, i * 2, none⟩).isSome = true := by rw [h.c0 i hi]; rfl
    have a1 : (w.cell? ⟨g, i * 2 + 1, none⟩).isSome = true := by rw [h.c1 i hi]; rfl
    have a2 : (w.cell? ⟨g, j * 2, none⟩).isSome = true := by rw [h.c0 j hj]; rfl
    have a3 : (w.cell? ⟨g, j * 2 + 1, none⟩).isSome = true := by rw [h.c1 j hj]; rfl
    have b1 := some_put w g _ _ (.iface (q j).k.ty (q j).k.body) a0 a1
    have b2 := some_put w g _ _ (.iface (q j).k.ty (q j).k.body) a0 a2
    have b3 := some_put w g _ _ (.iface (q j).k.ty (q j).k.body) a0 a3
    have d2 := some_put _ g _ _ (.iface (q j).t (q j).y) b1 b2
    have d3 := some_put _ g _ _ (.iface (q j).t (q j).y) b1 b3
    have m3 := some_put _ g _ _ (.iface (q i).k.ty (q i).k.body) d2 d3
    rw [cell_put _ _ _ _ _ m3, cell_put _ _ _ _ _ d2, cell_put _ _ _ _ _ b1, cell_put _ _ _ _ _ a0, hx]
    split
    · rfl
    · split
      · rfl
      · split
        · rfl
        · split <;> rfl
  constructor
  · intro k hk
    rw [key _ _ (h.c0 k hk)]
    unfold swp
    by_cases e1 : k = i
    · subst e1; rw [if_pos rfl, if_neg (by omega), if_neg (by omega), if_neg (by omega), if_pos rfl]
    · rw [if_neg e1]
      by_cases e2 : k = j
      · subst e2; rw [if_pos rfl, if_neg (by omega), if_pos rfl]
      · rw [if_neg e2, if_neg (by omega), if_neg (by omega), if_neg (by omega), if_neg (by omega)]
  · intro k hk
    rw [key _ _ (h.c1 k hk)]
    unfold swp
    by_cases e1 : k = i
    · subst e1; rw [if_pos rfl, if_neg (by omega), if_neg (by omega), if_pos rfl]
    · rw [if_neg e1]
      by_cases e2 : k = j
      · subst e2; rw [if_pos rfl, if_pos rfl]
      · rw [if_neg e2, if_neg (by omega), if_neg (by omega), if_neg (by omega), if_neg (by omega)]
  · intro k hk; simpa using h.f0 k hk
  · intro k hk; simpa using h.f1 k hk
  · exact (((h.lo.setCell h.hB _).setCell h.hB _).setCell h.hB _).setCell h.hB _
  · exact h.hB
  · simpa using h.hg

set_option maxHeartbeats 2000000 in
theorem swapRange_any {W0 : World} {B g n : Nat} (f : Nat → Ent) (a b c cap : Nat) (w : World) (h : St W0 B g n f w) (h1 : a + c ≤ b) (h2 : b + c ≤ n) (hn : n < 1000) :
    Calls Tryz.prog 182 #[.slice (some ⟨g, 0, none⟩) n cap, .int .i64 a, .int .i64 b, .int .i64 c, .func (.func 87) #[] #[]] w fun e w' => e = .returned (.tuple #[]) ∧ St W0 B g n (swr f a b c) w' := by
  have HS := Lib.hid h
  clear h
  go_enter Tryz.func182, Tryz.ntmps182
  go_wp2_with fail
  go_loopw [10] (fun vi wr => ∃ i : Nat, vi = .int .i64 i ∧ i ≤ c ∧ Hid (St W0 B g n (swr f a b i) wr)) (fun vi _ => c - (intOf vi).toNat)
  case atStart => exact ⟨0, rfl, by omega, by rw [swr_zero]; exact HS.out⟩
  case round =>
    obtain ⟨i, rfl, hi, HI⟩ := hrel
    by_cases hc : i < c
    · obtain ⟨q, hq⟩ : ∃ q, q = swr f a b i := ⟨_, rfl⟩
      rw [← hq] at HI
      have HQ := Lib.hid hq
      clear hq
      have x0 := HI.out.c0 (a + i) (by omega)
      have x1 := HI.out.c1 (a + i) (by omega)
      have y0 := HI.out.c0 (b + i) (by omega)
      have y1 := HI.out.c1 (b + i) (by omega)
      have e0 := HI.out.f0 (a + i) (by omega)
      have e1 := HI.out.f1 (a + i) (by omega)
      have g0 := HI.out.f0 (b + i) (by omega)
      have g1 := HI.out.f1 (b + i) (by omega)
      obtain ⟨tx, htx⟩ : ∃ v, v = (q (a + i)).k.ty := ⟨_, rfl⟩
      obtain ⟨vx, hvx⟩ : ∃ v, v = (q (a + i)).k.body := ⟨_, rfl⟩
      obtain ⟨sx, hsx⟩ : ∃ v, v = (q (a + i)).t := ⟨_, rfl⟩
      obtain ⟨zx, hzx⟩ : ∃ v, v = (q (a + i)).y := ⟨_, rfl⟩
      rw [← htx, ← hvx] at x0
      rw [← hsx, ← hzx] at x1
      have HTx := Lib.hid htx
      have HVx := Lib.hid hvx
      have HSx := Lib.hid hsx
      have HZx := Lib.hid hzx
      clear htx hvx hsx hzx
      obtain ⟨ty, hty⟩ : ∃ v, v = (q (b + i)).k.ty := ⟨_, rfl⟩
      obtain ⟨vy, hvy⟩ : ∃ v, v = (q (b + i)).k.body := ⟨_, rfl⟩
      obtain ⟨sy, hsy⟩ : ∃ v, v = (q (b + i)).t := ⟨_, rfl⟩
      obtain ⟨zy, hzy⟩ : ∃ v, v = (q (b + i)).y := ⟨_, rfl⟩
      rw [← hty, ← hvy] at y0
      rw [← hsy, ← hzy] at y1
      have HTy := Lib.hid hty
      have HVy := Lib.hid hvy
      have HSy := Lib.hid hsy
      have HZy := Lib.hid hzy
      clear hty hvy hsy hzy
      have p1 : (a : Int) + (i : Int) < (n : Int) := by omega
      have p2 : (b : Int) + (i : Int) < (n : Int) := by omega
      have p3 : (0 : Int) ≤ (a : Int) + (i : Int) := by omega
      have p4 : (0 : Int) ≤ (b : Int) + (i : Int) := by omega
      have p5 : ((a : Int) + (i : Int)).toNat = a + i := by omega
      have p6 : ((b : Int) + (i : Int)).toNat = b + i := by omega
      have ne1 : ¬ (b + i) * 2 = (a + i) * 2 := by omega
      have ne2 : ¬ (b + i) * 2 = (a + i) * 2 + 1 := by omega
      have ne3 : ¬ (b + i) * 2 + 1 = (a + i) * 2 := by omega
      have ne4 : ¬ (b + i) * 2 + 1 = (a + i) * 2 + 1 := by omega
      go_wp2_with fail
      go_region
      go_wp2_with fail
      go_roundw
      case rel =>
        refine ⟨i + 1, by go_num, by omega, ?_⟩
        rw [← swr_succ f a b i (by omega), ← HQ.out, HTx.out, HVx.out, HSx.out, HZx.out, HTy.out, HVy.out, HSy.out, HZy.out]
        exact HI.out.swap (by omega) (by omega) (by omega)
      case measure => simp [intOf]; omega
    · obtain rfl : i = c := by omega
      go_wp2_with fail
      go_end0
      exact ⟨rfl, HI.out⟩
end Go.Proofs.YtkpfeodffhfejaaGreatDoor

/- The closure that asks the form; values without parts out of descriptors. -/
namespace Go.Proofs.YtkpfeodffhfejaaGreatDoor
set_option linter.unusedVariables false
set_option maxRecDepth 1000000
set_option linter.unusedSimpArgs false
open Go.RowKit

theorem form_ok (d : D) (w : World) (v : Value) (h : IsD w v d) (hg : formB d = true) : Calls Tryz.prog 34 #[v] w fun e w' => e = .returned (.tuple #[]) ∧ Below w.heap.size w w' := by
  have HD := Lib.hid h
  obtain ⟨a5, c5, a6, c6, rfl, hk, hb, hi, ht, hx, hn, hp⟩ := h.open
  clear hp hn hb hi hk ht hx h
  have HG := Lib.hid hg
  clear hg
  unfold aggD
  go_enter Tryz.func34, Tryz.ntmps34
  go_wp2_with fail
  refine (formed_any (d := d) (HD.out.later (Below.new _))).mono ?_
  unfold FormPost
  rw [HG.out]
  rintro e w1 ⟨rfl, hB⟩
  have HB := Lib.hid ((Below.new _).next hB)
  clear hB
  go_wp2_with fail
  refine (must_ok 4 _).mono ?_
  rintro e w2 ⟨rfl, rfl⟩
  go_wp2_with fail
  go_end0
  exact ⟨rfl, HB.out⟩
theorem form_bad (d : D) (w : World) (v : Value) (h : IsD w v d) (hg : formB d = false) : Calls Tryz.prog 34 #[v] w fun e w' => e = thrown 4 ∧ Below w.heap.size w w' := by
  have HD := Lib.hid h
  obtain ⟨a5, c5, a6, c6, rfl, hk, hb, hi, ht, hx, hn, hp⟩ := h.open
  clear hp hn hb hi hk ht hx h
  have HG := Lib.hid hg
  clear hg
  unfold aggD
  go_enter Tryz.func34, Tryz.ntmps34
  go_wp2_with fail
  refine (formed_any (d := d) (HD.out.later (Below.new _))).mono ?_
  unfold FormPost
  rw [HG.out]
  rintro e w1 ⟨rfl, hB⟩
  have HB := Lib.hid ((Below.new _).next hB)
  clear hB
  go_wp2_with fail
  refine (must_bad 4 _).mono ?_
  rintro e w2 ⟨rfl, rfl⟩
  go_wp2_with fail
  exact ⟨rfl, rfl, HB.out⟩

/-- Two to as many bits as a kind has. -/
def modN (n : Int) : Int := if n = 8 then 256 else if n = 16 then 65536 else if n = 32 then 4294967296 else 18446744073709551616
def unsN (n x : Int) : Int := x % modN n
def sgnN (n x : Int) : Int := if modN n ≤ 2 * (x % modN n) then x % modN n - modN n else x % modN n
def D.base (d : D) : B := ⟨d.kind, d.type, d.hook⟩
/-- The value of a descriptor without parts. -/
def leafV (d : D) : V :=
  if d.kind = 0 then .nil else if d.kind = 1 then .leaf (.bool d.base (d.bits % 2 == 1))
  else if d.kind ≤ 6 then .leaf (.int d.base (sgnN (widthK d.kind) d.bits)) else if d.kind ≤ 11 then .leaf (.uint d.base (unsN (widthK d.kind) d.bits))
  else if d.kind = 12 then .leaf (.float d.base (d.bits % 4294967296) 32) else if d.kind = 13 then .leaf (.float d.base d.bits 64)
  else if d.kind = 14 then .leaf (.cplx d.base (d.bits % 4294967296) (d.imag % 4294967296) 64) else if d.kind = 15 then .leaf (.cplx d.base d.bits d.imag 128)
  else if d.kind = 16 then .leaf (.text d.base d.text) else .leaf (.bytes d.base d.text)
/-- x is handed back. -/
def MadeIs (w : World) (x : V) (e : Ending) (w' : World) : Prop := Below w.heap.size w w' ∧ ∃ t y, e = .returned (.iface t y) ∧ IsVF (w.heap.size ≤ ·) w' (.iface t y) x
theorem made_of {w w' : World} {x : V} {l : Leaf} (h : Below w.heap.size w w') (hx : x = .leaf l) : MadeIs w x (.returned l.val) w' := by
  refine ⟨h, l.ty, l.body, by rw [Leaf.val_eq], ?_⟩
  rw [← Leaf.val_eq, hx]; exact .leaf l
theorem sgn8 (x : Int) : wrap64 (IntKind.u64.wrap (x * 72057594037927936)) / 72057594037927936 = sgnN 8 x := by
  show wrap64 ((x * 72057594037927936) % (2 ^ 64)) / 72057594037927936 = _
  unfold wrap64 sgnN modN; simp; split <;> omega
theorem sgn16 (x : Int) : wrap64 (IntKind.u64.wrap (x * 281474976710656)) / 281474976710656 = sgnN 16 x := by
  show wrap64 ((x * 281474976710656) % (2 ^ 64)) / 281474976710656 = _
  unfold wrap64 sgnN modN; simp; split <;> omega
theorem sgn32 (x : Int) : wrap64 (IntKind.u64.wrap (x * 4294967296)) / 4294967296 = sgnN 32 x := by
  show wrap64 ((x * 4294967296) % (2 ^ 64)) / 4294967296 = _
  unfold wrap64 sgnN modN; simp; split <;> omega
theorem sgn64 (x : Int) : wrap64 (IntKind.u64.wrap x) = sgnN 64 x := by
  show wrap64 (x % (2 ^ 64)) = _
  unfold wrap64 sgnN modN; simp; split <;> omega
theorem _root_.Go.RowKit.Below.drewN {B : Nat} {a w : World} (h : Below B a w) : ∀ n, Below B a (w.drewN n)
  | 0 => h
  | n + 1 => (h.drewN n).drew

set_option maxHeartbeats 4000000 in
theorem made_int (d : D) (w : World) (v : Value) (h : IsD w v d) (h1 : 2 ≤ d.kind) (h2 : d.kind ≤ 6) : Calls Tryz.prog 36 #[v] w (MadeIs w (leafV d)) := by
  obtain ⟨a5, c5, a6, c6, rfl, hk, hb, hi, ht, hx, hn, hp⟩ := h.open
  have HB := Lib.hid hb
  have HV : Hid (leafV d = .leaf (.int d.base (sgnN (widthK d.kind) d.bits))) := by show _ = _; unfold leafV; rw [if_neg (by omega), if_neg (by omega), if_pos h2]
  clear hp hn hb hi hk ht hx h
  unfold aggD
  obtain ⟨x, hx⟩ : ∃ x, x = leafV d := ⟨_, rfl⟩
  rw [← hx] at HV
  rw [← hx]
  clear hx
  obtain ⟨k, hk⟩ : ∃ k, k = d.kind := ⟨_, rfl⟩
  rw [← hk] at h1 h2
  rw [← hk]
  have HK := Lib.hid hk
  clear hk
  have t0 : (k == 0) = false := by simp; omega
  have t1 : (k == 1) = false := by simp; omega
  go_enter Tryz.func36, Tryz.ntmps36
  go_wp2_with fail
  refine (width_any k h1 (by omega) _).mono ?_
  rintro e w2 ⟨rfl, rfl⟩
  have hs : widthK k = 8 ∨ widthK k = 16 ∨ widthK k = 32 ∨ widthK k = 64 := by unfold widthK; split <;> (try split) <;> (try split) <;> omega
  rcases hs with hs | hs | hs | hs
  all_goals
    rw [hs]
    have HS := Lib.hid hs
    clear hs
    go_wp2_with fail
    go_quiet (fail)
    go_wp2_with fail
    refine bodyPost_ret (v := .iface 87 (.agg #[.int .i64 k, .string d.type, .int .i64 d.hook, .int .i64 (sgnN (widthK k) d.bits)])) (by first | (simp [results, Tryz.f36, go_sem, HS.out, sgn8, sgn16, sgn32]; done) | simp [results, Tryz.f36, go_sem, HS.out, sgn64]) rfl ?_
    rw [HK.out]
    exact made_of (l := .int d.base (sgnN (widthK d.kind) d.bits)) (((Below.new _).push _).drewN _) HV.out

theorem uns8 (x : Int) : IntKind.u64.wrap (x * 72057594037927936) / 72057594037927936 = unsN 8 x := by
  show (x * 72057594037927936) % (2 ^ 64) / 72057594037927936 = _
  unfold unsN modN; simp; omega
theorem uns16 (x : Int) : IntKind.u64.wrap (x * 281474976710656) / 281474976710656 = unsN 16 x := by
  show (x * 281474976710656) % (2 ^ 64) / 281474976710656 = _
  unfold unsN modN; simp; omega
theorem uns32 (x : Int) : IntKind.u64.wrap (x * 4294967296) / 4294967296 = unsN 32 x := by
  show (x * 4294967296) % (2 ^ 64) / 4294967296 = _
  unfold unsN modN; simp; omega
theorem uns64 (x : Int) : IntKind.u64.wrap x = unsN 64 x := by
  show x % (2 ^ 64) = _
  unfold unsN modN; simp
set_option maxHeartbeats 4000000 in
theorem made_uint (d : D) (w : World) (v : Value) (h : IsD w v d) (h1 : 7 ≤ d.kind) (h2 : d.kind ≤ 11) : Calls Tryz.prog 36 #[v] w (MadeIs w (leafV d)) := by
  obtain ⟨a5, c5, a6, c6, rfl, hk, hb, hi, ht, hx, hn, hp⟩ := h.open
  have HB := Lib.hid hb
  have HV : Hid (leafV d = .leaf (.uint d.base (unsN (widthK d.kind) d.bits))) := by show _ = _; unfold leafV; rw [if_neg (by omega), if_neg (by omega), if_neg (by omega), if_pos h2]
  clear hp hn hb hi hk ht hx h
  unfold aggD
  obtain ⟨x, hx⟩ : ∃ x, x = leafV d := ⟨_, rfl⟩
  rw [← hx] at HV
  rw [← hx]
  clear hx
  obtain ⟨k, hk⟩ : ∃ k, k = d.kind := ⟨_, rfl⟩
  rw [← hk] at h1 h2
  rw [← hk]
  have HK := Lib.hid hk
  clear hk
  have t0 : (k == 0) = false := by simp; omega
  have t1 : (k == 1) = false := by simp; omega
  have t2 : decide (k ≤ 6) = false := by simp; omega
  have t3 : 2 ≤ k := by omega
  go_enter Tryz.func36, Tryz.ntmps36
  go_wp2_with fail
  refine (width_any k (by omega) h2 _).mono ?_
  rintro e w2 ⟨rfl, rfl⟩
  have hs : widthK k = 8 ∨ widthK k = 16 ∨ widthK k = 32 ∨ widthK k = 64 := by unfold widthK; split <;> (try split) <;> (try split) <;> omega
  rcases hs with hs | hs | hs | hs
  all_goals
    rw [hs]
    have HS := Lib.hid hs
    clear hs
    go_wp2_with fail
    go_quiet (fail)
    go_wp2_with fail
    refine bodyPost_ret (v := .iface 89 (.agg #[.int .i64 k, .string d.type, .int .i64 d.hook, .int .u64 (unsN (widthK k) d.bits)])) (by first | (simp [results, Tryz.f36, go_sem, HS.out, uns8, uns16, uns32]; done) | simp [results, Tryz.f36, go_sem, HS.out, uns64]) rfl ?_
    rw [HK.out]
    exact made_of (l := .uint d.base (unsN (widthK d.kind) d.bits)) (((Below.new _).push _).drewN _) HV.out
end Go.Proofs.YtkpfeodffhfejaaGreatDoor

/- The reference's number: the 64 bits of a whole number. Condition: the kind of a whole number. -/
namespace Go.Proofs.YtkpfeodffhfejaaGreatDoor
set_option linter.unusedVariables false
set_option maxRecDepth 1000000
set_option linter.unusedSimpArgs false
open Go.RowKit

def numK (k x : Int) : Int := if k ≤ 6 then u64of (sgnN (widthK k) x) else unsN (widthK k) x
theorem wrap_neg (x : Int) (h0 : -18446744073709551616 ≤ x) (h1 : x < 0) : IntKind.u64.wrap x = x + 18446744073709551616 := by
  show x % (2 ^ 64) = _
  omega
theorem ret_u64' {a b : Int} (h : a = b) : Ending.returned (.int .u64 a) = .returned (.int .u64 b) := by rw [h]
theorem number_2 (x : Int) (hx : U64 x) (w : World) : Calls Tryz.prog 63 #[.int .i64 2, .int .u64 x] w fun e w' => e = .returned (.int .u64 (numK 2 x)) ∧ w = w' := by
  obtain ⟨h0, h1⟩ := hx
  by_cases hc : 128 ≤ x % 256
  · have HQ : Hid (x % 256 - 256 + 18446744073709551616 = numK 2 x) := by show _ = _; simp only [numK, u64of, sgnN, unsN, widthK, modN]; simp; omega
    go_enter Tryz.func63, Tryz.ntmps63
    go_wp2_with fail
    refine (bits_any 2 (by omega) (by omega) _).mono ?_
    rintro e w1 ⟨rfl, rfl⟩
    rw [show widthK 2 = 8 from rfl]
    go_wp2_with fail
    refine (refSigned_any 2 _).mono ?_
    rintro e w1 ⟨rfl, rfl⟩
    rw [show inB 2 6 2 = true from rfl]
    go_wp2_with fail
    go_ret
    refine ⟨ret_u64' ?_, rfl⟩
    rw [← HQ.out]
    exact wrap_neg _ (by omega) (by omega)
  · have HQ : Hid (x % 256 = numK 2 x) := by show _ = _; simp only [numK, u64of, sgnN, unsN, widthK, modN]; simp; omega
    go_enter Tryz.func63, Tryz.ntmps63
    go_wp2_with fail
    refine (bits_any 2 (by omega) (by omega) _).mono ?_
    rintro e w1 ⟨rfl, rfl⟩
    rw [show widthK 2 = 8 from rfl]
    go_wp2_with fail
    refine (refSigned_any 2 _).mono ?_
    rintro e w1 ⟨rfl, rfl⟩
    rw [show inB 2 6 2 = true from rfl]
    go_wp2_with fail
    go_ret
    exact ⟨ret_u64' HQ.out, rfl⟩
theorem number_3 (x : Int) (hx : U64 x) (w : World) : Calls Tryz.prog 63 #[.int .i64 3, .int .u64 x] w fun e w' => e = .returned (.int .u64 (numK 3 x)) ∧ w = w' := by
  obtain ⟨h0, h1⟩ := hx
  by_cases hc : 32768 ≤ x % 65536
  · have HQ : Hid (x % 65536 - 65536 + 18446744073709551616 = numK 3 x) := by show _ = _; simp only [numK, u64of, sgnN, unsN, widthK, modN]; simp; omega
    go_enter Tryz.func63, Tryz.ntmps63
    go_wp2_with fail
    refine (bits_any 3 (by omega) (by omega) _).mono ?_
    rintro e w1 ⟨rfl, rfl⟩
    rw [show widthK 3 = 16 from rfl]
    go_wp2_with fail
    refine (refSigned_any 3 _).mono ?_
    rintro e w1 ⟨rfl, rfl⟩
    rw [show inB 2 6 3 = true from rfl]
    go_wp2_with fail
    go_ret
    refine ⟨ret_u64' ?_, rfl⟩
    rw [← HQ.out]
    exact wrap_neg _ (by omega) (by omega)
  · have HQ : Hid (x % 65536 = numK 3 x) := by show _ = _; simp only [numK, u64of, sgnN, unsN, widthK, modN]; simp; omega
    go_enter Tryz.func63, Tryz.ntmps63
    go_wp2_with fail
    refine (bits_any 3 (by omega) (by omega) _).mono ?_
    rintro e w1 ⟨rfl, rfl⟩
    rw [show widthK 3 = 16 from rfl]
    go_wp2_with fail
    refine (refSigned_any 3 _).mono ?_
    rintro e w1 ⟨rfl, rfl⟩
    rw [show inB 2 6 3 = true from rfl]
    go_wp2_with fail
    go_ret
    exact ⟨ret_u64' HQ.out, rfl⟩
theorem number_4 (x : Int) (hx : U64 x) (w : World) : Calls Tryz.prog 63 #[.int .i64 4, .int .u64 x] w fun e w' => e = .returned (.int .u64 (numK 4 x)) ∧ w = w' := by
  obtain ⟨h0, h1⟩ := hx
  by_cases hc : 2147483648 ≤ x % 4294967296
  · have HQ : Hid (x % 4294967296 - 4294967296 + 18446744073709551616 = numK 4 x) := by show _ = _; simp only [numK, u64of, sgnN, unsN, widthK, modN]; simp; omega
    go_enter Tryz.func63, Tryz.ntmps63
    go_wp2_with fail
    refine (bits_any 4 (by omega) (by omega) _).mono ?_
    rintro e w1 ⟨rfl, rfl⟩
    rw [show widthK 4 = 32 from rfl]
    go_wp2_with fail
    refine (refSigned_any 4 _).mono ?_
    rintro e w1 ⟨rfl, rfl⟩
    rw [show inB 2 6 4 = true from rfl]
    go_wp2_with fail
    go_ret
    refine ⟨ret_u64' ?_, rfl⟩
    rw [← HQ.out]
    exact wrap_neg _ (by omega) (by omega)
  · have HQ : Hid (x % 4294967296 = numK 4 x) := by show _ = _; simp only [numK, u64of, sgnN, unsN, widthK, modN]; simp; omega
    go_enter Tryz.func63, Tryz.ntmps63
    go_wp2_with fail
    refine (bits_any 4 (by omega) (by omega) _).mono ?_
    rintro e w1 ⟨rfl, rfl⟩
    rw [show widthK 4 = 32 from rfl]
    go_wp2_with fail
    refine (refSigned_any 4 _).mono ?_
    rintro e w1 ⟨rfl, rfl⟩
    rw [show inB 2 6 4 = true from rfl]
    go_wp2_with fail
    go_ret
    exact ⟨ret_u64' HQ.out, rfl⟩
theorem number_5 (x : Int) (hx : U64 x) (w : World) : Calls Tryz.prog 63 #[.int .i64 5, .int .u64 x] w fun e w' => e = .returned (.int .u64 (numK 5 x)) ∧ w = w' := by
  obtain ⟨h0, h1⟩ := hx
  have HQ : Hid (x = numK 5 x) := by show _ = _; simp only [numK, u64of, sgnN, unsN, widthK, modN]; simp; omega
  go_enter Tryz.func63, Tryz.ntmps63
  go_wp2_with fail
  refine (bits_any 5 (by omega) (by omega) _).mono ?_
  rintro e w1 ⟨rfl, rfl⟩
  rw [show widthK 5 = 64 from rfl]
  go_wp2_with fail
  go_ret
  exact ⟨ret_u64' HQ.out, rfl⟩
theorem number_6 (x : Int) (hx : U64 x) (w : World) : Calls Tryz.prog 63 #[.int .i64 6, .int .u64 x] w fun e w' => e = .returned (.int .u64 (numK 6 x)) ∧ w = w' := by
  obtain ⟨h0, h1⟩ := hx
  have HQ : Hid (x = numK 6 x) := by show _ = _; simp only [numK, u64of, sgnN, unsN, widthK, modN]; simp; omega
  go_enter Tryz.func63, Tryz.ntmps63
  go_wp2_with fail
  refine (bits_any 6 (by omega) (by omega) _).mono ?_
  rintro e w1 ⟨rfl, rfl⟩
  rw [show widthK 6 = 64 from rfl]
  go_wp2_with fail
  go_ret
  exact ⟨ret_u64' HQ.out, rfl⟩
theorem number_7 (x : Int) (hx : U64 x) (w : World) : Calls Tryz.prog 63 #[.int .i64 7, .int .u64 x] w fun e w' => e = .returned (.int .u64 (numK 7 x)) ∧ w = w' := by
  obtain ⟨h0, h1⟩ := hx
  have HQ : Hid (x % 256 = numK 7 x) := by show _ = _; simp only [numK, u64of, sgnN, unsN, widthK, modN]; simp
  go_enter Tryz.func63, Tryz.ntmps63
  go_wp2_with fail
  refine (bits_any 7 (by omega) (by omega) _).mono ?_
  rintro e w1 ⟨rfl, rfl⟩
  rw [show widthK 7 = 8 from rfl]
  go_wp2_with fail
  refine (refSigned_any 7 _).mono ?_
  rintro e w1 ⟨rfl, rfl⟩
  rw [show inB 2 6 7 = false from rfl]
  go_wp2_with fail
  go_ret
  exact ⟨ret_u64' HQ.out, rfl⟩
theorem number_8 (x : Int) (hx : U64 x) (w : World) : Calls Tryz.prog 63 #[.int .i64 8, .int .u64 x] w fun e w' => e = .returned (.int .u64 (numK 8 x)) ∧ w = w' := by
  obtain ⟨h0, h1⟩ := hx
  have HQ : Hid (x % 65536 = numK 8 x) := by show _ = _; simp only [numK, u64of, sgnN, unsN, widthK, modN]; simp
  go_enter Tryz.func63, Tryz.ntmps63
  go_wp2_with fail
  refine (bits_any 8 (by omega) (by omega) _).mono ?_
  rintro e w1 ⟨rfl, rfl⟩
  rw [show widthK 8 = 16 from rfl]
  go_wp2_with fail
  refine (refSigned_any 8 _).mono ?_
  rintro e w1 ⟨rfl, rfl⟩
  rw [show inB 2 6 8 = false from rfl]
  go_wp2_with fail
  go_ret
  exact ⟨ret_u64' HQ.out, rfl⟩
theorem number_9 (x : Int) (hx : U64 x) (w : World) : Calls Tryz.prog 63 #[.int .i64 9, .int .u64 x] w fun e w' => e = .returned (.int .u64 (numK 9 x)) ∧ w = w' := by
  obtain ⟨h0, h1⟩ := hx
  have HQ : Hid (x % 4294967296 = numK 9 x) := by show _ = _; simp only [numK, u64of, sgnN, unsN, widthK, modN]; simp
  go_enter Tryz.func63, Tryz.ntmps63
  go_wp2_with fail
  refine (bits_any 9 (by omega) (by omega) _).mono ?_
  rintro e w1 ⟨rfl, rfl⟩
  rw [show widthK 9 = 32 from rfl]
  go_wp2_with fail
  refine (refSigned_any 9 _).mono ?_
  rintro e w1 ⟨rfl, rfl⟩
  rw [show inB 2 6 9 = false from rfl]
  go_wp2_with fail
  go_ret
  exact ⟨ret_u64' HQ.out, rfl⟩
theorem number_10 (x : Int) (hx : U64 x) (w : World) : Calls Tryz.prog 63 #[.int .i64 10, .int .u64 x] w fun e w' => e = .returned (.int .u64 (numK 10 x)) ∧ w = w' := by
  obtain ⟨h0, h1⟩ := hx
  have HQ : Hid (x = numK 10 x) := by show _ = _; simp only [numK, u64of, sgnN, unsN, widthK, modN]; simp; omega
  go_enter Tryz.func63, Tryz.ntmps63
  go_wp2_with fail
  refine (bits_any 10 (by omega) (by omega) _).mono ?_
  rintro e w1 ⟨rfl, rfl⟩
  rw [show widthK 10 = 64 from rfl]
  go_wp2_with fail
  go_ret
  exact ⟨ret_u64' HQ.out, rfl⟩
theorem number_11 (x : Int) (hx : U64 x) (w : World) : Calls Tryz.prog 63 #[.int .i64 11, .int .u64 x] w fun e w' => e = .returned (.int .u64 (numK 11 x)) ∧ w = w' := by
  obtain ⟨h0, h1⟩ := hx
  have HQ : Hid (x = numK 11 x) := by show _ = _; simp only [numK, u64of, sgnN, unsN, widthK, modN]; simp; omega
  go_enter Tryz.func63, Tryz.ntmps63
  go_wp2_with fail
  refine (bits_any 11 (by omega) (by omega) _).mono ?_
  rintro e w1 ⟨rfl, rfl⟩
  rw [show widthK 11 = 64 from rfl]
  go_wp2_with fail
  go_ret
  exact ⟨ret_u64' HQ.out, rfl⟩
theorem number_any (k : Int) (h0 : 2 ≤ k) (h1 : k ≤ 11) (x : Int) (hx : U64 x) (w : World) : Calls Tryz.prog 63 #[.int .i64 k, .int .u64 x] w fun e w' => e = .returned (.int .u64 (numK k x)) ∧ w = w' := by
  have hk : k = 2 ∨ k = 3 ∨ k = 4 ∨ k = 5 ∨ k = 6 ∨ k = 7 ∨ k = 8 ∨ k = 9 ∨ k = 10 ∨ k = 11 := by omega
  rcases hk with rfl | rfl | rfl | rfl | rfl | rfl | rfl | rfl | rfl | rfl
  · exact number_2 x hx w
  · exact number_3 x hx w
  · exact number_4 x hx w
  · exact number_5 x hx w
  · exact number_6 x hx w
  · exact number_7 x hx w
  · exact number_8 x hx w
  · exact number_9 x hx w
  · exact number_10 x hx w
  · exact number_11 x hx w
end Go.Proofs.YtkpfeodffhfejaaGreatDoor
