/- Entries of a map in a row of the call's own; two of them exchanged. -/
import Derived.Test.YtnalppgjbllehaaGreatDoorL16
import Derived.Test.YtnalppgjbllehaaGreatDoorL17
import Derived.RegionTactic
import Derived.BigRegion
import Derived.BigQuiet
import Derived.Test.YtnalppgjbllehaaGreatDoorL15
import Derived.Laws.AppendOwn
import Derived.OwnWalk
namespace Go.Proofs.YtnalppgjbllehaaGreatDoor
set_option linter.unusedVariables false
set_option maxRecDepth 1000000
open Go.RowKit

def Leaf.ty : Leaf → TypeId
  | .bool _ _ => 131
  | .int _ _ => 134
  | .uint _ _ => 136
  | .float _ _ _ => 139
  | .cplx _ _ _ _ => 141
  | .text _ _ => 78
  | .bytes _ _ => 142
def Leaf.body : Leaf → Value
  | .bool b v => .agg #[.int .i64 b.kind, .string b.name, .int .i64 b.hook, .bool v]
  | .int b x => .agg #[.int .i64 b.kind, .string b.name, .int .i64 b.hook, .int .i64 x]
  | .uint b x => .agg #[.int .i64 b.kind, .string b.name, .int .i64 b.hook, .int .u64 x]
  | .float b x n => .agg #[.int .i64 b.kind, .string b.name, .int .i64 b.hook, .int .u64 x, .int .i64 n]
  | .cplx b x y n => .agg #[.int .i64 b.kind, .string b.name, .int .i64 b.hook, .int .u64 x, .int .u64 y, .int .i64 n]
  | .text b s => .agg #[.int .i64 b.kind, .string b.name, .int .i64 b.hook, .string s]
  | .bytes b s => .agg #[.int .i64 b.kind, .string b.name, .int .i64 b.hook, .string s]
theorem Leaf.val_eq (l : Leaf) : l.val = .iface l.ty l.body := by cases l <;> rfl

/-- A map's entry: its key, its value. -/
structure Ent where
  k : Leaf
  t : TypeId
  y : Value

/-- The entries f lie in block g; what lies below B is as it was. -/
structure St (W0 : World) (B g n : Nat) (f : Nat → Ent) (w : World) : Prop where
  c0 : ∀ i, i < n → w.cell? ⟨g, i * 2, none⟩ = some (.iface (f i).k.ty (f i).k.body)
  c1 : ∀ i, i < n → w.cell? ⟨g, i * 2 + 1, none⟩ = some (.iface (f i).t (f i).y)
  f0 : ∀ i, i < n → w.frozen? ⟨g, i * 2, none⟩ = false
  f1 : ∀ i, i < n → w.frozen? ⟨g, i * 2 + 1, none⟩ = false
  lo : Below B W0 w
  hB : B ≤ g
  hg : g < w.heap.size

theorem St.call {W0 : World} {B g n : Nat} {f : Nat → Ent} {w w' : World} (h : St W0 B g n f w) (hb : Below w.heap.size w w') : St W0 B g n f w' where
  c0 i hi := cell_below hb (h.c0 i hi)
  c1 i hi := cell_below hb (h.c1 i hi)
  f0 i hi := by rw [hb.frozen h.hg]; exact h.f0 i hi
  f1 i hi := by rw [hb.frozen h.hg]; exact h.f1 i hi
  lo := h.lo.trans (hb.mono (by have := h.hB; have := h.hg; omega))
  hB := h.hB
  hg := by have := hb.size; have := h.hg; omega

theorem cell_put (w : World) (g k l : Nat) (v : Value) (h : (w.cell? ⟨g, k, none⟩).isSome = true) : (w.setCell ⟨g, k, none⟩ v).cell? ⟨g, l, none⟩ = if l = k then some v else w.cell? ⟨g, l, none⟩ := by
  by_cases e : l = k
  · subst e; rw [if_pos rfl]; exact World.cell?_setCell_same' w _ v h
  · rw [if_neg e]
    exact World.cell?_setCell_other w _ _ v (by intro hh; injection hh; omega)
theorem some_put (w : World) (g k l : Nat) (v : Value) (h : (w.cell? ⟨g, k, none⟩).isSome = true) (h' : (w.cell? ⟨g, l, none⟩).isSome = true) : ((w.setCell ⟨g, k, none⟩ v).cell? ⟨g, l, none⟩).isSome = true := by
  rw [cell_put w g k l v h]; split
  · rfl
  · exact h'
theorem St.drew {W0 : World} {B g n : Nat} {f : Nat → Ent} {w : World} (h : St W0 B g n f w) : St W0 B g n f w.drew :=
  ⟨h.c0, h.c1, h.f0, h.f1, h.lo.drew, h.hB, h.hg⟩
theorem St.swap {W0 : World} {B g n : Nat} {q : Nat → Ent} {w : World} (h : St W0 B g n q w) {i j : Nat} (hi : i < n) (hj : j < n) (hij : i ≠ j) :
    St W0 B g n (swp q i j) (((((w.setCell ⟨g, i * 2, none⟩ (.iface (q j).k.ty (q j).k.body)).setCell ⟨g, i * 2 + 1, none⟩ (.iface (q j).t (q j).y)).setCell ⟨g, j * 2, none⟩ (.iface (q i).k.ty (q i).k.body)).setCell ⟨g, j * 2 + 1, none⟩ (.iface (q i).t (q i).y)).drew) := by
  apply St.drew
  have key : ∀ l x, w.cell? ⟨g, l, none⟩ = some x → ((((w.setCell ⟨g, i * 2, none⟩ (.iface (q j).k.ty (q j).k.body)).setCell ⟨g, i * 2 + 1, none⟩ (.iface (q j).t (q j).y)).setCell ⟨g, j * 2, none⟩ (.iface (q i).k.ty (q i).k.body)).setCell ⟨g, j * 2 + 1, none⟩ (.iface (q i).t (q i).y)).cell? ⟨g, l, none⟩ =
      some (if l = j * 2 + 1 then .iface (q i).t (q i).y else if l = j * 2 then .iface (q i).k.ty (q i).k.body else if l = i * 2 + 1 then .iface (q j).t (q j).y else if l = i * 2 then .iface (q j).k.ty (q j).k.body else x) := by
    intro l x hx
    have a0 : (w.cell? ⟨g, i * 2, none⟩).isSome = true := by rw [h.c0 i hi]; rfl
    have a1 : (w.cell? ⟨g, i * 2 + 1, none⟩).isSome = true := by rw [h.c1 i hi]; rfl
    have a2 : (w.cell? ⟨g, j * 2, none⟩).isSome = true := by rw [h.c0 j hj]; rfl
    have a3 : (w.cell? ⟨g, j * 2 + 1, none⟩).isSome = true := by rw [h.c1 j hj]; rfl
    have b1 := some_put w g _ _ (.iface (q j).k.ty (q j).k.body) a0 a1
    have b2 := some_put w g _ _ (.iface (q j).k.ty (q j).k.body) a0 a2
    have b3 := some_put w g _ _ (.iface (q j).k.ty (q j).k.body) a0 a3
    have d2 := some_put _ g _ _ (.iface (q j).t (q j).y) b1 b2
    have d3 := some_put _ g _ _ (.iface (q j).t (q j).y) b1 b3
    have m3 := some_put _ g _ _ (.iface (q i).k.ty (q i).k.body) d2 d3
    rw [cell_put _ _ _ _ _ m3, cell_put _ _ _ _ _ d2, cell_put _ _ _ _ _ b1, cell_put _ _ _ _ _ a0, hx]
    split
    · rfl
    · split
      · rfl
      · split
        · rfl
        · split <;> rfl
  constructor
  · intro k hk
    rw [key _ _ (h.c0 k hk)]
    unfold swp
    by_cases e1 : k = i
    · subst e1; rw [if_pos rfl, if_neg (by omega), if_neg (by omega), if_neg (by omega), if_pos rfl]
    · rw [if_neg e1]
      by_cases e2 : k = j
      · subst e2; rw [if_pos rfl, if_neg (by omega), if_pos rfl]
      · rw [if_neg e2, if_neg (by omega), if_neg (by omega), if_neg (by omega), if_neg (by omega)]
  · intro k hk
    rw [key _ _ (h.c1 k hk)]
    unfold swp
    by_cases e1 : k = i
    · subst e1; rw [if_pos rfl, if_neg (by omega), if_neg (by omega), if_pos rfl]
    · rw [if_neg e1]
      by_cases e2 : k = j
      · subst e2; rw [if_pos rfl, if_pos rfl]
      · rw [if_neg e2, if_neg (by omega), if_neg (by omega), if_neg (by omega), if_neg (by omega)]
  · intro k hk; simpa using h.f0 k hk
  · intro k hk; simpa using h.f1 k hk
  · exact (((h.lo.setCell h.hB _).setCell h.hB _).setCell h.hB _).setCell h.hB _
  · exact h.hB
  · simpa using h.hg

set_option maxHeartbeats 2000000 in
theorem swapRange_any {W0 : World} {B g n : Nat} (f : Nat → Ent) (a b c cap : Nat) (w : World) (h : St W0 B g n f w) (h1 : a + c ≤ b) (h2 : b + c ≤ n) (hn : n < 1000) :
    Calls Tryz.prog 194 #[.slice (some ⟨g, 0, none⟩) n cap, .int .i64 a, .int .i64 b, .int .i64 c, .func (.func 96) #[] #[]] w fun e w' => e = .returned (.tuple #[]) ∧ St W0 B g n (swr f a b c) w' := by
  have HS := Lib.hid h
  clear h
  go_enter Tryz.func194, Tryz.ntmps194
  go_wp2_with fail
  go_loopw [10] (fun vi wr => ∃ i : Nat, vi = .int .i64 i ∧ i ≤ c ∧ Hid (St W0 B g n (swr f a b i) wr)) (fun vi _ => c - (intOf vi).toNat)
  case atStart => exact ⟨0, rfl, by omega, by rw [swr_zero]; exact HS.out⟩
  case round =>
    obtain ⟨i, rfl, hi, HI⟩ := hrel
    by_cases hc : i < c
    · obtain ⟨q, hq⟩ : ∃ q, q = swr f a b i := ⟨_, rfl⟩
      rw [← hq] at HI
      have HQ := Lib.hid hq
      clear hq
      have x0 := HI.out.c0 (a + i) (by omega)
      have x1 := HI.out.c1 (a + i) (by omega)
      have y0 := HI.out.c0 (b + i) (by omega)
      have y1 := HI.out.c1 (b + i) (by omega)
      have e0 := HI.out.f0 (a + i) (by omega)
      have e1 := HI.out.f1 (a + i) (by omega)
      have g0 := HI.out.f0 (b + i) (by omega)
      have g1 := HI.out.f1 (b + i) (by omega)
      obtain ⟨tx, htx⟩ : ∃ v, v = (q (a + i)).k.ty := ⟨_, rfl⟩
      obtain ⟨vx, hvx⟩ : ∃ v, v = (q (a + i)).k.body := ⟨_, rfl⟩
      obtain ⟨sx, hsx⟩ : ∃ v, v = (q (a + i)).t := ⟨_, rfl⟩
      obtain ⟨zx, hzx⟩ : ∃ v, v = (q (a + i)).y := ⟨_, rfl⟩
      rw [← htx, ← hvx] at x0
      rw [← hsx, ← hzx] at x1
      have HTx := Lib.hid htx
      have HVx := Lib.hid hvx
      have HSx := Lib.hid hsx
      have HZx := Lib.hid hzx
      clear htx hvx hsx hzx
      obtain ⟨ty, hty⟩ : ∃ v, v = (q (b + i)).k.ty := ⟨_, rfl⟩
      obtain ⟨vy, hvy⟩ : ∃ v, v = (q (b + i)).k.body := ⟨_, rfl⟩
      obtain ⟨sy, hsy⟩ : ∃ v, v = (q (b + i)).t := ⟨_, rfl⟩
      obtain ⟨zy, hzy⟩ : ∃ v, v = (q (b + i)).y := ⟨_, rfl⟩
      rw [← hty, ← hvy] at y0
      rw [← hsy, ← hzy] at y1
      have HTy := Lib.hid hty
      have HVy := Lib.hid hvy
      have HSy := Lib.hid hsy
      have HZy := Lib.hid hzy
      clear hty hvy hsy hzy
      have p1 : (a : Int) + (i : Int) < (n : Int) := by omega
      have p2 : (b : Int) + (i : Int) < (n : Int) := by omega
      have p3 : (0 : Int) ≤ (a : Int) + (i : Int) := by omega
      have p4 : (0 : Int) ≤ (b : Int) + (i : Int) := by omega
      have p5 : ((a : Int) + (i : Int)).toNat = a + i := by omega
      have p6 : ((b : Int) + (i : Int)).toNat = b + i := by omega
      have ne1 : ¬ (b + i) * 2 = (a + i) * 2 := by omega
      have ne2 : ¬ (b + i) * 2 = (a + i) * 2 + 1 := by omega
      have ne3 : ¬ (b + i) * 2 + 1 = (a + i) * 2 := by omega
      have ne4 : ¬ (b + i) * 2 + 1 = (a + i) * 2 + 1 := by omega
      go_wp2_with fail
      go_region
      go_wp2_with fail
      go_roundw
      case rel =>
        refine ⟨i + 1, by go_num, by omega, ?_⟩
        rw [← swr_succ f a b i (by omega), ← HQ.out, HTx.out, HVx.out, HSx.out, HZx.out, HTy.out, HVy.out, HSy.out, HZy.out]
        exact HI.out.swap (by omega) (by omega) (by omega)
      case measure => simp [intOf]; omega
    · obtain rfl : i = c := by omega
      go_wp2_with fail
      go_end0
      exact ⟨rfl, HI.out⟩
end Go.Proofs.YtnalppgjbllehaaGreatDoor

/- Values that lie in given blocks; what is appended to a row of the call's own. No condition. -/
namespace Go.Proofs.YtnalppgjbllehaaGreatDoor
set_option linter.unusedVariables false
set_option maxRecDepth 1000000
open Go.RowKit

/-- The value of an interface is the value x, all of it in blocks of S. -/
inductive IsVF (S : Nat → Prop) (w : World) : Value → V → Prop where
  | nil : IsVF S w (.iface 129 (.agg #[])) .nil
  | nil0 : IsVF S w .nilIface .nil
  | leaf (l : Leaf) : IsVF S w l.val (.leaf l)
  | list (b : B) (a : Option Addr) (c bb oo : Nat) (vs : Nat → Value) (l : List V) (h1 : l.length ≤ c) (h2 : l.length < 1000) (h3 : 0 < l.length → a = some ⟨bb, oo, none⟩ ∧ S bb)
      (h4 : ∀ i, i < l.length → w.cell? ⟨bb, oo + i, none⟩ = some (vs i)) (h5 : ∀ i (h : i < l.length), IsVF S w (vs i) l[i]) (h6 : ∀ i, i < l.length → ∃ t y, vs i = .iface t y) :
      IsVF S w (.iface 162 (.agg #[.int .i64 b.kind, .string b.name, .int .i64 b.hook, .slice a l.length c])) (.great .list b 0 [] l)
  | struct (b : B) (a : Option Addr) (c bb oo : Nat) (vs : Nat → Value) (names : List ByteArray) (l : List V) (hn : names.length = l.length) (h1 : l.length ≤ c) (h2 : l.length < 1000) (h3 : 0 < l.length → a = some ⟨bb, oo, none⟩ ∧ S bb)
      (h4 : ∀ i (h : i < names.length), w.cell? ⟨bb, oo + i * 2, none⟩ = some (.string names[i])) (h4' : ∀ i, i < l.length → w.cell? ⟨bb, oo + i * 2 + 1, none⟩ = some (vs i)) (h5 : ∀ i (h : i < l.length), IsVF S w (vs i) l[i]) (h6 : ∀ i, i < l.length → ∃ t y, vs i = .iface t y) :
      IsVF S w (.iface 160 (.agg #[.int .i64 b.kind, .string b.name, .int .i64 b.hook, .slice a l.length c])) (.great .struct b 0 names l)
  | map (b : B) (a : Option Addr) (c bb oo n : Nat) (vs : Nat → Value) (l : List V) (hn : l.length = n * 2) (h1 : n ≤ c) (h2 : l.length < 1000) (h3 : 0 < n → a = some ⟨bb, oo, none⟩ ∧ S bb)
      (h4 : ∀ i, i < n → w.cell? ⟨bb, oo + i * 2, none⟩ = some (vs (i * 2))) (h4' : ∀ i, i < n → w.cell? ⟨bb, oo + i * 2 + 1, none⟩ = some (vs (i * 2 + 1))) (h5 : ∀ i (h : i < l.length), IsVF S w (vs i) l[i]) (h6 : ∀ i, i < l.length → ∃ t y, vs i = .iface t y) :
      IsVF S w (.iface 165 (.agg #[.int .i64 b.kind, .string b.name, .int .i64 b.hook, .slice a n c])) (.great .map b 0 [] l)
  | ptr0 (b : B) (addr : Int) : IsVF S w (.iface 119 (.agg #[.int .i64 b.kind, .string b.name, .int .i64 b.hook, .int .u64 addr, .nilIface])) (.great .ptr b addr [] [])
  | ptr1 (b : B) (addr : Int) (v : Value) (x : V) (hv : v ≠ .nilIface) (h : IsVF S w v x) : IsVF S w (.iface 119 (.agg #[.int .i64 b.kind, .string b.name, .int .i64 b.hook, .int .u64 addr, v])) (.great .ptr b addr [] [x])

theorem IsVF.isV {S : Nat → Prop} {w : World} {v : Value} {x : V} (h : IsVF S w v x) : IsV w v x := by
  induction h with
  | nil => exact .nil
  | nil0 => exact .nil0
  | leaf l => exact .leaf l
  | list b a c bb oo vs l h1 h2 h3 h4 h5 h6 ih => exact .list b a c bb oo vs l h1 h2 (fun h => (h3 h).1) h4 ih h6
  | struct b a c bb oo vs names l hn h1 h2 h3 h4 h4' h5 h6 ih => exact .struct b a c bb oo vs names l hn h1 h2 (fun h => (h3 h).1) h4 h4' ih h6
  | map b a c bb oo n vs l hn h1 h2 h3 h4 h4' h5 h6 ih => exact .map b a c bb oo n vs l hn h1 h2 (fun h => (h3 h).1) h4 h4' ih h6
  | ptr0 b addr => exact .ptr0 b addr
  | ptr1 b addr v x hv h ih => exact .ptr1 b addr v x hv ih

theorem cell_block {w w' : World} {b o : Nat} (hb : w'.heap[b]? = w.heap[b]?) {v : Value} (h : w.cell? ⟨b, o, none⟩ = some v) : w'.cell? ⟨b, o, none⟩ = some v := by
  rw [World.cell?_of_block (a := ⟨b, o, none⟩) hb]; exact h

/-- The same blocks read the same; more blocks are allowed. -/
theorem IsVF.keep {S S' : Nat → Prop} {w w' : World} (hs : ∀ k, k < w.heap.size → S k → S' k ∧ w'.heap[k]? = w.heap[k]?) {v : Value} {x : V} (h : IsVF S w v x) : IsVF S' w' v x := by
  have lt : ∀ {b o : Nat} {u : Value}, w.cell? ⟨b, o, none⟩ = some u → b < w.heap.size := fun h => World.block_lt_of_cell? w _ h
  induction h with
  | nil => exact .nil
  | nil0 => exact .nil0
  | leaf l => exact .leaf l
  | list b a c bb oo vs l h1 h2 h3 h4 h5 h6 ih =>
    exact .list b a c bb oo vs l h1 h2 (fun h => ⟨(h3 h).1, (hs bb (lt (h4 0 h)) (h3 h).2).1⟩) (fun i hi => cell_block (hs bb (lt (h4 i hi)) (h3 (by omega)).2).2 (h4 i hi)) ih h6
  | struct b a c bb oo vs names l hn h1 h2 h3 h4 h4' h5 h6 ih =>
    exact .struct b a c bb oo vs names l hn h1 h2 (fun h => ⟨(h3 h).1, (hs bb (lt (h4' 0 h)) (h3 h).2).1⟩) (fun i hi => cell_block (hs bb (lt (h4 i hi)) (h3 (by omega)).2).2 (h4 i hi)) (fun i hi => cell_block (hs bb (lt (h4' i hi)) (h3 (by omega)).2).2 (h4' i hi)) ih h6
  | map b a c bb oo n vs l hn h1 h2 h3 h4 h4' h5 h6 ih =>
    exact .map b a c bb oo n vs l hn h1 h2 (fun h => ⟨(h3 h).1, (hs bb (lt (h4 0 h)) (h3 h).2).1⟩) (fun i hi => cell_block (hs bb (lt (h4 i hi)) (h3 (by omega)).2).2 (h4 i hi)) (fun i hi => cell_block (hs bb (lt (h4' i hi)) (h3 (by omega)).2).2 (h4' i hi)) ih h6
  | ptr0 b addr => exact .ptr0 b addr
  | ptr1 b addr v x hv h ih => exact .ptr1 b addr v x hv ih
theorem IsVF.mono {S S' : Nat → Prop} {w : World} (hs : ∀ k, k < w.heap.size → S k → S' k) {v : Value} {x : V} (h : IsVF S w v x) : IsVF S' w v x := h.keep fun k hk hk' => ⟨hs k hk hk', rfl⟩
theorem IsVF.later {S : Nat → Prop} {w w' : World} (hb : Below w.heap.size w w') {v : Value} {x : V} (h : IsVF S w v x) : IsVF S w' v x := h.keep fun k hk hk' => ⟨hk', hb.block k hk⟩
theorem IsVF.shape {S : Nat → Prop} {w : World} {v : Value} {x : V} (h : IsVF S w v x) : v = .nilIface ∨ ∃ t y, v = .iface t y := h.isV.shape

theorem lt_of_some {w : World} {g : Nat} {o : Obj} (h : w.heap[g]? = some o) : g < w.heap.size := (Array.getElem?_eq_some_iff.1 h).1

/-- Where what was appended lies: in the block as before, or in a new one. -/
def Last (v' v : Value) (n : Nat) : Prop := ∃ g, v'.ownBlock = some g ∧ (v.ownBlock = some g ∨ g = n)

section
variable {P : Program}
/-- One element more: in the same block, or in a new one. -/
theorem run_append_one (w : World) (base : Nat) (t ty e : TypeId) (i : TypeInfo) (z : Value) (size bytes : Nat) (ht : P.underlying t = some (.slice e)) (hi : P.info? e = some i) (hz : i.zero = some z)
    (hsize : i.size = size) (hby : i.bytes = bytes) (hzs : z.cells.size = size) (hsz : 0 < size)
    (v : Value) (n : Nat) (xs : List Value) (hown : w.ownsRow base e size v n xs)
    (a : Addr) (c : Nat) (news : List Value) (hl : news.length = 1 * size) (hnews : ∀ j u, news[j]? = some u → w.cell? (a.add j) = some u) (h1 : ∀ u ∈ news, u.oneCell' = true)
    (h63 : n + 1 ≤ maxLen) (hbytes : (n + 1) * bytes ≤ 140737488355328) (hbase : base ≤ w.heap.size) :
    ∃ v' w', (Builtin.append_ #[t, t] ty #[v, .slice (some a) 1 c]).run P w = .ok v' w' ∧ w'.ownsRow base e size v' (n + 1) (xs ++ news) ∧ w.grownBy w' v.ownBlock ∧
      ∃ g, v'.ownBlock = some g ∧ (v.ownBlock = some g ∨ g = w.heap.size) := by
  obtain ⟨v', w', hr, h2, h3, _⟩ := run_append_own w base t ty e i z size bytes ht hi hz hsize hby hzs hsz v n xs hown a 1 c news hl hnews h1 h63 hbytes hbase
  refine ⟨v', w', hr, h2, h3, ?_⟩
  subst hsize
  subst hby
  have h63' : ((n + 1 : Nat) : Int) ≤ 9223372036854775807 := by simp only [maxLen] at h63; omega
  rcases hown.2 with ⟨rfl, rfl⟩ | ⟨g, cap, cur, rfl, hbg, hg, hnc, hcm, hcs, htake⟩
  · have := run_append_nil (P := P) (w := w) t ty e i z ht hi hz a 1 c news hl hnews (by omega) (by simp) (by simp only [Nat.zero_add] at hbytes; omega)
    rw [hr] at this
    injection this with e1 e2
    subst e1
    exact ⟨_, rfl, .inr rfl⟩
  · by_cases hroom : n + 1 ≤ cap
    · have hfit : n * i.size + news.length ≤ cur.size := by rw [hl, hcs, ← Nat.add_mul]; exact Nat.mul_le_mul_right _ hroom
      have := run_append_room (P := P) w t ty e i ht hi g n cap cur hg a 1 c news hl hnews h1 hroom hfit
      rw [hr] at this
      injection this with e1 e2
      subst e1
      exact ⟨_, rfl, .inl rfl⟩
    · have holds : ∀ j u, xs[j]? = some u → w.cell? ((⟨g, 0, none⟩ : Addr).add j) = some u := hown.cells (g := g) rfl
      have := run_append_grow (P := P) (w := w) t ty e i z ht hi hz ⟨g, 0, none⟩ n cap xs hown.1 holds a 1 c news hl hnews (by omega) h63' (growslice_fits (by omega) hbytes)
      rw [hr] at this
      injection this with e1 e2
      subst e1
      exact ⟨_, rfl, .inr rfl⟩

theorem wpList_append_one (w : World) {ops : Array Oper} {rest : List Oper} {o : Oper} {a : Act} {Q : Exit → Act → World → Prop} (hgd : o.guard = none) (s x : Operand) (t : TypeId)
    (ho : o.op = .call { callee := .builtin .append, args := #[s, x], argTypes := #[t, t] })
    (base : Nat) (e : TypeId) (i : TypeInfo) (z : Value) (size bytes : Nat) (ht : P.underlying t = some (.slice e)) (hi : P.info? e = some i) (hz : i.zero = some z)
    (hsize : i.size = size) (hby : i.bytes = bytes) (hzs : z.cells.size = size) (hsz : 0 < size)
    (v : Value) (n : Nat) (xs : List Value) (hs : a.eval s = v) (hown : w.ownsRow base e size v n xs)
    (ad : Addr) (c : Nat) (news : List Value) (hx : a.eval x = .slice (some ad) 1 c) (hl : news.length = 1 * size) (hnews : ∀ j u, news[j]? = some u → w.cell? (ad.add j) = some u) (h1 : ∀ u ∈ news, u.oneCell' = true)
    (h63 : n + 1 ≤ maxLen) (hbytes : (n + 1) * bytes ≤ 140737488355328) (hbase : base ≤ w.heap.size)
    (h : ∀ v' w', w'.ownsRow base e size v' (n + 1) (xs ++ news) → w.grownBy w' v.ownBlock → Last v' v w.heap.size → wpList P ops Q rest (a.put o.dst v') w') : wpList P ops Q (o :: rest) a w := by
  obtain ⟨v', w', hr, h2, h3, h4⟩ := run_append_one (P := P) w base t o.type e i z size bytes ht hi hz hsize hby hzs hsz v n xs hown ad c news hl hnews h1 h63 hbytes hbase
  refine wpList_plain hgd fun _ hK => ?_
  unfold Oper.wp execOp
  simp only [ho, resolve, invoke, builtin, Sem.run_bind, Sem.run_pure, Result.andThen_ok, List.map_toArray, List.map_cons, List.map_nil, hs, hx, hr]
  exact hK _ _ (h v' w' h2 h3 h4)
end

/-- Below, by what an append leaves. -/
theorem below_grown {W0 w w' : World} {v : Value} {base : Nat} {e : TypeId} {size n : Nat} {xs : List Value} (h : Below base W0 w) (hg : w.grownBy w' v.ownBlock) (ho : w.ownsRow base e size v n xs) (hB : base ≤ w.heap.size) : Below base W0 w' :=
  h.grown hg hB fun k hk => (ho.lt k hk).1
end Go.Proofs.YtnalppgjbllehaaGreatDoor
