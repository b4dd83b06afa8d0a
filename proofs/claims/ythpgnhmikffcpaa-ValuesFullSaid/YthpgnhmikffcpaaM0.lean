/- Values that lie in given blocks; what is appended to a row of the call's own. No condition. -/
import Derived.Test.YthpgnhmikffcpaaG
import Derived.Laws.AppendOwn
import Derived.OwnWalk
namespace Go.Proofs.Ythpgnhmikffcpaa
set_option linter.unusedVariables false
open Go.RowKit

/-- The value of an interface is the value x, all of it in blocks of S. -/
inductive IsVF (S : Nat → Prop) (w : World) : Value → V → Prop where
  | nil : IsVF S w (.iface 80 (.agg #[])) .nil
  | nil0 : IsVF S w .nilIface .nil
  | leaf (l : Leaf) : IsVF S w l.val (.leaf l)
  | list (b : B) (a : Option Addr) (c bb oo : Nat) (vs : Nat → Value) (l : List V) (h1 : l.length ≤ c) (h2 : l.length < 1000) (h3 : 0 < l.length → a = some ⟨bb, oo, none⟩ ∧ S bb)
      (h4 : ∀ i, i < l.length → w.cell? ⟨bb, oo + i, none⟩ = some (vs i)) (h5 : ∀ i (h : i < l.length), IsVF S w (vs i) l[i]) (h6 : ∀ i, i < l.length → ∃ t y, vs i = .iface t y) :
      IsVF S w (.iface 114 (.agg #[.int .i64 b.kind, .string b.name, .int .i64 b.hook, .slice a l.length c])) (.great .list b 0 [] l)
  | struct (b : B) (a : Option Addr) (c bb oo : Nat) (vs : Nat → Value) (names : List ByteArray) (l : List V) (hn : names.length = l.length) (h1 : l.length ≤ c) (h2 : l.length < 1000) (h3 : 0 < l.length → a = some ⟨bb, oo, none⟩ ∧ S bb)
      (h4 : ∀ i (h : i < names.length), w.cell? ⟨bb, oo + i * 2, none⟩ = some (.string names[i])) (h4' : ∀ i, i < l.length → w.cell? ⟨bb, oo + i * 2 + 1, none⟩ = some (vs i)) (h5 : ∀ i (h : i < l.length), IsVF S w (vs i) l[i]) (h6 : ∀ i, i < l.length → ∃ t y, vs i = .iface t y) :
      IsVF S w (.iface 104 (.agg #[.int .i64 b.kind, .string b.name, .int .i64 b.hook, .slice a l.length c])) (.great .struct b 0 names l)
  | map (b : B) (a : Option Addr) (c bb oo n : Nat) (vs : Nat → Value) (l : List V) (hn : l.length = n * 2) (h1 : n ≤ c) (h2 : l.length < 1000) (h3 : 0 < n → a = some ⟨bb, oo, none⟩ ∧ S bb)
      (h4 : ∀ i, i < n → w.cell? ⟨bb, oo + i * 2, none⟩ = some (vs (i * 2))) (h4' : ∀ i, i < n → w.cell? ⟨bb, oo + i * 2 + 1, none⟩ = some (vs (i * 2 + 1))) (h5 : ∀ i (h : i < l.length), IsVF S w (vs i) l[i]) (h6 : ∀ i, i < l.length → ∃ t y, vs i = .iface t y) :
      IsVF S w (.iface 117 (.agg #[.int .i64 b.kind, .string b.name, .int .i64 b.hook, .slice a n c])) (.great .map b 0 [] l)
  | ptr0 (b : B) (addr : Int) : IsVF S w (.iface 108 (.agg #[.int .i64 b.kind, .string b.name, .int .i64 b.hook, .int .u64 addr, .nilIface])) (.great .ptr b addr [] [])
  | ptr1 (b : B) (addr : Int) (v : Value) (x : V) (hv : v ≠ .nilIface) (h : IsVF S w v x) : IsVF S w (.iface 108 (.agg #[.int .i64 b.kind, .string b.name, .int .i64 b.hook, .int .u64 addr, v])) (.great .ptr b addr [] [x])

theorem IsVF.isV {S : Nat → Prop} {w : World} {v : Value} {x : V} (h : IsVF S w v x) : IsV w v x := by
  induction h with
  | nil => exact .nil
  | nil0 => exact .nil0
  | leaf l => exact .leaf l
  | list b a c bb oo vs l h1 h2 h3 h4 h5 h6 ih => exact .list b a c bb oo vs l h1 h2 (fun h => (h3 h).1) h4 ih h6
  | struct b a c bb oo vs names l hn h1 h2 h3 h4 h4' h5 h6 ih => exact .struct b a c bb oo vs names l hn h1 h2 (fun h => (h3 h).1) h4 h4' ih h6
  | map b a c bb oo n vs l hn h1 h2 h3 h4 h4' h5 h6 ih => exact .map b a c bb oo n vs l hn h1 h2 (fun h => (h3 h).1) h4 h4' ih h6
  | ptr0 b addr => exact .ptr0 b addr
  | ptr1 b addr v x hv h ih => exact .ptr1 b addr v x hv ih

theorem cell_block {w w' : World} {b o : Nat} (hb : w'.heap[b]? = w.heap[b]?) {v : Value} (h : w.cell? ⟨b, o, none⟩ = some v) : w'.cell? ⟨b, o, none⟩ = some v := by
  rw [World.cell?_of_block (a := ⟨b, o, none⟩) hb]; exact h

/-- The same blocks read the same; more blocks are allowed. -/
theorem IsVF.keep {S S' : Nat → Prop} {w w' : World} (hs : ∀ k, k < w.heap.size → S k → S' k ∧ w'.heap[k]? = w.heap[k]?) {v : Value} {x : V} (h : IsVF S w v x) : IsVF S' w' v x := by
  have lt : ∀ {b o : Nat} {u : Value}, w.cell? ⟨b, o, none⟩ = some u → b < w.heap.size := fun h => World.block_lt_of_cell? w _ h
  induction h with
  | nil => exact .nil
  | nil0 => exact .nil0
  | leaf l => exact .leaf l
  | list b a c bb oo vs l h1 h2 h3 h4 h5 h6 ih =>
    exact .list b a c bb oo vs l h1 h2 (fun h => ⟨(h3 h).1, (hs bb (lt (h4 0 h)) (h3 h).2).1⟩) (fun i hi => cell_block (hs bb (lt (h4 i hi)) (h3 (by omega)).2).2 (h4 i hi)) ih h6
  | struct b a c bb oo vs names l hn h1 h2 h3 h4 h4' h5 h6 ih =>
    exact .struct b a c bb oo vs names l hn h1 h2 (fun h => ⟨(h3 h).1, (hs bb (lt (h4' 0 h)) (h3 h).2).1⟩) (fun i hi => cell_block (hs bb (lt (h4 i hi)) (h3 (by omega)).2).2 (h4 i hi)) (fun i hi => cell_block (hs bb (lt (h4' i hi)) (h3 (by omega)).2).2 (h4' i hi)) ih h6
  | map b a c bb oo n vs l hn h1 h2 h3 h4 h4' h5 h6 ih =>
    exact .map b a c bb oo n vs l hn h1 h2 (fun h => ⟨(h3 h).1, (hs bb (lt (h4 0 h)) (h3 h).2).1⟩) (fun i hi => cell_block (hs bb (lt (h4 i hi)) (h3 (by omega)).2).2 (h4 i hi)) (fun i hi => cell_block (hs bb (lt (h4' i hi)) (h3 (by omega)).2).2 (h4' i hi)) ih h6
  | ptr0 b addr => exact .ptr0 b addr
  | ptr1 b addr v x hv h ih => exact .ptr1 b addr v x hv ih
theorem IsVF.mono {S S' : Nat → Prop} {w : World} (hs : ∀ k, k < w.heap.size → S k → S' k) {v : Value} {x : V} (h : IsVF S w v x) : IsVF S' w v x := h.keep fun k hk hk' => ⟨hs k hk hk', rfl⟩
theorem IsVF.later {S : Nat → Prop} {w w' : World} (hb : Below w.heap.size w w') {v : Value} {x : V} (h : IsVF S w v x) : IsVF S w' v x := h.keep fun k hk hk' => ⟨hk', hb.block k hk⟩
theorem IsVF.shape {S : Nat → Prop} {w : World} {v : Value} {x : V} (h : IsVF S w v x) : v = .nilIface ∨ ∃ t y, v = .iface t y := h.isV.shape

theorem lt_of_some {w : World} {g : Nat} {o : Obj} (h : w.heap[g]? = some o) : g < w.heap.size := (Array.getElem?_eq_some_iff.1 h).1

/-- Where what was appended lies: in the block as before, or in a new one. -/
def Last (v' v : Value) (n : Nat) : Prop := ∃ g, v'.ownBlock = some g ∧ (v.ownBlock = some g ∨ g = n)

section
variable {P : Program}
/-- One element more: in the same block, or in a new one. -/
theorem run_append_one (w : World) (base : Nat) (t ty e : TypeId) (i : TypeInfo) (z : Value) (size bytes : Nat) (ht : P.underlying t = some (.slice e)) (hi : P.info? e = some i) (hz : i.zero = some z)
    (hsize : i.size = size) (hby : i.bytes = bytes) (hzs : z.cells.size = size) (hsz : 0 < size)
    (v : Value) (n : Nat) (xs : List Value) (hown : w.ownsRow base e size v n xs)
    (a : Addr) (c : Nat) (news : List Value) (hl : news.length = 1 * size) (hnews : ∀ j u, news[j]? = some u → w.cell? (a.add j) = some u) (h1 : ∀ u ∈ news, u.oneCell' = true)
    (h63 : n + 1 ≤ maxLen) (hbytes : (n + 1) * bytes ≤ 140737488355328) (hbase : base ≤ w.heap.size) :
    ∃ v' w', (Builtin.append_ #[t, t] ty #[v, .slice (some a) 1 c]).run P w = .ok v' w' ∧ w'.ownsRow base e size v' (n + 1) (xs ++ news) ∧ w.grownBy w' v.ownBlock ∧
      ∃ g, v'.ownBlock = some g ∧ (v.ownBlock = some g ∨ g = w.heap.size) := by
  obtain ⟨v', w', hr, h2, h3, _⟩ := run_append_own w base t ty e i z size bytes ht hi hz hsize hby hzs hsz v n xs hown a 1 c news hl hnews h1 h63 hbytes hbase
  refine ⟨v', w', hr, h2, h3, ?_⟩
  subst hsize
  subst hby
  have h63' : ((n + 1 : Nat) : Int) ≤ 9223372036854775807 := by simp only [maxLen] at h63; omega
  rcases hown.2 with ⟨rfl, rfl⟩ | ⟨g, cap, cur, rfl, hbg, hg, hnc, hcm, hcs, htake⟩
  · have := run_append_nil (P := P) (w := w) t ty e i z ht hi hz a 1 c news hl hnews (by omega) (by simp) (by simp only [Nat.zero_add] at hbytes; omega)
    rw [hr] at this
    injection this with e1 e2
    subst e1
    exact ⟨_, rfl, .inr rfl⟩
  · by_cases hroom : n + 1 ≤ cap
    · have hfit : n * i.size + news.length ≤ cur.size := by rw [hl, hcs, ← Nat.add_mul]; exact Nat.mul_le_mul_right _ hroom
      have := run_append_room (P := P) w t ty e i ht hi g n cap cur hg a 1 c news hl hnews h1 hroom hfit
      rw [hr] at this
      injection this with e1 e2
      subst e1
      exact ⟨_, rfl, .inl rfl⟩
    · have holds : ∀ j u, xs[j]? = some u → w.cell? ((⟨g, 0, none⟩ : Addr).add j) = some u := hown.cells (g := g) rfl
      have := run_append_grow (P := P) (w := w) t ty e i z ht hi hz ⟨g, 0, none⟩ n cap xs hown.1 holds a 1 c news hl hnews (by omega) h63' (growslice_fits (by omega) hbytes)
      rw [hr] at this
      injection this with e1 e2
      subst e1
      exact ⟨_, rfl, .inr rfl⟩

theorem wpList_append_one (w : World) {ops : Array Oper} {rest : List Oper} {o : Oper} {a : Act} {Q : Exit → Act → World → Prop} (hgd : o.guard = none) (s x : Operand) (t : TypeId)
    (ho : o.op = .call { callee := .builtin .append, args := #[s, x], argTypes := #[t, t] })
    (base : Nat) (e : TypeId) (i : TypeInfo) (z : Value) (size bytes : Nat) (ht : P.underlying t = some (.slice e)) (hi : P.info? e = some i) (hz : i.zero = some z)
    (hsize : i.size = size) (hby : i.bytes = bytes) (hzs : z.cells.size = size) (hsz : 0 < size)
    (v : Value) (n : Nat) (xs : List Value) (hs : a.eval s = v) (hown : w.ownsRow base e size v n xs)
    (ad : Addr) (c : Nat) (news : List Value) (hx : a.eval x = .slice (some ad) 1 c) (hl : news.length = 1 * size) (hnews : ∀ j u, news[j]? = some u → w.cell? (ad.add j) = some u) (h1 : ∀ u ∈ news, u.oneCell' = true)
    (h63 : n + 1 ≤ maxLen) (hbytes : (n + 1) * bytes ≤ 140737488355328) (hbase : base ≤ w.heap.size)
    (h : ∀ v' w', w'.ownsRow base e size v' (n + 1) (xs ++ news) → w.grownBy w' v.ownBlock → Last v' v w.heap.size → wpList P ops Q rest (a.put o.dst v') w') : wpList P ops Q (o :: rest) a w := by
  obtain ⟨v', w', hr, h2, h3, h4⟩ := run_append_one (P := P) w base t o.type e i z size bytes ht hi hz hsize hby hzs hsz v n xs hown ad c news hl hnews h1 h63 hbytes hbase
  refine wpList_plain hgd fun _ hK => ?_
  unfold Oper.wp execOp
  simp only [ho, resolve, invoke, builtin, Sem.run_bind, Sem.run_pure, Result.andThen_ok, List.map_toArray, List.map_cons, List.map_nil, hs, hx, hr]
  exact hK _ _ (h v' w' h2 h3 h4)
end

/-- Below, by what an append leaves. -/
theorem below_grown {W0 w w' : World} {v : Value} {base : Nat} {e : TypeId} {size n : Nat} {xs : List Value} (h : Below base W0 w) (hg : w.grownBy w' v.ownBlock) (ho : w.ownsRow base e size v n xs) (hB : base ≤ w.heap.size) : Below base W0 w' :=
  h.grown hg hB fun k hk => (ho.lt k hk).1
end Go.Proofs.Ythpgnhmikffcpaa
