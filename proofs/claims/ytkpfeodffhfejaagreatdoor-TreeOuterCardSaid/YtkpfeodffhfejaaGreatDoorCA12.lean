/- The names that were seen, in a map of the call's own; fields in a row of the call's own. No condition. -/
import Derived.Test.YtkpfeodffhfejaaGreatDoorCA11
import Derived.Maps.OwnOps
import Derived.Deep.AppendLies
import Derived.Deep.RegionLaw
namespace Go.Proofs.YtkpfeodffhfejaaGreatDoor
set_option linter.unusedVariables false
set_option maxRecDepth 1000000
open Go.RowKit Go.Maps

def kstr (n : ByteArray) : Lit := .string n.data.toList
def one : DataW Unit := .lit (.int .i64 1)
def zro : DataW Unit := .lit (.int .i64 0)
/-- The names that were seen. -/
def Seen (l : List ByteArray) : DataW Unit := l.foldl (fun D n => D.put (kstr n) one) (.map [])
theorem Seen_snoc (l : List ByteArray) (n : ByteArray) : Seen (l ++ [n]) = (Seen l).put (kstr n) one := by unfold Seen; rw [List.foldl_append]; rfl
theorem Seen_map (l : List ByteArray) : IsMap (Seen l) := by
  have : ∀ (l : List ByteArray) (D : DataW Unit), IsMap D → IsMap (l.foldl (fun D n => D.put (kstr n) one) D) := by
    intro l
    induction l with
    | nil => intro D h; exact h
    | cons n l ih => intro D h; exact ih _ (h.put _ _)
  exact this l _ isMap_empty
theorem kstr_inj {a b : ByteArray} (h : kstr a = kstr b) : a = b := by
  unfold kstr at h
  injection h with h
  cases a with | mk a => cases b with | mk b =>
  simp only at h
  cases a; cases b; simp_all
theorem Seen_at : ∀ (k : Nat) (l : List ByteArray) (n : ByteArray), l.length = k → (n ∈ l → (Seen l).atKey (kstr n) zro = one) ∧ (n ∉ l → (Seen l).atKey (kstr n) zro = zro) := by
  intro k
  induction k with
  | zero => intro l n h; rw [List.eq_nil_of_length_eq_zero h]; exact ⟨(fun h => absurd h (by simp)), fun _ => rfl⟩
  | succ k ih =>
    intro l n h
    have hl : l ≠ [] := by intro e; rw [e] at h; cases h
    have ha := List.dropLast_concat_getLast hl
    generalize hx : l.getLast hl = x at ha
    generalize hy : l.dropLast = y at ha
    rw [← ha, Seen_snoc]
    have ⟨i1, i2⟩ := ih y n (by rw [← hy]; simp; omega)
    by_cases e : n = x
    · rw [e, atKey_put_same (Seen_map _) (show WideAt.IsKeyLit (kstr x) from trivial)]
      exact ⟨fun _ => rfl, fun h => absurd (by simp) h⟩
    · rw [atKey_put_other (fun h => e (kstr_inj h))]
      exact ⟨fun h => i1 (by simpa [e] using h), fun h => i2 (by simp [e] at h; exact h)⟩
theorem Seen_0 {l : List ByteArray} {n : ByteArray} {c : Int} (h : (Seen l).atKey (kstr n) (.lit (.int .i64 0)) = .lit (.int .i64 c)) (hn : n ∉ l) : c = 0 := by
  have := (Seen_at _ l n rfl).2 hn
  unfold zro at this
  rw [this] at h
  injection h with h
  injection h with _ h
  exact h.symm
theorem Seen_1 {l : List ByteArray} {n : ByteArray} {c : Int} (h : (Seen l).atKey (kstr n) (.lit (.int .i64 0)) = .lit (.int .i64 c)) (hn : n ∈ l) : c = 1 := by
  have := (Seen_at _ l n rfl).1 hn
  unfold zro at this
  rw [this] at h
  unfold one at h
  injection h with h
  injection h with _ h
  exact h.symm

/-- Names and values by turns. -/
def rowS : List ByteArray → List Value → List Value
  | n :: ns, u :: us => .string n :: u :: rowS ns us
  | _, _ => []
theorem rowS_snoc : ∀ (ns : List ByteArray) (us : List Value) (n : ByteArray) (u : Value), ns.length = us.length → rowS (ns ++ [n]) (us ++ [u]) = rowS ns us ++ [.string n, u]
  | [], [], n, u, _ => rfl
  | a :: ns, b :: us, n, u, h => by
    simp only [List.cons_append, rowS]
    rw [rowS_snoc ns us n u (by simpa using h)]
  | [], _ :: _, _, _, h => by simp at h
  | _ :: _, [], _, _, h => by simp at h
theorem rowS_get : ∀ (ns : List ByteArray) (us : List Value), ns.length = us.length → ∀ i (h : i < ns.length) (h' : i < us.length), (rowS ns us)[i * 2]? = some (.string ns[i]) ∧ (rowS ns us)[i * 2 + 1]? = some us[i]
  | a :: ns, b :: us, hl, 0, _, _ => ⟨rfl, rfl⟩
  | a :: ns, b :: us, hl, i + 1, h, h' => by
    have := rowS_get ns us (by simpa using hl) i (by simpa using h) (by simpa using h')
    have e : (i + 1) * 2 = i * 2 + 2 := by omega
    rw [e]
    exact this

/-- What holds of the fields' row, of the box of the struct, of the names that were seen. -/
structure SInv (w0 : World) (d : D) (names : List ByteArray) (us : List Value) (i : Nat) (v : Value) (w : World) : Prop where
  s0 : w.cell? ⟨w0.heap.size, 0, none⟩ = some (.int .i64 d.kind)
  s1 : w.cell? ⟨w0.heap.size, 1, none⟩ = some (.string d.type)
  s2 : w.cell? ⟨w0.heap.size, 2, none⟩ = some (.int .i64 d.hook)
  s3 : w.cell? ⟨w0.heap.size, 3, none⟩ = some v
  f3 : w.frozen? ⟨w0.heap.size, 3, none⟩ = false
  map : w.ownsMap Tryz.prog 9 (plainElem Tryz.prog 3) (w0.heap.size + 1) i (Seen (names.take i))
  row : w.ownsRow (w0.heap.size + 2) 117 2 v i (rowS (names.take i) (us.take i))
  lo : Below w0.heap.size w0 w
  nd : (names.take i).Nodup
theorem SInv.start (w0 : World) (d : D) (names : List ByteArray) (us : List Value) : SInv w0 d names us 0 (.slice none 0 0) ((w0.alloc (.cells #[.int .i64 d.kind, .string d.type, .int .i64 d.hook, .slice none 0 0] 99)).alloc (.map #[] 0)) where
  s0 := by simp
  s1 := by simp
  s2 := by simp
  s3 := by simp
  f3 := by simp
  map := by
    have := World.ownsMap_made (H := Unit) (w0.alloc (.cells #[.int .i64 d.kind, .string d.type, .int .i64 d.hook, .slice none 0 0] 99)) Tryz.prog 9 (plainElem Tryz.prog 3)
    have e : (w0.alloc (.cells #[.int .i64 d.kind, .string d.type, .int .i64 d.hook, .slice none 0 0] 99)).heap.size = w0.heap.size + 1 := by simp
    rw [e] at this
    exact this
  row := ⟨rfl, .inl ⟨rfl, rfl⟩⟩
  lo := (Below.new _).push _
  nd := by simp

/-- Behind the store of a name in the map. -/
theorem SInv.named {w0 w w' : World} {d : D} {names : List ByteArray} {us : List Value} {i : Nat} {v : Value} (h : SInv w0 d names us i v w) (hg : w.grownBy w' (some (w0.heap.size + 1))) :
    w'.cell? ⟨w0.heap.size, 3, none⟩ = some v ∧ w'.frozen? ⟨w0.heap.size, 3, none⟩ = false ∧ w'.ownsRow (w0.heap.size + 2) 117 2 v i (rowS (names.take i) (us.take i)) ∧ Below w0.heap.size w0 w' ∧
      w'.cell? ⟨w0.heap.size, 0, none⟩ = some (.int .i64 d.kind) ∧ w'.cell? ⟨w0.heap.size, 1, none⟩ = some (.string d.type) ∧ w'.cell? ⟨w0.heap.size, 2, none⟩ = some (.int .i64 d.hook) := by
  have hlt := World.block_lt_of_cell? w _ h.s3
  have hb : w'.heap[w0.heap.size]? = w.heap[w0.heap.size]? := hg.block _ hlt (by intro e; injection e with e; omega)
  refine ⟨cell_block hb h.s3, by rw [World.frozen?_of_block (a := ⟨w0.heap.size, 3, none⟩) hb]; exact h.f3, h.row.kept hg ?_, h.lo.grown hg (by exact h.lo.size) (fun k hk => by cases hk; omega), cell_block hb h.s0, cell_block hb h.s1, cell_block hb h.s2⟩
  right
  intro e
  have := h.row.lt _ e
  omega
theorem ownsMap_block {w w' : World} {b n : Nat} {D : DataW Unit} (h : w.ownsMap Tryz.prog 9 (plainElem Tryz.prog 3) b n D) (hb : w'.heap[b]? = w.heap[b]?) : w'.ownsMap Tryz.prog 9 (plainElem Tryz.prog 3) b n D := by
  obtain ⟨es, clock, h1, h2⟩ := h
  exact ⟨es, clock, hb.trans h1, h2⟩
theorem owns_blockV {w w' : World} {base : Nat} {e : TypeId} {size : Nat} {v : Value} {n : Nat} {xs : List Value} (h : w.ownsRow base e size v n xs) (hb : ∀ g, v.ownBlock = some g → w'.heap[g]? = w.heap[g]?) : w'.ownsRow base e size v n xs := by
  obtain ⟨h1, h2 | ⟨g, cap, cur, e1, e2, e3, e4, e5, e6, e7⟩⟩ := h
  · exact ⟨h1, .inl h2⟩
  · exact ⟨h1, .inr ⟨g, cap, cur, e1, e2, (hb g (by rw [e1]; rfl)).trans e3, e4, e5, e6, e7⟩⟩
theorem frozen_block {w w' : World} {b o : Nat} (hb : w'.heap[b]? = w.heap[b]?) : w'.frozen? ⟨b, o, none⟩ = w.frozen? ⟨b, o, none⟩ := World.frozen?_of_block (a := ⟨b, o, none⟩) hb

/-- One field more. -/
theorem SInv.next {w0 w w5 W5 w6 : World} {d : D} {names : List ByteArray} {us : List Value} {i : Nat} {v : Value} (h : SInv w0 d names us i v w) (hi : i < names.length) (hi' : i < us.length) {nm : ByteArray} {u : Value}
    (hnm : nm = names[i]) (hu : us[i] = u) (hnew : nm ∉ names.take i)
    (hm : w5.ownsMap Tryz.prog 9 (plainElem Tryz.prog 3) (w0.heap.size + 1) (i + 1) ((Seen (names.take i)).put (.string nm.data.toList) (.lit (.int .i64 1)))) (hg5 : w.grownBy w5 (some (w0.heap.size + 1)))
    (hb5 : Below w5.heap.size w5 W5) {g cap : Nat} (hr : w6.ownsRow (w0.heap.size + 2) 117 2 (.slice (some ⟨g, 0, none⟩) (i + 1) cap) (i + 1) (rowS (names.take i) (us.take i) ++ [.string nm, u])) (hg6 : W5.grownBy w6 v.ownBlock) :
    SInv w0 d names us (i + 1) (.slice (some ⟨g, 0, none⟩) (i + 1) cap) (w6.setCell ⟨w0.heap.size, 3, none⟩ (.slice (some ⟨g, 0, none⟩) (i + 1) cap)) := by
  obtain ⟨q3, qf, qr, ql, q0, q1, q2⟩ := h.named hg5
  have hS : w0.heap.size < w5.heap.size := World.block_lt_of_cell? w5 _ q3
  have hM : w0.heap.size + 1 < w5.heap.size := hm.lt
  have hz : w5.heap.size ≤ W5.heap.size := hb5.size
  have nb : ∀ k, k < w0.heap.size + 2 → v.ownBlock ≠ some k := fun k hk e => by have := qr.lt _ e; omega
  have bS : w6.heap[w0.heap.size]? = w5.heap[w0.heap.size]? := by
    rw [hg6.block _ (by omega) (fun e => nb _ (by omega) e.symm), hb5.block _ hS]
  have bM : w6.heap[w0.heap.size + 1]? = w5.heap[w0.heap.size + 1]? := by
    rw [hg6.block _ (by omega) (fun e => nb _ (by omega) e.symm), hb5.block _ hM]
  have hg : w0.heap.size + 2 ≤ g := (hr.lt g rfl).1
  have hz6 : W5.heap.size ≤ w6.heap.size := hg6.size
  have c3 : (w6.cell? ⟨w0.heap.size, 3, none⟩).isSome = true := by rw [cell_block bS q3]; rfl
  constructor
  · rw [World.cell?_setCell_other _ _ _ _ (by intro e; injection e with _ e; cases e)]; exact cell_block bS q0
  · rw [World.cell?_setCell_other _ _ _ _ (by intro e; injection e with _ e; cases e)]; exact cell_block bS q1
  · rw [World.cell?_setCell_other _ _ _ _ (by intro e; injection e with _ e; cases e)]; exact cell_block bS q2
  · exact World.cell?_setCell_same' w6 _ _ c3
  · have : w6.frozen? ⟨w0.heap.size, 3, none⟩ = false := by rw [frozen_block bS]; exact qf
    simpa using this
  · rw [List.take_succ_eq_append_getElem hi, ← hnm, Seen_snoc]
    exact ownsMap_block hm (by rw [Below.heap_setCell _ _ _ _ (by show w0.heap.size + 1 ≠ w0.heap.size; omega)]; exact bM)
  · rw [List.take_succ_eq_append_getElem hi, List.take_succ_eq_append_getElem hi', ← hnm, hu, rowS_snoc _ _ _ _ (by simp; omega)]
    exact owns_blockV hr (fun k hk => Below.heap_setCell _ _ _ _ (by show k ≠ w0.heap.size; have := (hr.lt k hk).1; omega))
  · refine Below.setCell (p := ⟨w0.heap.size, 3, none⟩) ?_ (Nat.le_refl _) _
    have l1 : Below w0.heap.size w0 W5 := ql.trans (hb5.mono (by omega))
    exact l1.grown hg6 (by omega) (fun k hk => by have := qr.lt k hk; omega)
  · rw [List.take_succ_eq_append_getElem hi, ← hnm]
    rw [List.nodup_append]
    exact ⟨h.nd, by simp, fun a ha b hb e => hnew (by simp at hb; rw [← hb, ← e]; exact ha)⟩

/-- All fields. -/
theorem SInv.done {W1 w0 w : World} {d : D} {names : List ByteArray} {us : List Value} {xs : List V} {n : Nat} {v v0 : Value} (h : SInv w0 d names us n v w) (hv : Vals W1 v0 us xs w0) (hn : n = names.length) (hn' : n = us.length) (hl : n < 1000) :
    ∃ a c, v = .slice a n c ∧ IsVF (W1.heap.size ≤ ·) w (.iface 99 (.agg #[.int .i64 d.kind, .string d.type, .int .i64 d.hook, .slice a n c])) (.great .struct d.base 0 names xs) ∧ names.Nodup := by
  have hln := hv.len
  have hnd : names.Nodup := by have := h.nd; rw [hn, List.take_length] at this; exact this
  have hxn : n = xs.length := by omega
  have hvs : ∀ i (hi : i < xs.length), IsVF (W1.heap.size ≤ ·) w (us.getD i undef) xs[i] := by
    intro i hi
    rw [getD_at (by omega)]
    exact (hv.val i (by omega) hi).keep fun k hk hk' => ⟨hk'.1, h.lo.block k hk⟩
  by_cases h0 : 0 < n
  · obtain ⟨g, cap, e1, e2, e3, e4, e5, e6⟩ := owns_cell h.row h0
    subst e1
    refine ⟨_, _, rfl, ?_, hnd⟩
    have ht1 : names.take n = names := by rw [hn]; exact List.take_length
    have ht2 : us.take n = us := by rw [hn']; exact List.take_length
    rw [ht1, ht2] at e6
    rw [hxn]
    refine .struct d.base _ cap g 0 (fun i => us.getD i undef) names xs (by omega) (by omega) (by omega) (fun _ => ⟨rfl, by have := hv.lo.size; omega⟩) (fun i hi => ?_) (fun i hi => ?_) hvs (fun i hi => by rw [getD_at (by omega)]; exact hv.iface _ (List.getElem_mem _))
    · rw [Nat.zero_add]
      exact e6 _ _ (rowS_get names us (by omega) i hi (by omega)).1
    · rw [Nat.zero_add, getD_at (by omega)]
      exact e6 _ _ (rowS_get names us (by omega) i (by omega) (by omega)).2
  · have hz : n = 0 := by omega
    have hx0 : xs = [] := List.eq_nil_of_length_eq_zero (by omega)
    have hn0 : names = [] := List.eq_nil_of_length_eq_zero (by omega)
    rcases h.row.2 with ⟨e, _⟩ | ⟨g, cap, cur, e, _⟩
    · refine ⟨none, 0, by rw [e, hz], ?_, hnd⟩
      subst hx0 hn0
      rw [hz]
      exact .struct d.base none 0 0 0 (fun _ => undef) [] [] rfl (Nat.le_refl _) (by simp) (fun h => by simp at h) (fun i h => by simp at h) (fun i h => by simp at h) (fun i h => by simp at h) (fun i h => by simp at h)
    · refine ⟨_, _, e, ?_, hnd⟩
      subst hx0 hn0
      rw [hz]
      exact .struct d.base _ cap 0 0 (fun _ => undef) [] [] rfl (Nat.zero_le _) (by simp) (fun h => by simp at h) (fun i h => by simp at h) (fun i h => by simp at h) (fun i h => by simp at h) (fun i h => by simp at h)
theorem not_nodup {l : List ByteArray} {i : Nat} (h : i < l.length) (hm : l[i] ∈ l.take i) : ¬ l.Nodup := by
  intro hn
  obtain ⟨j, hj, e⟩ := List.getElem_of_mem hm
  rw [List.getElem_take] at e
  simp at hj
  have := (List.nodup_iff_pairwise_ne.1 hn)
  rw [List.pairwise_iff_getElem] at this
  exact this j i (by omega) h (by omega) e
end Go.Proofs.YtkpfeodffhfejaaGreatDoor
