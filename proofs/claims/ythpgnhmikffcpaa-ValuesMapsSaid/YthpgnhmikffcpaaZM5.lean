/- The names that were seen, in a map of the call's own; fields in a row of the call's own. No condition. -/
import Derived.Test.YthpgnhmikffcpaaZM4
import Derived.Maps.OwnOps
import Derived.Deep.AppendLies
import Derived.Deep.RegionLaw
namespace Go.Proofs.Ythpgnhmikffcpaa
set_option linter.unusedVariables false
open Go.RowKit Go.Maps

def kstr (n : ByteArray) : Lit := .string n.data.toList
def one : DataW Unit := .lit (.int .i64 1)
def zro : DataW Unit := .lit (.int .i64 0)
/-- The names that were seen. -/
def Seen (l : List ByteArray) : DataW Unit := l.foldl (fun D n => D.put (kstr n) one) (.map [])
theorem Seen_snoc (l : List ByteArray) (n : ByteArray) : Seen (l ++ [n]) = (Seen l).put (kstr n) one := by unfold Seen; rw [List.foldl_append]; rfl
theorem Seen_map (l : List ByteArray) : IsMap (Seen l) := by
  have : ∀ (l : List ByteArray) (D : DataW Unit), IsMap D → IsMap (l.foldl (fun D n => D.put (kstr n) one) D) := by
    intro l
    induction l with
    | nil => intro D h; exact h
    | cons n l ih => intro D h; exact ih _ (h.put _ _)
  exact this l _ isMap_empty
theorem kstr_inj {a b : ByteArray} (h : kstr a = kstr b) : a = b := by
  unfold kstr at h
  injection h with h
  cases a with | mk a => cases b with | mk b =>
  simp only at h
  cases a; cases b; simp_all
theorem Seen_at : ∀ (k : Nat) (l : List ByteArray) (n : ByteArray), l.length = k → (n ∈ l → (Seen l).atKey (kstr n) zro = one) ∧ (n ∉ l → (Seen l).atKey (kstr n) zro = zro) := by
  intro k
  induction k with
  | zero => intro l n h; rw [List.eq_nil_of_length_eq_zero h]; exact ⟨(fun h => absurd h (by simp)), fun _ => rfl⟩
  | succ k ih =>
    intro l n h
    have hl : l ≠ [] := by intro e; rw [e] at h; cases h
    have ha := List.dropLast_concat_getLast hl
    generalize hx : l.getLast hl = x at ha
    generalize hy : l.dropLast = y at ha
    rw [← ha, Seen_snoc]
    have ⟨i1, i2⟩ := ih y n (by rw [← hy]; simp; omega)
    by_cases e : n = x
    · rw [e, atKey_put_same (Seen_map _) (show WideAt.IsKeyLit (kstr x) from trivial)]
      exact ⟨fun _ => rfl, fun h => absurd (by simp) h⟩
    · rw [atKey_put_other (fun h => e (kstr_inj h))]
      exact ⟨fun h => i1 (by simpa [e] using h), fun h => i2 (by simp [e] at h; exact h)⟩
theorem Seen_0 {l : List ByteArray} {n : ByteArray} {c : Int} (h : (Seen l).atKey (kstr n) (.lit (.int .i64 0)) = .lit (.int .i64 c)) (hn : n ∉ l) : c = 0 := by
  have := (Seen_at _ l n rfl).2 hn
  unfold zro at this
  rw [this] at h
  injection h with h
  injection h with _ h
  exact h.symm
theorem Seen_1 {l : List ByteArray} {n : ByteArray} {c : Int} (h : (Seen l).atKey (kstr n) (.lit (.int .i64 0)) = .lit (.int .i64 c)) (hn : n ∈ l) : c = 1 := by
  have := (Seen_at _ l n rfl).1 hn
  unfold zro at this
  rw [this] at h
  unfold one at h
  injection h with h
  injection h with _ h
  exact h.symm

/-- Names and values by turns. -/
def rowS : List ByteArray → List Value → List Value
  | n :: ns, u :: us => .string n :: u :: rowS ns us
  | _, _ => []
theorem rowS_snoc : ∀ (ns : List ByteArray) (us : List Value) (n : ByteArray) (u : Value), ns.length = us.length → rowS (ns ++ [n]) (us ++ [u]) = rowS ns us ++ [.string n, u]
  | [], [], n, u, _ => rfl
  | a :: ns, b :: us, n, u, h => by
    simp only [List.cons_append, rowS]
    rw [rowS_snoc ns us n u (by simpa using h)]
  | [], _ :: _, _, _, h => by simp at h
  | _ :: _, [], _, _, h => by simp at h
theorem rowS_get : ∀ (ns : List ByteArray) (us : List Value), ns.length = us.length → ∀ i (h : i < ns.length) (h' : i < us.length), (rowS ns us)[i * 2]? = some (.string ns[i]) ∧ (rowS ns us)[i * 2 + 1]? = some us[i]
  | a :: ns, b :: us, hl, 0, _, _ => ⟨rfl, rfl⟩
  | a :: ns, b :: us, hl, i + 1, h, h' => by
    have := rowS_get ns us (by simpa using hl) i (by simpa using h) (by simpa using h')
    have e : (i + 1) * 2 = i * 2 + 2 := by omega
    rw [e]
    exact this

/-- What holds of the fields' row, of the box of the struct, of the names that were seen. -/
structure SInv (w0 : World) (d : D) (names : List ByteArray) (us : List Value) (i : Nat) (v : Value) (w : World) : Prop where
  s0 : w.cell? ⟨w0.heap.size, 0, none⟩ = some (.int .i64 d.kind)
  s1 : w.cell? ⟨w0.heap.size, 1, none⟩ = some (.string d.type)
  s2 : w.cell? ⟨w0.heap.size, 2, none⟩ = some (.int .i64 d.hook)
  s3 : w.cell? ⟨w0.heap.size, 3, none⟩ = some v
  f3 : w.frozen? ⟨w0.heap.size, 3, none⟩ = false
  map : w.ownsMap Try.prog 9 (plainElem Try.prog 3) (w0.heap.size + 1) i (Seen (names.take i))
  row : w.ownsRow (w0.heap.size + 2) 106 2 v i (rowS (names.take i) (us.take i))
  lo : Below w0.heap.size w0 w
  nd : (names.take i).Nodup
theorem SInv.start (w0 : World) (d : D) (names : List ByteArray) (us : List Value) : SInv w0 d names us 0 (.slice none 0 0) ((w0.alloc (.cells #[.int .i64 d.kind, .string d.type, .int .i64 d.hook, .slice none 0 0] 104)).alloc (.map #[] 0)) where
  s0 := by simp
  s1 := by simp
  s2 := by simp
  s3 := by simp
  f3 := by simp
  map := by
    have := World.ownsMap_made (H := Unit) (w0.alloc (.cells #[.int .i64 d.kind, .string d.type, .int .i64 d.hook, .slice none 0 0] 104)) Try.prog 9 (plainElem Try.prog 3)
    have e : (w0.alloc (.cells #[.int .i64 d.kind, .string d.type, .int .i64 d.hook, .slice none 0 0] 104)).heap.size = w0.heap.size + 1 := by simp
    rw [e] at this
    exact this
  row := ⟨rfl, .inl ⟨rfl, rfl⟩⟩
  lo := (Below.new _).push _
  nd := by simp

/-- Behind the store of a name in the map. -/
theorem SInv.named {w0 w w' : World} {d : D} {names : List ByteArray} {us : List Value} {i : Nat} {v : Value} (h : SInv w0 d names us i v w) (hg : w.grownBy w' (some (w0.heap.size + 1))) :
    w'.cell? ⟨w0.heap.size, 3, none⟩ = some v ∧ w'.frozen? ⟨w0.heap.size, 3, none⟩ = false ∧ w'.ownsRow (w0.heap.size + 2) 106 2 v i (rowS (names.take i) (us.take i)) ∧ Below w0.heap.size w0 w' ∧
      w'.cell? ⟨w0.heap.size, 0, none⟩ = some (.int .i64 d.kind) ∧ w'.cell? ⟨w0.heap.size, 1, none⟩ = some (.string d.type) ∧ w'.cell? ⟨w0.heap.size, 2, none⟩ = some (.int .i64 d.hook) := by
  have hlt := World.block_lt_of_cell? w _ h.s3
  have hb : w'.heap[w0.heap.size]? = w.heap[w0.heap.size]? := hg.block _ hlt (by intro e; injection e with e; omega)
  refine ⟨cell_block hb h.s3, by rw [World.frozen?_of_block (a := ⟨w0.heap.size, 3, none⟩) hb]; exact h.f3, h.row.kept hg ?_, h.lo.grown hg (by exact h.lo.size) (fun k hk => by cases hk; omega), cell_block hb h.s0, cell_block hb h.s1, cell_block hb h.s2⟩
  right
  intro e
  have := h.row.lt _ e
  omega
theorem ownsMap_block {w w' : World} {b n : Nat} {D : DataW Unit} (h : w.ownsMap Try.prog 9 (plainElem Try.prog 3) b n D) (hb : w'.heap[b]? = w.heap[b]?) : w'.ownsMap Try.prog 9 (plainElem Try.prog 3) b n D := by
  obtain ⟨es, clock, h1, h2⟩ := h
  exact ⟨es, clock, hb.trans h1, h2⟩
theorem owns_block {w w' : World} {base : Nat} {e : TypeId} {size : Nat} {v : Value} {n : Nat} {xs : List Value} (h : w.ownsRow base e size v n xs) (hb : ∀ g, v.ownBlock = some g → w'.heap[g]? = w.heap[g]?) : w'.ownsRow base e size v n xs := by
  obtain ⟨h1, h2 | ⟨g, cap, cur, e1, e2, e3, e4, e5, e6, e7⟩⟩ := h
  · exact ⟨h1, .inl h2⟩
  · exact ⟨h1, .inr ⟨g, cap, cur, e1, e2, (hb g (by rw [e1]; rfl)).trans e3, e4, e5, e6, e7⟩⟩
theorem frozen_block {w w' : World} {b o : Nat} (hb : w'.heap[b]? = w.heap[b]?) : w'.frozen? ⟨b, o, none⟩ = w.frozen? ⟨b, o, none⟩ := World.frozen?_of_block (a := ⟨b, o, none⟩) hb

/-- One field more. -/
theorem SInv.next {w0 w w5 W5 w6 : World} {d : D} {names : List ByteArray} {us : List Value} {i : Nat} {v : Value} (h : SInv w0 d names us i v w) (hi : i < names.length) (hi' : i < us.length) {nm : ByteArray} {u : Value}
    (hnm : nm = names[i]) (hu : us[i] = u) (hnew : nm ∉ names.take i)
    (hm : w5.ownsMap Try.prog 9 (plainElem Try.prog 3) (w0.heap.size + 1) (i + 1) ((Seen (names.take i)).put (.string nm.data.toList) (.lit (.int .i64 1)))) (hg5 : w.grownBy w5 (some (w0.heap.size + 1)))
    (hb5 : Below w5.heap.size w5 W5) {g cap : Nat} (hr : w6.ownsRow (w0.heap.size + 2) 106 2 (.slice (some ⟨g, 0, none⟩) (i + 1) cap) (i + 1) (rowS (names.take i) (us.take i) ++ [.string nm, u])) (hg6 : W5.grownBy w6 v.ownBlock) :
    SInv w0 d names us (i + 1) (.slice (some ⟨g, 0, none⟩) (i + 1) cap) (w6.setCell ⟨w0.heap.size, 3, none⟩ (.slice (some ⟨g, 0, none⟩) (i + 1) cap)) := by
  obtain ⟨q3, qf, qr, ql, q0, q1, q2⟩ := h.named hg5
  have hS : w0.heap.size < w5.heap.size := World.block_lt_of_cell? w5 _ q3
  have hM : w0.heap.size + 1 < w5.heap.size := hm.lt
  have hz : w5.heap.size ≤ W5.heap.size := hb5.size
  have nb : ∀ k, k < w0.heap.size + 2 → v.ownBlock ≠ some k := fun k hk e => by have := qr.lt _ e; omega
  have bS : w6.heap[w0.heap.size]? = w5.heap[w0.heap.size]? := by
    rw [hg6.block _ (by omega) (fun e => nb _ (by omega) e.symm), hb5.block _ hS]
  have bM : w6.heap[w0.heap.size + 1]? = w5.heap[w0.heap.size + 1]? := by
    rw [hg6.block _ (by omega) (fun e => nb _ (by omega) e.symm), hb5.block _ hM]
  have hg : w0.heap.size + 2 ≤ g := (hr.lt g rfl).1
  have hz6 : W5.heap.size ≤ w6.heap.size := hg6.size
  have c3 : (w6.cell? ⟨w0.heap.size, 3, none⟩).isSome = true := by rw [cell_block bS q3]; rfl
  constructor
  · rw [World.cell?_setCell_other _ _ _ _ (by intro e; injection e with _ e; cases e)]; exact cell_block bS q0
  · rw [World.cell?_setCell_other _ _ _ _ (by intro e; injection e with _ e; cases e)]; exact cell_block bS q1
  · rw [World.cell?_setCell_other _ _ _ _ (by intro e; injection e with _ e; cases e)]; exact cell_block bS q2
  · exact World.cell?_setCell_same' w6 _ _ c3
  · have : w6.frozen? ⟨w0.heap.size, 3, none⟩ = false := by rw [frozen_block bS]; exact qf
    simpa using this
  · rw [List.take_succ_eq_append_getElem hi, ← hnm, Seen_snoc]
    exact ownsMap_block hm (by rw [Below.heap_setCell _ _ _ _ (by show w0.heap.size + 1 ≠ w0.heap.size; omega)]; exact bM)
  · rw [List.take_succ_eq_append_getElem hi, List.take_succ_eq_append_getElem hi', ← hnm, hu, rowS_snoc _ _ _ _ (by simp; omega)]
    exact owns_block hr (fun k hk => Below.heap_setCell _ _ _ _ (by show k ≠ w0.heap.size; have := (hr.lt k hk).1; omega))
  · refine Below.setCell (p := ⟨w0.heap.size, 3, none⟩) ?_ (Nat.le_refl _) _
    have l1 : Below w0.heap.size w0 W5 := ql.trans (hb5.mono (by omega))
    exact l1.grown hg6 (by omega) (fun k hk => by have := qr.lt k hk; omega)
  · rw [List.take_succ_eq_append_getElem hi, ← hnm]
    rw [List.nodup_append]
    exact ⟨h.nd, by simp, fun a ha b hb e => hnew (by simp at hb; rw [← hb, ← e]; exact ha)⟩

/-- All fields. -/
theorem SInv.done {W1 w0 w : World} {d : D} {names : List ByteArray} {us : List Value} {xs : List V} {n : Nat} {v v0 : Value} (h : SInv w0 d names us n v w) (hv : Vals W1 v0 us xs w0) (hn : n = names.length) (hn' : n = us.length) (hl : n < 1000) :
    ∃ a c, v = .slice a n c ∧ IsVF (W1.heap.size ≤ ·) w (.iface 104 (.agg #[.int .i64 d.kind, .string d.type, .int .i64 d.hook, .slice a n c])) (.great .struct d.base 0 names xs) ∧ names.Nodup := by
  have hln := hv.len
  have hnd : names.Nodup := by have := h.nd; rw [hn, List.take_length] at this; exact this
  have hxn : n = xs.length := by omega
  have hvs : ∀ i (hi : i < xs.length), IsVF (W1.heap.size ≤ ·) w (us.getD i undef) xs[i] := by
    intro i hi
    rw [getD_at (by omega)]
    exact (hv.val i (by omega) hi).keep fun k hk hk' => ⟨hk'.1, h.lo.block k hk⟩
  by_cases h0 : 0 < n
  · obtain ⟨g, cap, e1, e2, e3, e4, e5, e6⟩ := owns_cell h.row h0
    subst e1
    refine ⟨_, _, rfl, ?_, hnd⟩
    have ht1 : names.take n = names := by rw [hn]; exact List.take_length
    have ht2 : us.take n = us := by rw [hn']; exact List.take_length
    rw [ht1, ht2] at e6
    rw [hxn]
    refine .struct d.base _ cap g 0 (fun i => us.getD i undef) names xs (by omega) (by omega) (by omega) (fun _ => ⟨rfl, by have := hv.lo.size; omega⟩) (fun i hi => ?_) (fun i hi => ?_) hvs (fun i hi => by rw [getD_at (by omega)]; exact hv.iface _ (List.getElem_mem _))
    · rw [Nat.zero_add]
      exact e6 _ _ (rowS_get names us (by omega) i hi (by omega)).1
    · rw [Nat.zero_add, getD_at (by omega)]
      exact e6 _ _ (rowS_get names us (by omega) i (by omega) (by omega)).2
  · have hz : n = 0 := by omega
    have hx0 : xs = [] := List.eq_nil_of_length_eq_zero (by omega)
    have hn0 : names = [] := List.eq_nil_of_length_eq_zero (by omega)
    rcases h.row.2 with ⟨e, _⟩ | ⟨g, cap, cur, e, _⟩
    · refine ⟨none, 0, by rw [e, hz], ?_, hnd⟩
      subst hx0 hn0
      rw [hz]
      exact .struct d.base none 0 0 0 (fun _ => undef) [] [] rfl (Nat.le_refl _) (by simp) (fun h => by simp at h) (fun i h => by simp at h) (fun i h => by simp at h) (fun i h => by simp at h) (fun i h => by simp at h)
    · refine ⟨_, _, e, ?_, hnd⟩
      subst hx0 hn0
      rw [hz]
      exact .struct d.base _ cap 0 0 (fun _ => undef) [] [] rfl (Nat.zero_le _) (by simp) (fun h => by simp at h) (fun i h => by simp at h) (fun i h => by simp at h) (fun i h => by simp at h) (fun i h => by simp at h)
theorem not_nodup {l : List ByteArray} {i : Nat} (h : i < l.length) (hm : l[i] ∈ l.take i) : ¬ l.Nodup := by
  intro hn
  obtain ⟨j, hj, e⟩ := List.getElem_of_mem hm
  rw [List.getElem_take] at e
  simp at hj
  have := (List.nodup_iff_pairwise_ne.1 hn)
  rw [List.pairwise_iff_getElem] at this
  exact this j i (by omega) h (by omega) e
end Go.Proofs.Ythpgnhmikffcpaa

/- The value of a struct. Condition: as many names as parts. -/
namespace Go.Proofs.Ythpgnhmikffcpaa
set_option linter.unusedVariables false
open Go.RowKit Go.Maps

theorem zero3 (w : World) : (zeroValue 3).run Try.prog w = .ok (.int .i64 0) w := by kernel_rfl
theorem law9 : Keyed Try.prog 9 := string_keyed Try.underlying9

set_option maxHeartbeats 8000000 in
set_option maxRecDepth 100000 in
theorem great_struct (d : D) (hk : d.kind = 18) (hlen : d.parts.length < 1000) (hln : d.names.length = d.parts.length) (ih : ∀ x ∈ d.parts, ∀ (w : World) (v : Value), IsD w v x → Calls Try.prog 42 #[v] w (MadePost w x))
    (w : World) (v : Value) (h : IsD w v d) : Calls Try.prog 58 #[v, .agg #[.int .i64 d.kind, .string d.type, .int .i64 d.hook]] w (MadePost w d) := by
  obtain ⟨a5, c5, a6, c6, rfl, _, hb, hi, ht, hx, hn, hp⟩ := h.open
  have IH := Lib.hid ih
  have HPP := Lib.hid hp
  have HNN := Lib.hid hn
  have HM : Hid (mkV d = (mkL d.parts).bind (greatV d)) := mkV_great (by omega)
  have hk18 : (d.kind == 18) = true := by simp [hk]
  have HLNN := Lib.hid hln
  clear hln
  have HK := Lib.hid hk
  clear hn hb hi ht hx h ih hk hp
  unfold aggD
  obtain ⟨i0, hi0, hz0, hz1, hz2⟩ := info_parts vinfo30
  have hmm := @run_makeMap Try.prog
  obtain ⟨j0, hj0, hjz0, hjz1, hjz2⟩ := info_parts vinfo106
  go_enter Try.func58, Try.ntmps58
  go_wp2_with fail
  obtain ⟨W1, hW1⟩ : ∃ W1, W1 = (w.alloc (.cells #[.int .i64 d.kind, .string d.type, .int .u64 d.bits, .int .u64 d.imag, .string d.text, .slice a5 d.names.length c5, .slice a6 d.parts.length c6, .int .i64 d.hook] 26)).alloc (.cells #[.int .i64 d.kind, .string d.type, .int .i64 d.hook] 71) := ⟨_, rfl⟩
  rw [← hW1]
  have HBW : Hid (Below w.heap.size w W1) := by rw [hW1]; exact (Below.new _).push _
  have hx0 : W1.cell? ⟨w.heap.size, 0, none⟩ = some (.int .i64 d.kind) := by rw [hW1]; simp
  have hx2 : W1.cell? ⟨w.heap.size, 2, none⟩ = some (.int .u64 d.bits) := by rw [hW1]; simp
  have hx5 : W1.cell? ⟨w.heap.size, 5, none⟩ = some (.slice a5 d.names.length c5) := by rw [hW1]; simp
  have hy0 : W1.cell? ⟨w.heap.size + 1, 0, none⟩ = some (.int .i64 d.kind) := by rw [hW1]; simp
  have hy1 : W1.cell? ⟨w.heap.size + 1, 1, none⟩ = some (.string d.type) := by rw [hW1]; simp
  have hy2 : W1.cell? ⟨w.heap.size + 1, 2, none⟩ = some (.int .i64 d.hook) := by rw [hW1]; simp
  have HX0 := Lib.hid hx0
  have HX2 := Lib.hid hx2
  have HX5 := Lib.hid hx5
  have HY0 := Lib.hid hy0
  have HY1 := Lib.hid hy1
  have HY2 := Lib.hid hy2
  have hzW : w.heap.size + 1 < W1.heap.size := by rw [hW1]; simp
  have hp1 := HPP.out.below HBW.out
  obtain ⟨ps, hps⟩ : ∃ ps, ps = d.parts := ⟨_, rfl⟩
  rw [← hps] at hp1 IH hlen HM ⊢
  have HPS := Lib.hid hps
  have HP := Lib.hid hp1
  clear hW1 hx0 hx2 hx5 hy0 hy1 hy2 hp1 hps HPP
  go_loopw [5, 19] (fun v k wr => ∃ (us : List Value) (xs : List V), k = .int .i64 (us.length : Int) ∧ us.length ≤ ps.length ∧ Hid (mkL (ps.take us.length) = some xs) ∧ Hid (Vals W1 v us xs wr)) (fun _ k _ => ps.length - (intOf k).toNat)
  case atStart => exact ⟨[], [], rfl, Nat.zero_le _, by simp only [List.length_nil, List.take_zero]; rfl, Vals.start W1⟩
  case round =>
    obtain ⟨us, xs, rfl, hle, HL, HV⟩ := hrel
    have hzr := HV.out.lo.size
    have HBr := Lib.hid HV.out.lo
    by_cases hin : us.length < ps.length
    · obtain ⟨b, o, p5, q5, p6, q6, rfl, hrow, hD⟩ := HP.out.elem HBr.out hin
      obtain ⟨k0, k1, k2, k3, k4, k5, k6, k7⟩ := hrow
      have HX := Lib.hid hD
      have HIH := Lib.hid (IH.out ps[us.length] (List.getElem_mem _))
      have hmk : ps.take (us.length + 1) = ps.take us.length ++ [ps[us.length]] := List.take_succ_eq_append_getElem hin
      have hsp : ps = ps.take us.length ++ ps[us.length] :: ps.drop (us.length + 1) := by rw [← List.drop_eq_getElem_cons hin]; exact (List.take_append_drop _ _).symm
      have HMK := Lib.hid hmk
      have HSP := Lib.hid hsp
      clear hD hmk hsp
      obtain ⟨x, hx⟩ : ∃ x, x = ps[us.length] := ⟨_, rfl⟩
      rw [← hx] at k0 k1 k2 k3 k4 k5 k6 k7 HX HIH HMK HSP
      unfold aggD at HX
      clear hx
      obtain ⟨n, hn⟩ : ∃ n, n = us.length := ⟨_, rfl⟩
      have HN := Lib.hid hn
      rw [← hn] at hin hle k0 k1 k2 k3 k4 k5 k6 k7 HL HMK HSP
      rw [← hn]
      clear hn
      cases hmx : mkV x with
      | none =>
        have HMX := Lib.hid hmx
        clear hmx
        go_wp2_with fail
        refine (made_none HMX.out (HIH.out _ _ (HX.out.later (Below.new _)))).mono ?_
        rintro e w3 ⟨rfl, hB3⟩
        have HB3 := Lib.hid (HBW.out.next ((HBr.out.push _).next hB3))
        clear hB3 k0 k1 k2 k3 k4 k5 k6 k7 HX HIH
        go_wp2_with fail
        refine ⟨rfl, ?_⟩
        show MadePost _ _ (thrown 5) _
        unfold MadePost
        rw [HM.out, HSP.out, mkL_none _ _ _ HMX.out]
        exact ⟨rfl, HB3.out⟩
      | some y =>
        have HMX := Lib.hid hmx
        clear hmx
        go_wp2_with fail
        refine (made_some HMX.out (HIH.out _ _ (HX.out.later (Below.new _)))).mono ?_
        rintro e w3 ⟨hB3, t, u, rfl, hu⟩
        have HV3 := Lib.hid ((HV.out.later (Below.new _)).later hB3)
        have HU := Lib.hid hu
        have hz3 : wr.heap.size < w3.heap.size := by have := hB3.size; simp at this; omega
        have HVo := Lib.hid (fun g (hg : u5.ownBlock = some g) => (HV.out.own.lt g hg).2)
        clear hB3 hu k0 k1 k2 k3 k4 k5 k6 k7 HX HIH
        have hown := HV3.out.own
        rw [← HN.out] at hown
        have HO := Lib.hid (hown.alloc (.cells #[.iface t u] 30))
        have hbase : W1.heap.size ≤ (w3.alloc (.cells #[.iface t u] 30)).heap.size := by simp; omega
        clear hown
        go_wp2_with (at_builtin; refine wpList_append_one _ rfl (.tmp 23) (.tmp 26) 75 rfl W1.heap.size 30 i0 .nilIface 1 16 Try.underlying75 hi0 hz0 hz1 hz2 rfl (by decide) _ _ _ rfl HO.out ⟨w3.heap.size, 0, none⟩ 1 [.iface t u] rfl rfl ?c1 ?c2 ?c3 ?c4 hbase ?_)
        case c1 =>
          intro j u' hj
          match j, hj with
          | 0, hj => simp at hj; subst hj; simp [Addr.add]
        case c2 => intro u' hu'; simp at hu'; subst hu'; rfl
        case c3 => unfold maxLen; omega
        case c4 => omega
        intro v' w4 hown' hgrow hlast
        have HV4 : Hid (Vals W1 v' (us ++ [.iface t u]) (xs ++ [y]) w4) := by
          refine (HV3.out.later (Below.new (w := w3) (.cells #[.iface t u] 30))).push ?_ (by rw [← HN.out]; exact hown') hgrow (by simpa using hlast)
          refine HU.out.keep fun k hk hk' => ⟨⟨by simp at hk'; omega, by simp; omega, fun e => ?_⟩, (Below.new _).block k hk⟩
          have := HVo.out k e
          simp at hk'; omega
        have HL4 : Hid (mkL (ps.take (us ++ [Value.iface t u]).length) = some (xs ++ [y])) := by
          show _ = _
          rw [List.length_append, List.length_singleton, ← HN.out, HMK.out]
          exact mkL_snoc _ _ HL.out HMX.out
        have hln : (us ++ [Value.iface t u]).length = n + 1 := by rw [List.length_append, List.length_singleton, ← HN.out]
        have HLN := Lib.hid hln
        clear hown' hgrow hlast hln HO HVo HU HV3 HV HL
        go_wp2_with fail
        go_roundw
        case rel => exact ⟨us ++ [.iface t u], xs ++ [y], by rw [HLN.out]; go_num, by rw [HLN.out]; omega, HL4, HV4⟩
        case measure => simp [intOf]; omega
    · have hle2 : us.length = ps.length := by omega
      have HLen := Lib.hid hle2
      have hL2 := HL.out
      rw [hle2, List.take_length] at hL2
      have HL2 := Lib.hid hL2
      have HML : Hid (mkV d = greatV d xs) := by show _ = _; rw [HM.out, hL2]; rfl
      clear hle2 hL2 HL HM IH HP
      obtain ⟨a, c, rfl⟩ := HV.out.slice
      obtain ⟨bb, hb1, hb2, hb3⟩ := HV.out.cells
      have hzb : w.heap.size + 1 < wr.heap.size := by omega
      have HB1 := Lib.hid hb1
      have HB3 := Lib.hid hb3
      have hlen' : us.length < 1000 := by omega
      obtain ⟨_, hcn, bn, on, hn1, hn2, hn3⟩ := HNN.out
      have HN1 := Lib.hid hn1
      have HN2 := Lib.hid hn2
      have HN3 := Lib.hid hn3
      have hnl : d.names.length = us.length := by rw [HLNN.out, ← HPS.out]; exact HLen.out.symm
      have HNL := Lib.hid hnl
      have hx5 := cell_below HBr.out HX5.out
      have hx0 := cell_below HBr.out HX0.out
      have hy0 := cell_below HBr.out HY0.out
      have hy1 := cell_below HBr.out HY1.out
      have hy2 := cell_below HBr.out HY2.out
      rw [hnl] at hx5
      rw [← HLen.out, hnl]
      have HBA := Lib.hid (HBW.out.next HBr.out)
      clear hb1 hb3 hn1 hn2 hn3 HX0 HX2 HX5 HY0 HY1 HY2 hnl hin hle
      obtain ⟨n, hn⟩ : ∃ n, n = us.length := ⟨_, rfl⟩
      rw [← hn] at hx5 hlen' hb2
      rw [← hn]
      have HN := Lib.hid hn
      clear hn
      obtain ⟨wo, rfl⟩ : ∃ wo : World, wo = wr := ⟨_, rfl⟩
      go_wp2_with fail
      have hsz2 : n ≤ 9223372036854775807 := by omega
      go_loopw [10, 11, 38] (fun _ _ k wq => ∃ (i : Nat) (v : Value), k = .int .i64 (i : Int) ∧ i ≤ n ∧ Hid (SInv wo d d.names us i v wq)) (fun _ _ k _ => n - (intOf k).toNat)
      case atStart => exact ⟨0, _, rfl, Nat.zero_le _, SInv.start wo d d.names us⟩
      case round =>
        obtain ⟨i, v, rfl, hi, HS⟩ := hrel
        have HBq := Lib.hid (HS.out.lo)
        have HXX5 := Lib.hid hx5
        have hx5q := cell_below HBq.out hx5
        by_cases hin : i < n
        · have hiu : i < us.length := by rw [← HN.out]; exact hin
          have hid : i < d.names.length := by rw [HNL.out]; exact hiu
          obtain rfl : a5 = some ⟨bn, on, none⟩ := HN1.out (by omega)
          obtain ⟨rfl, hbb⟩ := HB1.out (by omega)
          have hnm := cell_below HBq.out (cell_below HBA.out (HN2.out i hid))
          have hus := cell_below HBq.out (HB3.out i hiu)
          obtain ⟨t, y, hty⟩ := HV.out.iface us[i] (List.getElem_mem _)
          rw [hty] at hus
          have hnsz := HN3.out d.names[i] (List.getElem_mem _)
          have HTY := Lib.hid hty
          obtain ⟨nm, hnmd⟩ : ∃ nm, nm = d.names[i] := ⟨_, rfl⟩
          rw [← hnmd] at hnm hnsz
          have HNM := Lib.hid hnmd
          have hkey := WideMaps.keyOf_string_mk (P := Try.prog) Try.underlying9 (s := nm) (by unfold cap47 at hnsz; unfold maxLen; omega)
          have HKEY := Lib.hid hkey
          clear hnmd hkey hnsz hx5
          by_cases hmem : nm ∈ d.names.take i
          · have HMEM := Lib.hid hmem
            clear hmem
            go_wp2_with (at_lookup; refine wpList_lookup_own_int _ rfl _ _ 122 rfl 9 3 .i64 law9 Try.underlying122 Try.underlying3 (zero3 _) (wo.heap.size + 1) i _ rfl HS.out.map _ _ rfl HKEY.out ?_; intro c hat hwc; obtain rfl := Seen_1 hat HMEM.out; clear hat hwc)
            refine (must_bad 5 _).mono ?_
            rintro e w2 ⟨rfl, rfl⟩
            go_wp2_with fail
            refine ⟨rfl, ?_⟩
            show MadePost _ _ (thrown 5) _
            unfold MadePost
            have hnone : greatV d xs = none := by
              unfold greatV
              rw [if_pos HK.out, if_neg (not_nodup hid (by rw [← HNM.out]; exact HMEM.out))]
            rw [HML.out, hnone]
            exact ⟨rfl, HBA.out.next HBq.out⟩
          · have HMEM := Lib.hid hmem
            clear hmem
            go_wp2_with (first
              | (at_lookup; refine wpList_lookup_own_int _ rfl _ _ 122 rfl 9 3 .i64 law9 Try.underlying122 Try.underlying3 (zero3 _) (wo.heap.size + 1) i _ rfl HS.out.map _ _ rfl HKEY.out ?_; intro c hat hwc; obtain rfl := Seen_0 hat HMEM.out; clear hat hwc)
              | (go_at_call 36; (with_reducible refine (must_ok 5 _).mono ?_); rintro e w2 ⟨rfl, rfl⟩)
              | (at_mapUpdate; refine wpList_mapUpdate_own _ rfl _ _ _ 122 rfl 9 3 law9 Try.underlying122 _ (wo.heap.size + 1) i _ rfl HS.out.map (by unfold maxLen; omega) _ _ _ rfl rfl HKEY.out _ [] (plainElem_int Try.underlying3 (by decide)) ?_; intro w5 hown5 hgrow5))
            obtain ⟨k3, kf3, hrow5, hlo5, _, _, _⟩ := HS.out.named hgrow5
            have hx5' := cell_below hlo5 HXX5.out
            have hnm' := cell_below hlo5 (cell_below HBA.out (HN2.out i hid))
            rw [← HNM.out] at hnm'
            have hnv : ∀ k, k < wo.heap.size + 2 → v.ownBlock ≠ some k := fun k hk e => by have := hrow5.lt _ e; omega
            have hM5 := hown5.lt
            have HO5 := Lib.hid hown5
            have HG5 := Lib.hid hgrow5
            have HR5 := Lib.hid hrow5
            have HL5 := Lib.hid hlo5
            have HNV := Lib.hid hnv
            have HUS := Lib.hid hus
            have hi0 : (0 : Int) ≤ (i : Int) := Int.natCast_nonneg _
            have hi1 : (i : Int) < (n : Int) := by omega
            have hmx : i + 1 ≤ maxLen := by unfold maxLen; omega
            have hbx : (i + 1) * 32 ≤ 140737488355328 := by omega
            have l1 := World.block_lt_of_cell? w5 _ k3
            have l2 := World.block_lt_of_cell? w5 _ hx5'
            have l3 := World.block_lt_of_cell? w5 _ hnm'
            clear hown5 hgrow5 hrow5 hlo5 hnv hus hnm hx5q
            go_region_law ((refine step_append_lies _ (by rfl) _ _ _ (by rfl) (wo.heap.size + 2) 106 j0 _ 2 32 Try.underlying102 hj0 hjz0 hjz1 hjz2 rfl (by omega) v i _ (by rfl) ((HR5.out.alloc _).drew) ⟨w5.heap.size, 0, none⟩ 1 1 [.string nm, .iface t y] (by rfl) (by rfl) (World.news_of_block (cs := #[.string nm, .iface t y]) (t := 106) (fr := (0, 0)) (heap_alloc_new w5 _)) (by simp [Value.oneCell']) (by omega) hmx hbx (by simp; omega) (w5.heap.size + 1) (by simp) ?_; intro gg cap w6 hown6 hgrow6 hat6 hlt6; have bS6 : w6.heap[wo.heap.size]? = w5.heap[wo.heap.size]? := (hgrow6.block _ (by simp; omega) (fun e => HNV.out _ (by omega) e.symm)).trans (Below.heap_alloc w5 _ _ l1); have q3 := cell_block bS6 k3; have qf := (frozen_block (o := 3) bS6).trans kf3; clear bS6))
            all_goals
              have HSN : Hid (SInv wo d d.names us (i + 1) (.slice (some ⟨gg, 0, none⟩) (i + 1) cap) (w6.setCell ⟨wo.heap.size, 3, none⟩ (.slice (some ⟨gg, 0, none⟩) (i + 1) cap))) :=
                HS.out.next hid hiu HNM.out HTY.out HMEM.out HO5.out HG5.out ((Below.new _).drew) hown6 hgrow6
              clear hown6 hgrow6 hat6 hlt6 q3 qf k3 kf3 hnm' hx5'
              go_wp2_with fail
              go_roundw
              case rel => exact ⟨i + 1, _, by go_num, by omega, HSN⟩
              case measure => simp [intOf]; omega
        · obtain rfl : i = n := by omega
          obtain ⟨av, cv, rfl, hfin, hnd⟩ := HS.out.done HV.out (by rw [HN.out, HNL.out]) HN.out hlen'
          have HFIN := Lib.hid hfin
          have HND := Lib.hid hnd
          obtain ⟨s0, s1, s2, s3, f3, _, _, _, _⟩ := HS.out
          clear hfin hnd
          go_wp2_with fail
          refine bodyPost_ret (v := .iface 104 (.agg #[.int .i64 d.kind, .string d.type, .int .i64 d.hook, .slice av i cv])) (by simp [results, Try.f58, go_sem]) rfl ?_
          unfold MadePost
          have hsm : greatV d xs = some (.great .struct d.base 0 d.names xs) := by
            unfold greatV
            rw [if_pos HK.out, if_pos HND.out]
          rw [HML.out, hsm]
          exact ⟨HBA.out.next HBq.out, _, _, rfl, HFIN.out.mono fun k _ hk => by omega⟩
end Go.Proofs.Ythpgnhmikffcpaa
