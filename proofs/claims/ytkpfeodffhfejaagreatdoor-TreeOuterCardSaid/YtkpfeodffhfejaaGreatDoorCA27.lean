/- The reference's sorting of keys and values by turns. Condition: the slice's elements are descriptors; an even number, at most 128. -/
import Derived.Test.YtkpfeodffhfejaaGreatDoorCA23
import Derived.Test.YtkpfeodffhfejaaGreatDoorCA26
import Derived.BigQuiet
import Derived.Deep.RegionHeld3
import Derived.WalkSmall
import Derived.Deep.QuietTactic
namespace Go.Proofs.YtkpfeodffhfejaaGreatDoor
set_option linter.unusedVariables false
set_option maxRecDepth 1000000
set_option linter.unusedSimpArgs false
open Go.RowKit

section
variable {α : Type}
def insG (des : α → D) (e : α × α) : List (α × α) → List (α × α)
  | [] => [e]
  | x :: l => if cmpD (des e.1) (des x.1) < 0 then e :: x :: l else x :: insG des e l
def sortG (des : α → D) : List (α × α) → List (α × α) → List (α × α)
  | acc, [] => acc
  | acc, e :: l => sortG des (insG des e acc) l
def flatG : List (α × α) → List α
  | [] => []
  | (a, b) :: l => a :: b :: flatG l
theorem flatG_append : ∀ a b : List (α × α), flatG (a ++ b) = flatG a ++ flatG b
  | [], b => rfl
  | (x, y) :: a, b => by simp [flatG, flatG_append a b]
theorem flatG_length : ∀ a : List (α × α), (flatG a).length = a.length * 2
  | [] => rfl
  | (x, y) :: a => by simp only [flatG, List.length_cons, flatG_length a]; omega
theorem flatG_get : ∀ (l : List (α × α)) (i : Nat) (h : i < l.length), (flatG l)[i * 2]? = some l[i].1 ∧ (flatG l)[i * 2 + 1]? = some l[i].2
  | (a, b) :: l, 0, h => ⟨rfl, rfl⟩
  | (a, b) :: l, i + 1, h => by
    have := flatG_get l i (by simpa using h)
    rw [show (i + 1) * 2 = i * 2 + 1 + 1 by omega]
    simpa [flatG] using this
theorem insG_length (des : α → D) (e : α × α) : ∀ l, (insG des e l).length = l.length + 1
  | [] => rfl
  | x :: l => by
    unfold insG
    split
    · rfl
    · simp [insG_length des e l]
theorem sortG_snoc (des : α → D) : ∀ (l acc : List (α × α)) (e : α × α), sortG des acc (l ++ [e]) = insG des e (sortG des acc l)
  | [], acc, e => rfl
  | x :: l, acc, e => by simp only [List.cons_append, sortG]; exact sortG_snoc des l _ e
theorem sortG_length (des : α → D) : ∀ (l acc : List (α × α)), (sortG des acc l).length = acc.length + l.length
  | [], acc => rfl
  | x :: l, acc => by simp only [sortG, sortG_length des l, insG_length, List.length_cons]; omega
theorem insG_perm (des : α → D) (e : α × α) : ∀ l, (insG des e l).Perm (e :: l)
  | [] => .refl _
  | x :: l => by
    unfold insG
    split
    · exact .refl _
    · exact ((insG_perm des e l).cons x).trans (.swap _ _ _)
theorem sortG_perm (des : α → D) : ∀ (l acc : List (α × α)), (sortG des acc l).Perm (acc ++ l)
  | [], acc => by simp [sortG]
  | e :: l, acc => by
    simp only [sortG]
    refine (sortG_perm des l _).trans (((insG_perm des e acc).append_right l).trans ?_)
    rw [List.cons_append]
    exact List.perm_middle.symm
theorem flatG_perm {a b : List (α × α)} (h : a.Perm b) : (flatG a).Perm (flatG b) := by
  induction h with
  | nil => exact .refl _
  | cons x _ ih => obtain ⟨x, y⟩ := x; exact (ih.cons y).cons x
  | swap x y l =>
    obtain ⟨a, b⟩ := x
    obtain ⟨c, d⟩ := y
    simp only [flatG]
    have h1 : ([c, d] ++ ([a, b] ++ flatG l)).Perm ([a, b] ++ ([c, d] ++ flatG l)) := by
      rw [← List.append_assoc, ← List.append_assoc]
      exact List.Perm.append_right _ List.perm_append_comm
    exact h1
  | trans _ _ h1 h2 => exact h1.trans h2
end
/-- The values us lie in a row of the call's own. -/
def RowV (lo : Nat) (w : World) (a : Option Addr) (c n : Nat) (us : List Value) : Prop := us.length = n ∧ w.ownsRow lo 26 8 (.slice a n c) n (flatV8 us)
theorem RowV.below {lo : Nat} {w w' : World} {a : Option Addr} {c n : Nat} {us : List Value} (h : RowV lo w a c n us) (hb : Below w.heap.size w w') : RowV lo w' a c n us := ⟨h.1, owns_laterV h.2 hb⟩
/-- An element of such a row. -/
theorem RowV.read {lo : Nat} {w : World} {a : Option Addr} {c n : Nat} {us : List Value} (h : RowV lo w a c n us) {w0 : World} {d : D} {i : Nat} {u : Value} (hi : us[i]? = some u) (h8 : ∀ u ∈ us, (cellsOfV u).length = 8) (hd : IsD w0 u d) :
    ∃ g a5 c5 a6 c6, a = some ⟨g, 0, none⟩ ∧ RowD w g (i * 8) d a5 c5 a6 c6 ∧ u = aggD d a5 c5 a6 c6 := by
  obtain ⟨hl, ho⟩ := h
  have hil : i < us.length := (List.getElem?_eq_some_iff.1 hi).1
  have hu : us[i] = u := (List.getElem?_eq_some_iff.1 hi).2
  obtain ⟨a5, c5, a6, c6, e, _⟩ := hd.open
  have hg : ∃ g, a = some ⟨g, 0, none⟩ := by
    rcases ho.2 with ⟨_, h0⟩ | ⟨g, cap, cur, e, _⟩
    · omega
    · injection e with e1 e2 e3
      exact ⟨g, e1⟩
  obtain ⟨g, rfl⟩ := hg
  have hc : ∀ j, j < 8 → ∀ v, (cellsOfV u)[j]? = some v → w.cell? ⟨g, i * 8 + j, none⟩ = some v := fun j hj v hv => by
    have := ho.cells (g := g) rfl (i * 8 + j) v (by rw [flatV8_get us h8 i hil j hj, hu]; exact hv)
    rw [addr0] at this
    exact this
  rw [e] at hc
  exact ⟨g, a5, c5, a6, c6, rfl, ⟨hc 0 (by omega) _ rfl, hc 1 (by omega) _ rfl, hc 2 (by omega) _ rfl, hc 3 (by omega) _ rfl, hc 4 (by omega) _ rfl, hc 5 (by omega) _ rfl, hc 6 (by omega) _ rfl, hc 7 (by omega) _ rfl⟩, e⟩
theorem RowV.readAt {lo : Nat} {w : World} {g c n : Nat} {us : List Value} (h : RowV lo w (some ⟨g, 0, none⟩) c n us) {d : D} {i : Nat} {u : Value} (hi : us[i]? = some u) (h8 : ∀ u ∈ us, (cellsOfV u).length = 8) {a5 : Option Addr} {c5 : Nat} {a6 : Option Addr} {c6 : Nat}
    (hu : u = aggD d a5 c5 a6 c6) : RowD w g (i * 8) d a5 c5 a6 c6 := by
  obtain ⟨hl, ho⟩ := h
  have hil : i < us.length := (List.getElem?_eq_some_iff.1 hi).1
  have hu' : us[i] = u := (List.getElem?_eq_some_iff.1 hi).2
  have hc : ∀ j, j < 8 → ∀ v, (cellsOfV u)[j]? = some v → w.cell? ⟨g, i * 8 + j, none⟩ = some v := fun j hj v hv => by
    have := ho.cells (g := g) rfl (i * 8 + j) v (by rw [flatV8_get us h8 i hil j hj, hu']; exact hv)
    rw [addr0] at this
    exact this
  rw [hu] at hc
  exact ⟨hc 0 (by omega) _ rfl, hc 1 (by omega) _ rfl, hc 2 (by omega) _ rfl, hc 3 (by omega) _ rfl, hc 4 (by omega) _ rfl, hc 5 (by omega) _ rfl, hc 6 (by omega) _ rfl, hc 7 (by omega) _ rfl⟩
theorem RowV.drewN {lo : Nat} {w : World} {a : Option Addr} {c n : Nat} {us : List Value} (h : RowV lo w a c n us) (k : Nat) : RowV lo (w.drewN k) a c n us := h
theorem RowV.readB {lo : Nat} {w : World} {a : Option Addr} {c n : Nat} {us : List Value} (h : RowV lo w a c n us) {d : D} {i : Nat} {u : Value} (hi : us[i]? = some u) (h8 : ∀ u ∈ us, (cellsOfV u).length = 8) (hd : IsD w u d) :
    ∃ g a5 c5 a6 c6, a = some ⟨g, 0, none⟩ ∧ (∀ W, Below w.heap.size w W → RowD W g (i * 8) d a5 c5 a6 c6) ∧ u = aggD d a5 c5 a6 c6 := by
  obtain ⟨g, a5, c5, a6, c6, e1, e2, e3⟩ := h.read hi h8 hd
  exact ⟨g, a5, c5, a6, c6, e1, fun W hW => e2.below hW, e3⟩
theorem flatV8_append : ∀ a b : List Value, flatV8 (a ++ b) = flatV8 a ++ flatV8 b
  | [], b => rfl
  | u :: a, b => by simp only [List.cons_append, flatV8, flatV8_append a b, List.append_assoc]
theorem own_addr {lo : Nat} {w : World} {a : Option Addr} {c n : Nat} {xs : List Value} {ad : Addr} (h : w.ownsRow lo 26 8 (.slice a n c) n xs) (ha : a = some ad) : ∃ g, ad = ⟨g, 0, none⟩ := by
  subst ha
  rcases h.2 with ⟨e, _⟩ | ⟨g, cap, cur, e, _⟩
  · cases e
  · injection e with e1 e2 e3
    injection e1 with e1
    exact ⟨g, e1⟩
/-- Two rows of the call's own: of the first two more elements are made, the second stays. -/
theorem rows_push {w W w6 : World} {a3 a5 : Option Addr} {c3 c5 n3 n5 : Nat} {us vs : List Value} (r5 : RowV w.heap.size W a5 c5 n5 us) (r3 : RowV w.heap.size W a3 c3 n3 vs)
    (ne : ∀ g g', a5 = some ⟨g, 0, none⟩ → a3 = some ⟨g', 0, none⟩ → g ≠ g') (b : Below w.heap.size w W) {o : Obj} {v1 v2 : Value} {gg cap : Nat} {cells : List Value} (hcells : cells = cellsOfV v1 ++ cellsOfV v2)
    (own : w6.ownsRow w.heap.size 26 8 (.slice (some ⟨gg, 0, none⟩) (n5 + 2) cap) (n5 + 2) (flatV8 us ++ cells)) (hg : (W.alloc o).grownBy w6 (Value.slice a5 n5 c5).ownBlock) (hat : (Value.slice a5 n5 c5).ownBlock = some gg ∨ gg = W.heap.size + 1) :
    RowV w.heap.size w6 (some ⟨gg, 0, none⟩) cap (n5 + 2) (us ++ [v1, v2]) ∧ RowV w.heap.size w6 a3 c3 n3 vs ∧ (∀ g g', some (⟨gg, 0, none⟩ : Addr) = some ⟨g, 0, none⟩ → a3 = some ⟨g', 0, none⟩ → g ≠ g') ∧ Below w.heap.size w w6 := by
  have hz := b.size
  refine ⟨⟨by rw [List.length_append, r5.1]; rfl, ?_⟩, ⟨r3.1, (r3.2.alloc o).kept hg ?_⟩, fun g g' e1 e2 => ?_, (b.push o).grown hg (by simp; omega) (fun k hk => (r5.2.lt k hk).1)⟩
  · rw [flatV8_append]
    simp only [flatV8, List.append_nil]
    rw [← hcells]
    exact own
  · cases h3 : a3 with
    | none => exact .inl rfl
    | some ad =>
      right
      obtain ⟨g3, rfl⟩ := own_addr r3.2 h3
      cases h5 : a5 with
      | none => simp [Value.ownBlock]
      | some ad5 =>
        obtain ⟨g5, rfl⟩ := own_addr r5.2 h5
        have := ne g5 g3 h5 h3
        simp only [Value.ownBlock]
        intro e
        injection e with e
        exact this e.symm
  · injection e1 with e1
    injection e1 with e1
    subst e1
    have l3 := (r3.2.lt g' (by rw [e2]; rfl)).2
    rcases hat with hat | hat
    · cases h5 : a5 with
      | none => rw [h5] at hat; cases hat
      | some ad5 =>
        obtain ⟨g5, rfl⟩ := own_addr r5.2 h5
        rw [h5] at hat
        injection hat with hat
        have := ne g5 g' h5 e2
        simp only at hat
        omega
    · omega
/-- Where the inner loop stands. -/
structure Inner {α : Type} (w : World) (val : α → Value) (des : α → D) (e : α × α) (acc : List (α × α)) (a3 : Option Addr) (c3 n3 : Nat) (wq : World) (k k2 n5 c5 : Nat) (a5 : Option Addr) (dn : Bool) (nx : List (α × α)) : Prop where
  k2e : k2 = 2 * k
  n5e : n5 = 2 * nx.length
  ins : insG des e acc = nx ++ (if dn then acc.drop k else insG des e (acc.drop k))
  r5 : RowV w.heap.size wq a5 c5 n5 ((flatG nx).map val)
  ne : ∀ g g', a5 = some ⟨g, 0, none⟩ → a3 = some ⟨g', 0, none⟩ → g ≠ g'
  r3 : RowV w.heap.size wq a3 c3 n3 ((flatG acc).map val)
  b : Below w.heap.size w wq
theorem Inner.drewN {α : Type} {w : World} {val : α → Value} {des : α → D} {e : α × α} {acc : List (α × α)} {a3 : Option Addr} {c3 n3 : Nat} {wq : World} {k k2 n5 c5 : Nat} {a5 : Option Addr} {dn : Bool} {nx : List (α × α)}
    (h : Inner w val des e acc a3 c3 n3 wq k k2 n5 c5 a5 dn nx) (n : Nat) : Inner w val des e acc a3 c3 n3 (wq.drewN n) k k2 n5 c5 a5 dn nx := ⟨h.k2e, h.n5e, h.ins, h.r5, h.ne, h.r3, below_drewN h.b n⟩
theorem Inner.below {α : Type} {w : World} {val : α → Value} {des : α → D} {e : α × α} {acc : List (α × α)} {a3 : Option Addr} {c3 n3 : Nat} {wq wq' : World} {k k2 n5 c5 : Nat} {a5 : Option Addr} {dn : Bool} {nx : List (α × α)}
    (h : Inner w val des e acc a3 c3 n3 wq k k2 n5 c5 a5 dn nx) (hb : Below wq.heap.size wq wq') : Inner w val des e acc a3 c3 n3 wq' k k2 n5 c5 a5 dn nx := ⟨h.k2e, h.n5e, h.ins, h.r5.below hb, h.ne, h.r3.below hb, h.b.next hb⟩
/-- The entry is put. -/
theorem Inner.put {α : Type} {w : World} {val : α → Value} {des : α → D} {e : α × α} {acc : List (α × α)} {a3 : Option Addr} {c3 n3 : Nat} {wq : World} {k k2 n5 c5 : Nat} {a5 : Option Addr} {nx : List (α × α)}
    (h : Inner w val des e acc a3 c3 n3 wq k k2 n5 c5 a5 false nx) (hput : insG des e (acc.drop k) = e :: acc.drop k) {o : Obj} {gg cap : Nat} {cells : List Value} (hcells : cells = cellsOfV (val e.1) ++ cellsOfV (val e.2)) {w6 : World}
    (own : w6.ownsRow w.heap.size 26 8 (.slice (some ⟨gg, 0, none⟩) (n5 + 2) cap) (n5 + 2) (flatV8 ((flatG nx).map val) ++ cells)) (hg : (wq.alloc o).grownBy w6 (Value.slice a5 n5 c5).ownBlock) (hat : (Value.slice a5 n5 c5).ownBlock = some gg ∨ gg = wq.heap.size + 1) :
    Inner w val des e acc a3 c3 n3 w6 k k2 (n5 + 2) cap (some ⟨gg, 0, none⟩) true (nx ++ [e]) := by
  obtain ⟨q1, q2, q3, q4⟩ := rows_push h.r5 h.r3 h.ne h.b hcells own hg hat
  refine ⟨h.k2e, by rw [List.length_append, h.n5e]; simp; omega, ?_, ?_, q3, q2, q4⟩
  · rw [h.ins, if_neg (by simp), if_pos rfl, hput, List.append_assoc]; rfl
  · rw [flatG_append, List.map_append]
    exact q1
/-- An element of the sorted ones follows. -/
theorem Inner.step {α : Type} {w : World} {val : α → Value} {des : α → D} {e : α × α} {acc : List (α × α)} {a3 : Option Addr} {c3 n3 : Nat} {wq : World} {k k2 n5 c5 : Nat} {a5 : Option Addr} {dn : Bool} {nx : List (α × α)}
    (h : Inner w val des e acc a3 c3 n3 wq k k2 n5 c5 a5 dn nx) (hk : k < acc.length) (hgo : dn = false → ¬ cmpD (des e.1) (des acc[k].1) < 0) {o : Obj} {gg cap : Nat} {cells : List Value} (hcells : cells = cellsOfV (val acc[k].1) ++ cellsOfV (val acc[k].2)) {w6 : World}
    (own : w6.ownsRow w.heap.size 26 8 (.slice (some ⟨gg, 0, none⟩) (n5 + 2) cap) (n5 + 2) (flatV8 ((flatG nx).map val) ++ cells)) (hg : (wq.alloc o).grownBy w6 (Value.slice a5 n5 c5).ownBlock) (hat : (Value.slice a5 n5 c5).ownBlock = some gg ∨ gg = wq.heap.size + 1) :
    Inner w val des e acc a3 c3 n3 w6 (k + 1) (k2 + 2) (n5 + 2) cap (some ⟨gg, 0, none⟩) dn (nx ++ [acc[k]]) := by
  obtain ⟨q1, q2, q3, q4⟩ := rows_push h.r5 h.r3 h.ne h.b hcells own hg hat
  refine ⟨by rw [h.k2e]; omega, by rw [List.length_append, h.n5e]; simp; omega, ?_, ?_, q3, q2, q4⟩
  · rw [h.ins, drop_cons hk, List.append_assoc]
    cases dn with
    | true => rfl
    | false =>
      have := hgo rfl
      simp only [Bool.false_eq_true, if_false]
      rw [insG, if_neg this]; rfl
  · rw [flatG_append, List.map_append]
    exact q1
def SrtPost {α : Type} (w : World) (val : α → Value) (L : List (α × α)) (e : Ending) (w' : World) : Prop :=
  Below w.heap.size w w' ∧ ∃ a c, e = .returned (.slice a (2 * L.length) c) ∧ RowV w.heap.size w' a c (2 * L.length) ((flatG L).map val)
set_option maxRecDepth 100000 in
set_option maxHeartbeats 4000000 in
theorem sorted_any {α : Type} (val : α → Value) (des : α → D) (L : List (α × α)) (hL : L.length ≤ 64) {lo : Nat} {w : World} {a : Option Addr} {c : Nat} (h : RowV lo w a c (2 * L.length) ((flatG L).map val))
    (hD : ∀ x ∈ flatG L, IsD w (val x) (des x)) : Calls Tryz.prog 65 #[.slice a (2 * L.length) c] w (SrtPost w val (sortG des [] L)) := by
  obtain ⟨i26, hi26, hz26, hs26, hb26⟩ := info_parts vinfo26
  have H8 : Hid (∀ us : List (α × α), (∀ x ∈ flatG us, x ∈ flatG L) → ∀ u ∈ (flatG us).map val, (cellsOfV u).length = 8) := by
    intro us hus u hu
    obtain ⟨x, hx, rfl⟩ := List.mem_map.1 hu
    exact (hD x (hus x hx)).eight.1
  have HH := Lib.hid h
  have HD := Lib.hid hD
  obtain ⟨N, hN⟩ : ∃ N, N = 2 * L.length := ⟨_, rfl⟩
  have HN := Lib.hid hN
  have hN128 : N ≤ 128 := by omega
  rw [← hN] at HH ⊢
  clear h hD hN
  go_enter Tryz.func65, Tryz.ntmps65
  go_wp2_with fail
  go_loopw [3, 4, 5, 6, 7] (fun s3 s4 _ _ _ wr => ∃ (p p2 n3 c3 : Nat) (a3 : Option Addr), s4 = .int .i64 (p2 : Int) ∧ s3 = .slice a3 n3 c3 ∧ p2 ≤ N ∧ n3 ≤ N ∧ Hid (p2 = 2 * p) ∧ Hid (n3 = 2 * p) ∧ Hid (RowV w.heap.size wr a3 c3 n3 ((flatG (sortG des [] (L.take p))).map val)) ∧ Hid (Below w.heap.size w wr)) (fun _ s4 _ _ _ _ => N - (intOf s4).toNat)
  case atStart => exact ⟨0, 0, 0, 0, none, rfl, rfl, by omega, by omega, rfl, rfl, ⟨rfl, rfl, .inl ⟨rfl, rfl⟩⟩, Below.refl _ _⟩
  case round =>
    obtain ⟨p, p2, n3, c3, a3, rfl, rfl, hp2, hn3, HP2, HN3, HR3, HB⟩ := hrel
    by_cases hpn : p2 + 1 < N
    · have hpn2 : (p2 : Int) + 1 < (N : Int) := by omega
      have hpL : p < L.length := by have := HP2.out; have := HN.out; omega
      obtain ⟨acc, hacc⟩ : ∃ acc, acc = sortG des [] (L.take p) := ⟨_, rfl⟩
      have HAcc := Lib.hid hacc
      have HAL : Hid (acc.length = p) := by show _ = _; rw [hacc, sortG_length, List.length_take]; simp; omega
      have HAM : Hid (∀ x ∈ flatG acc, x ∈ flatG L) := by
        intro x hx
        rw [hacc] at hx
        have := (flatG_perm (sortG_perm des (L.take p) [])).mem_iff.1 hx
        rw [List.nil_append] at this
        have e : flatG L = flatG (L.take p) ++ flatG (L.drop p) := by rw [← flatG_append, List.take_append_drop]
        rw [e]
        exact List.mem_append_left _ this
      have HFin : Hid (∀ nx, insG des L[p] acc = nx → sortG des [] (L.take (p + 1)) = nx ∧ nx.length = p + 1) := by
        intro nx hnx
        rw [take_snoc' hpL, sortG_snoc, ← hacc]
        exact ⟨hnx, by rw [← hnx, insG_length, HAL.out]⟩
      rw [← hacc] at HR3
      obtain ⟨ee, he⟩ : ∃ ee, ee = L[p] := ⟨_, rfl⟩
      have HE := Lib.hid he
      rw [← he] at HFin
      have HEM : Hid (ee.1 ∈ flatG L ∧ ee.2 ∈ flatG L) := by
        have := flatG_get L p hpL
        rw [← he] at this
        exact ⟨List.mem_of_getElem? this.1, List.mem_of_getElem? this.2⟩
      obtain ⟨gl, b5, d5, b6, d6, e5, hr0, hv0⟩ := HH.out.readB (i := p2) (u := val ee.1) (by rw [List.getElem?_map, HP2.out, Nat.mul_comm, (flatG_get L p hpL).1, he]; rfl) (H8.out L (fun _ h => h)) (HD.out _ HEM.out.1)
      obtain ⟨gl', u5, x5, u6, x6, e5', hr1, hv1⟩ := HH.out.readB (i := p2 + 1) (u := val ee.2) (by rw [List.getElem?_map, HP2.out, Nat.mul_comm, (flatG_get L p hpL).2, he]; rfl) (H8.out L (fun _ h => h)) (HD.out _ HEM.out.2)
      subst e5
      obtain rfl : gl = gl' := by injection e5' with e5'; injection e5'
      have HV0 := Lib.hid hv0
      have HV1 := Lib.hid hv1
      have HIe := Lib.hid (HD.out _ HEM.out.1)
      have hr0' : ∀ W, Below w.heap.size w W → RowD W gl (p2 * 8) (des ee.1) b5 d5 b6 d6 := hr0
      have hr1' : ∀ W, Below w.heap.size w W → RowD W gl ((p2 + 1) * 8) (des ee.2) u5 x5 u6 x6 := hr1
      have HRow0 := Lib.hid hr0'
      have HRow1 := Lib.hid hr1'
      clear hacc he hv0 hv1 e5' hr0 hr1 hr0' hr1'
      rw [HV0.out] at HIe
      obtain ⟨x, hx⟩ : ∃ x, x = des ee.1 := ⟨_, rfl⟩
      obtain ⟨y, hy⟩ : ∃ y, y = des ee.2 := ⟨_, rfl⟩
      have HXE := Lib.hid hx
      rw [← hx] at HV0 HIe HRow0
      rw [← hy] at HV1 HRow1
      clear hx hy
      go_wp2_with fail
      go_loopw [5, 6, 7] (fun s5 s6 s7 wq => ∃ (k k2 n5 c5 : Nat) (a5 : Option Addr) (dn : Bool) (nx : List (α × α)), s7 = .int .i64 (k2 : Int) ∧ s6 = .bool dn ∧ s5 = .slice a5 n5 c5 ∧ k2 ≤ n3 ∧ n5 ≤ k2 + 2 ∧ (dn = false → n5 ≤ k2) ∧ Hid (Inner w val des ee acc a3 c3 n3 wq k k2 n5 c5 a5 dn nx)) (fun _ _ s7 _ => n3 - (intOf s7).toNat)
      case atStart => exact ⟨0, 0, 0, 0, none, false, [], rfl, rfl, rfl, by omega, by omega, fun _ => by omega, ⟨rfl, rfl, rfl, ⟨rfl, rfl, .inl ⟨rfl, rfl⟩⟩, (fun g g' h => (by cases h)), HR3.out, HB.out⟩⟩
      case round =>
        obtain ⟨k, k2, n5, c5, a5, dn, nx, rfl, rfl, rfl, hk2, hn5, hdn, HI⟩ := hrel
        by_cases hkn : k2 + 1 < n3
        · have hkn2 : (k2 : Int) + 1 < (n3 : Int) := by omega
          have hka : k < acc.length := by have := HAL.out; have := HN3.out; have := HI.out.k2e; omega
          obtain ⟨f, hf⟩ : ∃ f, f = acc[k] := ⟨_, rfl⟩
          have HF := Lib.hid hf
          have HFM : Hid (f.1 ∈ flatG L ∧ f.2 ∈ flatG L) := by
            have := flatG_get acc k hka
            rw [← hf] at this
            exact ⟨HAM.out _ (List.mem_of_getElem? this.1), HAM.out _ (List.mem_of_getElem? this.2)⟩
          obtain ⟨go, o5, q5, o6, q6, e5, hr0, hv0⟩ := HI.out.r3.read (i := k2) (u := val f.1) (by rw [List.getElem?_map, HI.out.k2e, Nat.mul_comm, (flatG_get acc k hka).1, hf]; rfl) (H8.out acc HAM.out) (HD.out _ HFM.out.1)
          obtain ⟨go', t5, r5, t6, r6, e5', hr1, hv1⟩ := HI.out.r3.read (i := k2 + 1) (u := val f.2) (by rw [List.getElem?_map, HI.out.k2e, Nat.mul_comm, (flatG_get acc k hka).2, hf]; rfl) (H8.out acc HAM.out) (HD.out _ HFM.out.2)
          subst e5
          obtain rfl : go = go' := by injection e5' with e5'; injection e5'
          have HU0 := Lib.hid hv0
          have HU1 := Lib.hid hv1
          have HIf := Lib.hid (HD.out _ HFM.out.1)
          have HRf := Lib.hid hr0
          have HRz := Lib.hid hr1
          obtain ⟨f0, f1, f2, f3, f4, f5, f6, f7⟩ := hr0
          obtain ⟨z0, z1, z2, z3, z4, z5, z6, z7⟩ := hr1
          rw [HU0.out] at HIf
          obtain ⟨cc, hcc⟩ : ∃ cc, cmpD x (des f.1) = cc := ⟨_, rfl⟩
          have HCC := Lib.hid hcc
          clear hf hv0 hv1 e5' hcc
          have p1 : (k2 : Int) < (n3 : Int) := by omega
          have p2' : (p2 : Int) < (N : Int) := by omega
          have g1 : IntKind.i64.wrap ((k2 : Int) + 1) = (k2 : Int) + 1 := by rw [IntKind.wrap_i64]; omega
          have g2 : (0 : Int) ≤ (k2 : Int) + 1 := by omega
          have g3 : ((k2 : Int) + 1).toNat = k2 + 1 := by omega
          have g4 : IntKind.i64.wrap ((p2 : Int) + 1) = (p2 : Int) + 1 := by rw [IntKind.wrap_i64]; omega
          have g5 : (0 : Int) ≤ (p2 : Int) + 1 := by omega
          have g6 : ((p2 : Int) + 1).toNat = p2 + 1 := by omega
          cases dn with
          | true =>
            go_wp2_with fail
            go_quiet (fail)
            have HBz := HI.out.b.size
            have hmx : n5 + 2 ≤ maxLen := by unfold maxLen; omega
            have hbx : (n5 + 2) * 112 ≤ 140737488355328 := by omega
            go_wp2_with fail
            go_region_law (refine step_append_lies _ (by rfl) _ _ _ (by rfl) w.heap.size 26 i26 _ 8 112 Tryz.underlying24 hi26 hz26 hs26 hb26 rfl (by omega) (.slice a5 n5 c5) (n5) _ (by rfl) (((HI.out.drewN (nq + 1)).r5).2.alloc _) ⟨wr.heap.size, 0, none⟩ 2 2 [.int .i64 (des f.1).kind, .string (des f.1).type, .int .u64 (des f.1).bits, .int .u64 (des f.1).imag, .string (des f.1).text, .slice o5 (des f.1).names.length q5, .slice o6 (des f.1).parts.length q6, .int .i64 (des f.1).hook, .int .i64 (des f.2).kind, .string (des f.2).type, .int .u64 (des f.2).bits, .int .u64 (des f.2).imag, .string (des f.2).text, .slice t5 (des f.2).names.length r5, .slice t6 (des f.2).parts.length r6, .int .i64 (des f.2).hook] (by rfl) (by rfl) (World.news_of_block (cs := #[.int .i64 (des f.1).kind, .string (des f.1).type, .int .u64 (des f.1).bits, .int .u64 (des f.1).imag, .string (des f.1).text, .slice o5 (des f.1).names.length q5, .slice o6 (des f.1).parts.length q6, .int .i64 (des f.1).hook, .int .i64 (des f.2).kind, .string (des f.2).type, .int .u64 (des f.2).bits, .int .u64 (des f.2).imag, .string (des f.2).text, .slice t5 (des f.2).names.length r5, .slice t6 (des f.2).parts.length r6, .int .i64 (des f.2).hook]) (t := 26) (fr := (0, 0)) (heap_alloc_new (wr.drewN (nq + 1)) _)) (by simp [Value.oneCell']) (by omega) hmx hbx (by simp; omega) (wr.heap.size + 1) (by simp) ?_; intro gg cap w6 hown6 hgrow6 hat6 hlt6)
            all_goals
              clear g1 g2 g3 g4 g5 g6
              have HStep := Lib.hid ((HI.out.drewN (nq + 1)).step hka (fun h => by cases h) (by rw [← HF.out, HU0.out, HU1.out]; rfl) hown6 hgrow6 hat6)
              go_wp2_with fail
              go_roundw
              case rel => exact ⟨k + 1, k2 + 2, n5 + 2, cap, some ⟨gg, 0, none⟩, true, nx ++ [acc[k]], by go_num, rfl, rfl, by omega, by omega, (fun h => by cases h), HStep.out⟩
              case measure => simp [intOf]; omega
          | false =>
            obtain ⟨m0, m1, m2, m3, m4, m5, m6, m7⟩ := HRow0.out _ HI.out.b
            have HC : Hid (∀ W, Below w.heap.size w W → Calls Tryz.prog 91 #[.agg #[.int .i64 (x).kind, .string (x).type, .int .u64 (x).bits, .int .u64 (x).imag, .string (x).text, .slice b5 (x).names.length d5, .slice b6 (x).parts.length d6, .int .i64 (x).hook], .agg #[.int .i64 (des f.1).kind, .string (des f.1).type, .int .u64 (des f.1).bits, .int .u64 (des f.1).imag, .string (des f.1).text, .slice o5 (des f.1).names.length q5, .slice o6 (des f.1).parts.length q6, .int .i64 (des f.1).hook]] W fun e w' => e = .returned (.int .i64 cc) ∧ Below W.heap.size W w') := by
              intro W hW
              refine (refCmp_any (HIe.out.later hW) (HIf.out.later hW)).mono fun e w' h => ?_
              rw [← HCC.out]
              exact h
            have hn5' := hdn rfl
            by_cases hneg : cc < 0
            · have hneg' : decide (cc < 0) = true := by simpa using hneg
              go_wp2_with fail
              go_region_held3 (fun w' => w'.cell? ⟨gl, p2 * 8, none⟩ = some (.int .i64 x.kind) ∧ w'.cell? ⟨gl, p2 * 8 + 1, none⟩ = some (.string x.type) ∧ w'.cell? ⟨gl, p2 * 8 + 2, none⟩ = some (.int .u64 x.bits) ∧ w'.cell? ⟨gl, p2 * 8 + 3, none⟩ = some (.int .u64 x.imag) ∧ w'.cell? ⟨gl, p2 * 8 + 4, none⟩ = some (.string x.text) ∧ w'.cell? ⟨gl, p2 * 8 + 5, none⟩ = some (.slice b5 x.names.length d5) ∧ w'.cell? ⟨gl, p2 * 8 + 6, none⟩ = some (.slice b6 x.parts.length d6) ∧ w'.cell? ⟨gl, p2 * 8 + 7, none⟩ = some (.int .i64 x.hook) ∧ w'.cell? ⟨go, k2 * 8, none⟩ = some (.int .i64 (des f.1).kind) ∧ w'.cell? ⟨go, k2 * 8 + 1, none⟩ = some (.string (des f.1).type) ∧ w'.cell? ⟨go, k2 * 8 + 2, none⟩ = some (.int .u64 (des f.1).bits) ∧ w'.cell? ⟨go, k2 * 8 + 3, none⟩ = some (.int .u64 (des f.1).imag) ∧ w'.cell? ⟨go, k2 * 8 + 4, none⟩ = some (.string (des f.1).text) ∧ w'.cell? ⟨go, k2 * 8 + 5, none⟩ = some (.slice o5 (des f.1).names.length q5) ∧ w'.cell? ⟨go, k2 * 8 + 6, none⟩ = some (.slice o6 (des f.1).parts.length q6) ∧ w'.cell? ⟨go, k2 * 8 + 7, none⟩ = some (.int .i64 (des f.1).hook)) (first | exact ⟨m0, m1, m2, m3, m4, m5, m6, m7, f0, f1, f2, f3, f4, f5, f6, f7⟩ | (refine ⟨?_, ?_, ?_, ?_, ?_, ?_, ?_, ?_, ?_, ?_, ?_, ?_, ?_, ?_, ?_, ?_⟩ <;> (with_reducible (refine cell_below HBc.out ?_)) <;> assumption)) (first
                | (go_at_call 91; (with_reducible refine (HC.out _ HI.out.b.drew).mono ?_); rintro e w9 ⟨rfl, hBc⟩; have HBc := Lib.hid hBc; clear hBc))
              have HI9 : Hid (Inner w val des ee acc (some ⟨go, 0, none⟩) c3 n3 w9 k k2 n5 c5 a5 false nx) := Lib.hid ((HI.out.drewN 1).below HBc.out)
              clear m0 m1 m2 m3 m4 m5 m6 m7 f0 f1 f2 f3 f4 f5 f6 f7 z0 z1 z2 z3 z4 z5 z6 z7
              (try clear hHeld)
              obtain ⟨m0, m1, m2, m3, m4, m5, m6, m7⟩ := HRow0.out _ HI9.out.b
              obtain ⟨l0, l1, l2, l3, l4, l5, l6, l7⟩ := HRow1.out _ HI9.out.b
              have HBz := HI9.out.b.size
              have hmx : n5 + 2 ≤ maxLen := by unfold maxLen; clear g1 g2 g3 g4 g5 g6; omega
              have hbx : (n5 + 2) * 112 ≤ 140737488355328 := by clear g1 g2 g3 g4 g5 g6; omega
              have hpl := p2'
              go_wp2_with fail
              go_region_law (refine step_append_lies _ (by rfl) _ _ _ (by rfl) w.heap.size 26 i26 _ 8 112 Tryz.underlying24 hi26 hz26 hs26 hb26 rfl (by omega) (.slice a5 n5 c5) (n5) _ (by rfl) (((HI9.out.drewN 1).r5).2.alloc _) ⟨w9.heap.size, 0, none⟩ 2 2 [.int .i64 (x).kind, .string (x).type, .int .u64 (x).bits, .int .u64 (x).imag, .string (x).text, .slice b5 (x).names.length d5, .slice b6 (x).parts.length d6, .int .i64 (x).hook, .int .i64 (y).kind, .string (y).type, .int .u64 (y).bits, .int .u64 (y).imag, .string (y).text, .slice u5 (y).names.length x5, .slice u6 (y).parts.length x6, .int .i64 (y).hook] (by rfl) (by rfl) (World.news_of_block (cs := #[.int .i64 (x).kind, .string (x).type, .int .u64 (x).bits, .int .u64 (x).imag, .string (x).text, .slice b5 (x).names.length d5, .slice b6 (x).parts.length d6, .int .i64 (x).hook, .int .i64 (y).kind, .string (y).type, .int .u64 (y).bits, .int .u64 (y).imag, .string (y).text, .slice u5 (y).names.length x5, .slice u6 (y).parts.length x6, .int .i64 (y).hook]) (t := 26) (fr := (0, 0)) (heap_alloc_new (w9.drew) _)) (by simp [Value.oneCell']) (by omega) hmx hbx (by simp; omega) (w9.heap.size + 1) (by simp) ?_; intro gg cap w6 hown6 hgrow6 hat6 hlt6)
              all_goals
                clear m0 m1 m2 m3 m4 m5 m6 m7 l0 l1 l2 l3 l4 l5 l6 l7 HBz hmx hbx hpl hlt6
                have HP9 := Lib.hid ((HI9.out.drewN 1).put (by rw [drop_cons hka, insG, if_pos (by rw [← HF.out, ← HXE.out, HCC.out]; exact hneg)]) (by rw [HV0.out, HV1.out]; rfl) hown6 hgrow6 hat6)
                obtain ⟨f0, f1, f2, f3, f4, f5, f6, f7⟩ := HP9.out.r3.readAt (i := k2) (by rw [List.getElem?_map, HI.out.k2e, Nat.mul_comm, (flatG_get acc k hka).1, ← HF.out]; rfl) (H8.out acc HAM.out) HU0.out
                obtain ⟨z0, z1, z2, z3, z4, z5, z6, z7⟩ := HP9.out.r3.readAt (i := k2 + 1) (by rw [List.getElem?_map, HI.out.k2e, Nat.mul_comm, (flatG_get acc k hka).2, ← HF.out]; rfl) (H8.out acc HAM.out) HU1.out
                have HBz := HP9.out.b.size
                have hmxb : n5 + 2 + 2 ≤ maxLen := by unfold maxLen; clear g1 g2 g3 g4 g5 g6; omega
                have hbxb : (n5 + 2 + 2) * 112 ≤ 140737488355328 := by clear g1 g2 g3 g4 g5 g6; omega
                clear hown6 hgrow6 hat6
                go_wp2_with fail
                go_region_law (refine step_append_lies _ (by rfl) _ _ _ (by rfl) w.heap.size 26 i26 _ 8 112 Tryz.underlying24 hi26 hz26 hs26 hb26 rfl (by omega) (.slice (some ⟨gg, 0, none⟩) (n5 + 2) cap) (n5 + 2) _ (by rfl) (((HP9.out.drewN 1).r5).2.alloc _) ⟨w6.heap.size, 0, none⟩ 2 2 [.int .i64 (des f.1).kind, .string (des f.1).type, .int .u64 (des f.1).bits, .int .u64 (des f.1).imag, .string (des f.1).text, .slice o5 (des f.1).names.length q5, .slice o6 (des f.1).parts.length q6, .int .i64 (des f.1).hook, .int .i64 (des f.2).kind, .string (des f.2).type, .int .u64 (des f.2).bits, .int .u64 (des f.2).imag, .string (des f.2).text, .slice t5 (des f.2).names.length r5, .slice t6 (des f.2).parts.length r6, .int .i64 (des f.2).hook] (by rfl) (by rfl) (World.news_of_block (cs := #[.int .i64 (des f.1).kind, .string (des f.1).type, .int .u64 (des f.1).bits, .int .u64 (des f.1).imag, .string (des f.1).text, .slice o5 (des f.1).names.length q5, .slice o6 (des f.1).parts.length q6, .int .i64 (des f.1).hook, .int .i64 (des f.2).kind, .string (des f.2).type, .int .u64 (des f.2).bits, .int .u64 (des f.2).imag, .string (des f.2).text, .slice t5 (des f.2).names.length r5, .slice t6 (des f.2).parts.length r6, .int .i64 (des f.2).hook]) (t := 26) (fr := (0, 0)) (heap_alloc_new (w6.drew) _)) (by simp [Value.oneCell']) (by omega) hmxb hbxb (by simp; omega) (w6.heap.size + 1) (by simp) ?_; intro ggb capb w6b hown6b hgrow6b hat6b hlt6b)
                all_goals
                  clear g1 g2 g3 g4 g5 g6
                  have HStep := Lib.hid ((HP9.out.drewN 1).step hka (fun h => by cases h) (by rw [← HF.out, HU0.out, HU1.out]; rfl) hown6b hgrow6b hat6b)
                  go_wp2_with fail
                  go_roundw
                  case rel => exact ⟨k + 1, k2 + 2, n5 + 2 + 2, capb, some ⟨ggb, 0, none⟩, true, nx ++ [ee] ++ [acc[k]], by go_num, rfl, rfl, by omega, by omega, (fun h => by cases h), HStep.out⟩
                  case measure => simp [intOf]; omega
            · have hneg' : decide (cc < 0) = false := by simpa using hneg
              go_wp2_with fail
              go_region_held3 (fun w' => w'.cell? ⟨gl, p2 * 8, none⟩ = some (.int .i64 x.kind) ∧ w'.cell? ⟨gl, p2 * 8 + 1, none⟩ = some (.string x.type) ∧ w'.cell? ⟨gl, p2 * 8 + 2, none⟩ = some (.int .u64 x.bits) ∧ w'.cell? ⟨gl, p2 * 8 + 3, none⟩ = some (.int .u64 x.imag) ∧ w'.cell? ⟨gl, p2 * 8 + 4, none⟩ = some (.string x.text) ∧ w'.cell? ⟨gl, p2 * 8 + 5, none⟩ = some (.slice b5 x.names.length d5) ∧ w'.cell? ⟨gl, p2 * 8 + 6, none⟩ = some (.slice b6 x.parts.length d6) ∧ w'.cell? ⟨gl, p2 * 8 + 7, none⟩ = some (.int .i64 x.hook) ∧ w'.cell? ⟨go, k2 * 8, none⟩ = some (.int .i64 (des f.1).kind) ∧ w'.cell? ⟨go, k2 * 8 + 1, none⟩ = some (.string (des f.1).type) ∧ w'.cell? ⟨go, k2 * 8 + 2, none⟩ = some (.int .u64 (des f.1).bits) ∧ w'.cell? ⟨go, k2 * 8 + 3, none⟩ = some (.int .u64 (des f.1).imag) ∧ w'.cell? ⟨go, k2 * 8 + 4, none⟩ = some (.string (des f.1).text) ∧ w'.cell? ⟨go, k2 * 8 + 5, none⟩ = some (.slice o5 (des f.1).names.length q5) ∧ w'.cell? ⟨go, k2 * 8 + 6, none⟩ = some (.slice o6 (des f.1).parts.length q6) ∧ w'.cell? ⟨go, k2 * 8 + 7, none⟩ = some (.int .i64 (des f.1).hook)) (first | exact ⟨m0, m1, m2, m3, m4, m5, m6, m7, f0, f1, f2, f3, f4, f5, f6, f7⟩ | (refine ⟨?_, ?_, ?_, ?_, ?_, ?_, ?_, ?_, ?_, ?_, ?_, ?_, ?_, ?_, ?_, ?_⟩ <;> (with_reducible (refine cell_below HBc.out ?_)) <;> assumption)) (first
                | (go_at_call 91; (with_reducible refine (HC.out _ HI.out.b.drew).mono ?_); rintro e w9 ⟨rfl, hBc⟩; have HBc := Lib.hid hBc; clear hBc))
              have HI9 : Hid (Inner w val des ee acc (some ⟨go, 0, none⟩) c3 n3 w9 k k2 n5 c5 a5 false nx) := Lib.hid ((HI.out.drewN 1).below HBc.out)
              clear m0 m1 m2 m3 m4 m5 m6 m7 f0 f1 f2 f3 f4 f5 f6 f7 z0 z1 z2 z3 z4 z5 z6 z7
              (try clear hHeld)
              obtain ⟨f0, f1, f2, f3, f4, f5, f6, f7⟩ := HRf.out.below (((Below.refl _ _).drew).next HBc.out)
              obtain ⟨z0, z1, z2, z3, z4, z5, z6, z7⟩ := HRz.out.below (((Below.refl _ _).drew).next HBc.out)
              have HBz := HI9.out.b.size
              have hmx : n5 + 2 ≤ maxLen := by unfold maxLen; clear g1 g2 g3 g4 g5 g6; omega
              have hbx : (n5 + 2) * 112 ≤ 140737488355328 := by clear g1 g2 g3 g4 g5 g6; omega
              go_wp2_with fail
              go_region_law (refine step_append_lies _ (by rfl) _ _ _ (by rfl) w.heap.size 26 i26 _ 8 112 Tryz.underlying24 hi26 hz26 hs26 hb26 rfl (by omega) (.slice a5 n5 c5) (n5) _ (by rfl) (((HI9.out.drewN 1).r5).2.alloc _) ⟨w9.heap.size, 0, none⟩ 2 2 [.int .i64 (des f.1).kind, .string (des f.1).type, .int .u64 (des f.1).bits, .int .u64 (des f.1).imag, .string (des f.1).text, .slice o5 (des f.1).names.length q5, .slice o6 (des f.1).parts.length q6, .int .i64 (des f.1).hook, .int .i64 (des f.2).kind, .string (des f.2).type, .int .u64 (des f.2).bits, .int .u64 (des f.2).imag, .string (des f.2).text, .slice t5 (des f.2).names.length r5, .slice t6 (des f.2).parts.length r6, .int .i64 (des f.2).hook] (by rfl) (by rfl) (World.news_of_block (cs := #[.int .i64 (des f.1).kind, .string (des f.1).type, .int .u64 (des f.1).bits, .int .u64 (des f.1).imag, .string (des f.1).text, .slice o5 (des f.1).names.length q5, .slice o6 (des f.1).parts.length q6, .int .i64 (des f.1).hook, .int .i64 (des f.2).kind, .string (des f.2).type, .int .u64 (des f.2).bits, .int .u64 (des f.2).imag, .string (des f.2).text, .slice t5 (des f.2).names.length r5, .slice t6 (des f.2).parts.length r6, .int .i64 (des f.2).hook]) (t := 26) (fr := (0, 0)) (heap_alloc_new (w9.drew) _)) (by simp [Value.oneCell']) (by omega) hmx hbx (by simp; omega) (w9.heap.size + 1) (by simp) ?_; intro gg cap w6 hown6 hgrow6 hat6 hlt6)
              all_goals
                clear g1 g2 g3 g4 g5 g6
                have HStep := Lib.hid ((HI9.out.drewN 1).step hka (fun _ => by rw [← HF.out, ← HXE.out, HCC.out]; exact fun h => absurd h (by omega)) (by rw [← HF.out, HU0.out, HU1.out]; rfl) hown6 hgrow6 hat6)
                go_wp2_with fail
                go_roundw
                case rel => exact ⟨k + 1, k2 + 2, n5 + 2, cap, some ⟨gg, 0, none⟩, false, nx ++ [acc[k]], by go_num, rfl, rfl, by omega, by omega, (fun _ => by omega), HStep.out⟩
                case measure => simp [intOf]; omega
        · have hke : k = acc.length := by have := HI.out.k2e; have := HAL.out; have := HN3.out; omega
          have hge : ¬ (k2 : Int) + 1 < (n3 : Int) := by omega
          have g4 : IntKind.i64.wrap ((p2 : Int) + 1) = (p2 : Int) + 1 := by rw [IntKind.wrap_i64]; omega
          have g5 : (0 : Int) ≤ (p2 : Int) + 1 := by omega
          have g6 : ((p2 : Int) + 1).toNat = p2 + 1 := by omega
          have p2' : (p2 : Int) < (N : Int) := by omega
          cases dn with
          | true =>
            have HNx : Hid (insG des ee acc = nx) := by
              have := HI.out.ins
              rw [if_pos rfl, hke, List.drop_length, List.append_nil] at this
              exact Lib.hid this
            clear g4 g5 g6
            go_wp2_with fail
            obtain ⟨q1, q2⟩ := HFin.out nx HNx.out
            have q3 := HI.out.n5e
            have q4 := HP2.out
            have q5 := HN.out
            refine ⟨⟨p + 1, p2 + 2, n5, c5, a5, by go_num, rfl, by omega, by omega, by show _ = _; omega, by show _ = _; omega, ?_, HI.out.b⟩, by simp [intOf]; omega⟩
            show RowV _ _ _ _ _ _
            rw [q1]
            exact HI.out.r5
          | false =>
            have HNx : Hid (insG des ee acc = nx ++ [ee]) := by
              have := HI.out.ins
              rw [if_neg (by simp), hke, List.drop_length] at this
              exact Lib.hid this
            obtain ⟨m0, m1, m2, m3, m4, m5, m6, m7⟩ := HRow0.out _ HI.out.b
            obtain ⟨l0, l1, l2, l3, l4, l5, l6, l7⟩ := HRow1.out _ HI.out.b
            have HBz := HI.out.b.size
            have hn5' := hdn rfl
            have hmx : n5 + 2 ≤ maxLen := by unfold maxLen; clear g4 g5 g6; omega
            have hbx : (n5 + 2) * 112 ≤ 140737488355328 := by clear g4 g5 g6; omega
            go_wp2_with fail
            go_region_law (refine step_append_lies _ (by rfl) _ _ _ (by rfl) w.heap.size 26 i26 _ 8 112 Tryz.underlying24 hi26 hz26 hs26 hb26 rfl (by omega) (.slice a5 n5 c5) (n5) _ (by rfl) (((HI.out.drewN 1).r5).2.alloc _) ⟨wr.heap.size, 0, none⟩ 2 2 [.int .i64 (x).kind, .string (x).type, .int .u64 (x).bits, .int .u64 (x).imag, .string (x).text, .slice b5 (x).names.length d5, .slice b6 (x).parts.length d6, .int .i64 (x).hook, .int .i64 (y).kind, .string (y).type, .int .u64 (y).bits, .int .u64 (y).imag, .string (y).text, .slice u5 (y).names.length x5, .slice u6 (y).parts.length x6, .int .i64 (y).hook] (by rfl) (by rfl) (World.news_of_block (cs := #[.int .i64 (x).kind, .string (x).type, .int .u64 (x).bits, .int .u64 (x).imag, .string (x).text, .slice b5 (x).names.length d5, .slice b6 (x).parts.length d6, .int .i64 (x).hook, .int .i64 (y).kind, .string (y).type, .int .u64 (y).bits, .int .u64 (y).imag, .string (y).text, .slice u5 (y).names.length x5, .slice u6 (y).parts.length x6, .int .i64 (y).hook]) (t := 26) (fr := (0, 0)) (heap_alloc_new (wr.drew) _)) (by simp [Value.oneCell']) (by omega) hmx hbx (by simp; omega) (wr.heap.size + 1) (by simp) ?_; intro gg cap w6 hown6 hgrow6 hat6 hlt6)
            all_goals
              clear g4 g5 g6 m0 m1 m2 m3 m4 m5 m6 m7 l0 l1 l2 l3 l4 l5 l6 l7
              have HP9 := Lib.hid ((HI.out.drewN 1).put (by rw [hke, List.drop_length]; rfl) (by rw [HV0.out, HV1.out]; rfl) hown6 hgrow6 hat6)
              clear hown6 hgrow6 hat6
              go_wp2_with fail
              obtain ⟨q1, q2⟩ := HFin.out _ HNx.out
              have q3 := HP9.out.n5e
              have q4 := HP2.out
              have q5 := HN.out
              refine ⟨⟨p + 1, p2 + 2, n5 + 2, cap, some ⟨gg, 0, none⟩, by go_num, rfl, by omega, by omega, by show _ = _; omega, by show _ = _; omega, ?_, HP9.out.b⟩, by simp [intOf]; omega⟩
              show RowV _ _ _ _ _ _
              rw [q1]
              exact HP9.out.r5
    · go_wp2_with fail
      go_ret
      have q1 := HN.out
      have q2 := HP2.out
      have q3 := HN3.out
      have e1 : L.take p = L := List.take_of_length_le (by omega)
      have e2 : 2 * (sortG des [] L).length = n3 := by rw [sortG_length]; simp; omega
      have hr := HR3.out
      rw [e1] at hr
      refine ⟨HB.out, a3, c3, ?_, ?_⟩
      · rw [e2]; rfl
      · rw [e2]; exact hr
end Go.Proofs.YtkpfeodffhfejaaGreatDoor
