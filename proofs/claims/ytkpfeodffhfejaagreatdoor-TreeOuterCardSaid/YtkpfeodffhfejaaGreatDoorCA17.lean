/- The library's stable sort at a map's entries: fewer than 40. -/
import Derived.Test.YtkpfeodffhfejaaGreatDoorCA16
import Derived.Test.YtkpfeodffhfejaaGreatDoorCA12
import Derived.Test.YtkpfeodffhfejaaGreatDoorCA14
namespace Go.Proofs.YtkpfeodffhfejaaGreatDoor
set_option linter.unusedVariables false
set_option maxRecDepth 1000000
open Go.RowKit

set_option maxHeartbeats 16000000 in
set_option maxRecDepth 100000 in
theorem stable_any {W0 : World} {B g n cap : Nat} (f : Nat → Ent) (w : World) (h : St W0 B g n f w) (hok : OkE n f) (hn : n < 40) :
    Calls Tryz.prog 111 #[.slice (some ⟨g, 0, none⟩) n cap, .int .i64 n, .func (.func 87) #[] #[]] w (SortPost W0 B g n f 0 n) := by
  have HS : Hid (InsAt W0 B g n f 0 n f w) := .mk' h hok
  have hn' : n < 1000 := by omega
  clear h hok
  go_enter Tryz.func111, Tryz.ntmps111
  go_wp2_with fail
  go_loopw [7, 8] (fun va vb wr => ∃ (k : Nat) (q : Nat → Ent), va = .int .i64 ((k * 20 : Nat) : Int) ∧ vb = .int .i64 ((k * 20 + 20 : Nat) : Int) ∧ k ≤ 1 ∧ Hid (k = 1 → 20 ≤ n ∧ Srt ltE q 0 20) ∧ Hid (InsAt W0 B g n f 0 n q wr)) (fun va _ _ => 40 - (intOf va).toNat)
  case atStart => exact ⟨0, f, rfl, rfl, by omega, fun h => by omega, HS.out⟩
  case round =>
    obtain ⟨k, q, rfl, rfl, hk, HK, HI⟩ := hrel
    by_cases hk0 : k = 0
    · subst hk0
      by_cases h20 : 20 ≤ n
      · have h20' : (20 : Int) ≤ (n : Int) := by omega
        go_wp2_with fail
        refine (insertion_any q 0 20 cap _ HI.out.st HI.out.ok (by omega) (by omega) hn').mono ?_
        rintro e w1 ⟨rfl, q1, k1, k2, k3, k4⟩
        have K1 := Lib.hid k1
        have K2 := Lib.hid k2
        have K3 := Lib.hid k3
        have K4 := Lib.hid k4
        clear k1 k2 k3 k4
        go_wp2_with fail
        go_roundw
        case rel => exact ⟨1, q1, rfl, rfl, by omega, fun _ => ⟨h20, K4.out⟩, HI.out.further K1.out K2.out K3.out (Nat.le_refl _) (by omega) (Nat.le_refl _)⟩
        case measure => simp [intOf]
      · have h20' : ¬ (20 : Int) ≤ (n : Int) := by omega
        go_wp2_with fail
        refine (insertion_any q 0 n cap _ HI.out.st HI.out.ok (by omega) (by omega) hn').mono ?_
        rintro e w1 ⟨rfl, q1, k1, k2, k3, k4⟩
        have K1 := Lib.hid k1
        have K2 := Lib.hid k2
        have K3 := Lib.hid k3
        have K4 := Lib.hid k4
        clear k1 k2 k3 k4
        have hl : ¬ (20 : Int) < (n : Int) := by omega
        go_wp2_with fail
        go_loopw [6, 7, 8, 9] (fun v6 _ _ _ wr => v6 = .int .i64 20 ∧ Hid (InsAt W0 B g n f 0 n q1 wr)) (fun _ _ _ _ _ => 0)
        case atStart => exact ⟨rfl, HI.out.further K1.out K2.out K3.out (Nat.le_refl _) (Nat.le_refl _) (Nat.le_refl _)⟩
        case round =>
          obtain ⟨rfl, HI⟩ := hrel
          go_wp2_with fail
          go_end0
          exact ⟨rfl, q1, HI.out.st, HI.out.mx, HI.out.pm, K4.out⟩
    · obtain rfl : k = 1 := by omega
      obtain ⟨h20, HS20⟩ := HK.out rfl
      have HSS := Lib.hid HS20
      clear HS20
      have h40 : ¬ (40 : Int) ≤ (n : Int) := by omega
      go_wp2_with fail
      refine (insertion_any q 20 n cap _ HI.out.st HI.out.ok (by omega) (by omega) hn').mono ?_
      rintro e w1 ⟨rfl, q1, k1, k2, k3, k4⟩
      have K1 := Lib.hid k1
      have K2 := Lib.hid k2
      have K3 := Lib.hid k3
      have K4 := Lib.hid k4
      clear k1 k2 k3 k4
      go_wp2_with fail
      go_loopw [6, 7, 8, 9] (fun v6 _ _ _ wr => ∃ (k : Nat) (p : Nat → Ent), v6 = .int .i64 ((k * 20 : Nat) : Int) ∧ (k = 1 ∨ k = 2) ∧ Hid (k = 1 → Srt ltE p 0 20 ∧ Srt ltE p 20 n) ∧ Hid (k = 2 → Srt ltE p 0 n) ∧ Hid (InsAt W0 B g n f 0 n p wr)) (fun v6 _ _ _ _ => 60 - (intOf v6).toNat)
      case atStart =>
        exact ⟨1, q1, rfl, .inl rfl, fun _ => ⟨HSS.out.congr fun k x y => K2.out.1 k (by omega), K4.out⟩, fun h => by omega, HI.out.further K1.out K2.out K3.out (by omega) (Nat.le_refl _) (Nat.le_refl _)⟩
      case round =>
        obtain ⟨k, p, rfl, hk, HA, HB, HI⟩ := hrel
        by_cases hk1 : k = 1
        · subst hk1
          obtain ⟨s1, s2⟩ := HA.out rfl
          have S1 := Lib.hid s1
          have S2 := Lib.hid s2
          clear s1 s2
          by_cases hlt : 20 < n
          · have hlt' : (20 : Int) < (n : Int) := by omega
            go_wp2_with fail
            go_loopw [7, 8] (fun va vb wr => va = .int .i64 0 ∧ vb = .int .i64 40 ∧ Hid (InsAt W0 B g n f 0 n p wr)) (fun _ _ _ => 0)
            case atStart => exact ⟨rfl, rfl, HI.out⟩
            case round =>
              obtain ⟨rfl, rfl, HI⟩ := hrel
              go_wp2_with fail
              refine (merge_any hn' n p 0 20 n _ (by omega) HI.out.st HI.out.ok (by omega) hlt (Nat.le_refl _) S1.out S2.out).mono ?_
              rintro e w1 ⟨rfl, q2, k1, k2, k3, k4⟩
              have K1 := Lib.hid k1
              have K2 := Lib.hid k2
              have K3 := Lib.hid k3
              have K4 := Lib.hid k4
              clear k1 k2 k3 k4
              go_wp2_with fail
              go_roundw
              case rel => exact ⟨2, q2, rfl, .inr rfl, fun h => by omega, fun _ => K4.out, HI.out.further K1.out K2.out K3.out (Nat.le_refl _) (Nat.le_refl _) (Nat.le_refl _)⟩
              case measure => simp [intOf]
          · have hlt' : ¬ (20 : Int) < (n : Int) := by omega
            have hn20 : n = 20 := by omega
            have HN := Lib.hid hn20
            clear hn20
            go_wp2_with fail
            go_end0
            exact ⟨rfl, p, HI.out.st, HI.out.mx, HI.out.pm, by rw [HN.out]; exact S1.out⟩
        · obtain rfl : k = 2 := by omega
          have hlt' : ¬ (40 : Int) < (n : Int) := by omega
          go_wp2_with fail
          go_end0
          exact ⟨rfl, p, HI.out.st, HI.out.mx, HI.out.pm, HB.out trivial⟩

theorem sort_any {W0 : World} {B g n cap : Nat} (f : Nat → Ent) (w : World) (h : St W0 B g n f w) (hok : OkE n f) (hn : n < 40) :
    Calls Tryz.prog 86 #[.slice (some ⟨g, 0, none⟩) n cap, .func (.func 87) #[] #[]] w (SortPost W0 B g n f 0 n) := by
  have HS := Lib.hid h
  have HO := Lib.hid hok
  clear h hok
  go_enter Tryz.func86, Tryz.ntmps86
  go_wp2_with fail
  refine (stable_any f _ HS.out HO.out hn).mono ?_
  rintro e w1 ⟨rfl, k1⟩
  have K1 := Lib.hid k1
  clear k1
  go_wp2_with fail
  go_end0
  exact ⟨rfl, K1.out⟩
/-- A slice without entries. -/
theorem insertion_none {a : Option Addr} {cap : Nat} (w : World) : Calls Tryz.prog 136 #[.slice a 0 cap, .int .i64 0, .int .i64 0, .func (.func 87) #[] #[]] w fun e w' => e = .returned (.tuple #[]) ∧ w' = w := by
  go_enter Tryz.func136, Tryz.ntmps136
  go_wp2_with fail
  go_loopw [8, 9] (fun vi vj wr => vi = .int .i64 1 ∧ wr = w) (fun _ _ _ => 0)
  case atStart => exact ⟨rfl, rfl⟩
  case round =>
    obtain ⟨rfl, rfl⟩ := hrel
    go_wp2_with fail
    go_end0
    exact ⟨rfl, rfl⟩
theorem stable_none {a : Option Addr} {cap : Nat} (w : World) : Calls Tryz.prog 111 #[.slice a 0 cap, .int .i64 0, .func (.func 87) #[] #[]] w fun e w' => e = .returned (.tuple #[]) ∧ w' = w := by
  go_enter Tryz.func111, Tryz.ntmps111
  go_wp2_with fail
  go_loopw [7, 8] (fun va vb wr => va = .int .i64 0 ∧ vb = .int .i64 20 ∧ wr = w) (fun _ _ _ => 0)
  case atStart => exact ⟨rfl, rfl, rfl⟩
  case round =>
    obtain ⟨rfl, rfl, rfl⟩ := hrel
    go_wp2_with fail
    refine (insertion_none _).mono ?_
    rintro e w1 ⟨rfl, rfl⟩
    go_wp2_with fail
    go_loopw [6, 7, 8, 9] (fun v6 _ _ _ wr => v6 = .int .i64 20 ∧ wr = w1) (fun _ _ _ _ _ => 0)
    case atStart => exact ⟨rfl, rfl⟩
    case round =>
      obtain ⟨rfl, rfl⟩ := hrel
      go_wp2_with fail
      go_end0
      exact ⟨rfl, rfl⟩
theorem sort_none {a : Option Addr} {cap : Nat} (w : World) : Calls Tryz.prog 86 #[.slice a 0 cap, .func (.func 87) #[] #[]] w fun e w' => e = .returned (.tuple #[]) ∧ w' = w := by
  go_enter Tryz.func86, Tryz.ntmps86
  go_wp2_with fail
  refine (stable_none w).mono ?_
  rintro e w1 ⟨rfl, rfl⟩
  go_wp2_with fail
  go_end0
  exact ⟨rfl, rfl⟩
end Go.Proofs.YtkpfeodffhfejaaGreatDoor

/- Entries in a row of the call's own. No condition. -/
namespace Go.Proofs.YtkpfeodffhfejaaGreatDoor
set_option linter.unusedVariables false
set_option maxRecDepth 1000000
open Go.RowKit

/-- A step of a region that ends the call. -/
theorem step_false {c : Prop} [Decidable c] {A B : Prop} (h : A) (hc : c) (hK : False → B) : if c then A else B := by rw [if_pos hc]; exact h

theorem mkL_get : ∀ {l : List D} {xs : List V}, mkL l = some xs → ∀ i (h : i < l.length) (h' : i < xs.length), mkV l[i] = some xs[i]
  | [], xs, h, i, hi, _ => by simp at hi
  | x :: l, xs, h, i, hi, hi' => by
    unfold mkL at h
    cases hx : mkV x with
    | none => rw [hx] at h; cases h
    | some y =>
      rw [hx] at h
      cases hl : mkL l with
      | none => rw [hl] at h; cases h
      | some ys =>
        rw [hl] at h
        simp only [Option.some.injEq] at h
        subst h
        cases i with
        | zero => exact hx
        | succ i => exact mkL_get hl i (by simpa using hi) (by simpa using hi')
theorem keysL_get : ∀ (l : List D), keysL l = true → ∀ i (h : i * 2 < l.length), keyK l[i * 2].kind = true
  | [], _, i, h => by simp at h
  | [x], hk, 0, h => hk
  | [x], hk, i + 1, h => by simp only [List.length_cons, List.length_nil] at h; omega
  | x :: y :: l, hk, 0, h => by simp only [keysL, Bool.and_eq_true] at hk; exact hk.1
  | x :: y :: l, hk, i + 1, h => by
    simp only [keysL, Bool.and_eq_true] at hk
    have e : (i + 1) * 2 = i * 2 + 1 + 1 := by omega
    have := keysL_get l hk.2 i (by simp only [List.length_cons] at h; omega)
    simp only [e, List.getElem_cons_succ]
    exact this
/-- A key's value is a leaf of its kind. -/
theorem leaf_of_key {d : D} (h : keyK d.kind = true) : ∃ l, mkV d = some (.leaf l) ∧ (V.leaf l).ok ∧ l.base = d.base := by
  simp only [keyK, decide_eq_true_eq] at h
  rw [mkV_leaf (by omega)]
  unfold leafV
  by_cases h1 : d.kind = 1
  · rw [if_neg (by omega), if_pos h1]; exact ⟨_, rfl, h1, rfl⟩
  · by_cases h2 : d.kind ≤ 6
    · rw [if_neg (by omega), if_neg h1, if_pos h2]; exact ⟨_, rfl, ⟨by show 2 ≤ d.kind; omega, h2⟩, rfl⟩
    · by_cases h3 : d.kind ≤ 11
      · rw [if_neg (by omega), if_neg h1, if_neg h2, if_pos h3]; exact ⟨_, rfl, ⟨by show 7 ≤ d.kind; omega, h3⟩, rfl⟩
      · rw [if_neg (by omega), if_neg h1, if_neg h2, if_neg h3, if_neg (by omega), if_neg (by omega), if_neg (by omega), if_neg (by omega), if_pos (by omega)]
        exact ⟨_, rfl, by show d.kind = 16; omega, rfl⟩
theorem isVF_leaf {S : Nat → Prop} {w : World} {v : Value} {l : Leaf} (h : IsVF S w v (.leaf l)) : v = l.val := by cases h; rfl

/-- An entry and its plain pair. -/
def EntIs (S : Nat → Prop) (w : World) (e : Ent) (p : V × V) : Prop := p.1 = .leaf e.k ∧ (V.leaf e.k).ok ∧ IsVF S w (.iface e.t e.y) p.2

theorem keys_of {w0 : World} {v : Value} {us : List Value} {xs : List V} {w : World} (h : Vals w0 v us xs w) {m : Nat} (hm : us.length = m * 2) {ps : List D} (hmk : mkL ps = some xs) (hk : keysL ps = true) :
    ∃ f : Nat → Ent, (∀ j, j < m → us[j * 2]? = some (.iface (f j).k.ty (f j).k.body) ∧ us[j * 2 + 1]? = some (.iface (f j).t (f j).y)) ∧
      ((pairs xs).length = m ∧ ∀ j (hj : j < m) (hj' : j < (pairs xs).length), EntIs (Rest w0 v w) w (f j) (pairs xs)[j]) := by
  have hln := h.len
  have hpl : ps.length = xs.length := (mkL_length ps hmk).symm
  have hpm : (pairs xs).length = m := pairs_length m xs (by omega)
  have key : ∀ j, ∃ e : Ent, j < m → (us[j * 2]? = some (.iface e.k.ty e.k.body) ∧ us[j * 2 + 1]? = some (.iface e.t e.y)) ∧ ∀ hj' : j < (pairs xs).length, EntIs (Rest w0 v w) w e (pairs xs)[j] := by
    intro j
    by_cases hj : j < m
    · have h1 : j * 2 < us.length := by omega
      have h2 : j * 2 + 1 < us.length := by omega
      obtain ⟨l, e1, e2, _⟩ := leaf_of_key (keysL_get ps hk j (by omega))
      have e3 := mkL_get hmk (j * 2) (by omega) (by omega)
      rw [e1] at e3
      injection e3 with e3
      have q1 := h.val (j * 2) h1 (by omega)
      rw [← e3] at q1
      obtain ⟨t, y, ht⟩ := h.iface us[j * 2 + 1] (List.getElem_mem _)
      have q2 := h.val (j * 2 + 1) h2 (by omega)
      rw [ht] at q2
      refine ⟨⟨l, t, y⟩, fun _ => ⟨⟨?_, ?_⟩, fun hj' => ?_⟩⟩
      · rw [List.getElem?_eq_getElem h1, isVF_leaf q1, Leaf.val_eq]
      · rw [List.getElem?_eq_getElem h2, ht]
      · obtain ⟨g1, g2⟩ := pairs_get m xs (by omega) j hj hj'
        rw [List.getElem?_eq_getElem (by omega)] at g1 g2
        injection g1 with g1
        injection g2 with g2
        exact ⟨by rw [← g1, e3], e2, by rw [← g2]; exact q2⟩
    · exact ⟨⟨.bool ⟨0, ⟨#[]⟩, 0⟩ false, 0, undef⟩, fun h => absurd h hj⟩
  refine ⟨fun j => (key j).choose, fun j hj => ((key j).choose_spec hj).1, hpm, fun j hj hj' => ((key j).choose_spec hj).2 hj'⟩

/-- What holds of the entries' row and of the box of the map. -/
structure MInv (w0 : World) (d : D) (us : List Value) (j : Nat) (v : Value) (w : World) : Prop where
  s0 : w.cell? ⟨w0.heap.size, 0, none⟩ = some (.int .i64 d.kind)
  s1 : w.cell? ⟨w0.heap.size, 1, none⟩ = some (.string d.type)
  s2 : w.cell? ⟨w0.heap.size, 2, none⟩ = some (.int .i64 d.hook)
  s3 : w.cell? ⟨w0.heap.size, 3, none⟩ = some v
  f3 : w.frozen? ⟨w0.heap.size, 3, none⟩ = false
  row : w.ownsRow (w0.heap.size + 1) 119 2 v j (us.take (j * 2))
  lo : Below w0.heap.size w0 w
theorem MInv.start (w0 : World) (d : D) (us : List Value) : MInv w0 d us 0 (.slice none 0 0) (w0.alloc (.cells #[.int .i64 d.kind, .string d.type, .int .i64 d.hook, .slice none 0 0] 104)) where
  s0 := by simp
  s1 := by simp
  s2 := by simp
  s3 := by simp
  f3 := by simp
  row := ⟨by simp, .inl ⟨rfl, rfl⟩⟩
  lo := Below.new _
/-- One entry more. -/
theorem MInv.next {w0 w W5 w6 : World} {d : D} {us : List Value} {j : Nat} {v : Value} (h : MInv w0 d us j v w) (hj : j * 2 + 1 < us.length) {u1 u2 : Value} (h1 : us[j * 2]? = some u1) (h2 : us[j * 2 + 1]? = some u2)
    (hb5 : Below w.heap.size w W5) {g cap : Nat} (hr : w6.ownsRow (w0.heap.size + 1) 119 2 (.slice (some ⟨g, 0, none⟩) (j + 1) cap) (j + 1) (us.take (j * 2) ++ [u1, u2])) (hg6 : W5.grownBy w6 v.ownBlock) :
    MInv w0 d us (j + 1) (.slice (some ⟨g, 0, none⟩) (j + 1) cap) (w6.setCell ⟨w0.heap.size, 3, none⟩ (.slice (some ⟨g, 0, none⟩) (j + 1) cap)) := by
  have hS : w0.heap.size < w.heap.size := World.block_lt_of_cell? w _ h.s3
  have hz : w.heap.size ≤ W5.heap.size := hb5.size
  have nb : v.ownBlock ≠ some w0.heap.size := fun e => by have := h.row.lt _ e; omega
  have bS : w6.heap[w0.heap.size]? = w.heap[w0.heap.size]? := by
    rw [hg6.block _ (by omega) (fun e => nb e.symm), hb5.block _ hS]
  have hg : w0.heap.size + 1 ≤ g := (hr.lt g rfl).1
  have c3 : (w6.cell? ⟨w0.heap.size, 3, none⟩).isSome = true := by rw [cell_block bS h.s3]; rfl
  have ht : us.take ((j + 1) * 2) = us.take (j * 2) ++ [u1, u2] := by
    have e : (j + 1) * 2 = j * 2 + 1 + 1 := by omega
    rw [List.getElem?_eq_getElem (by omega)] at h1 h2
    injection h1 with h1
    injection h2 with h2
    rw [e, List.take_succ_eq_append_getElem hj, List.take_succ_eq_append_getElem (by omega), h1, h2]
    simp
  constructor
  · rw [World.cell?_setCell_other _ _ _ _ (by intro e; injection e with _ e; cases e)]; exact cell_block bS h.s0
  · rw [World.cell?_setCell_other _ _ _ _ (by intro e; injection e with _ e; cases e)]; exact cell_block bS h.s1
  · rw [World.cell?_setCell_other _ _ _ _ (by intro e; injection e with _ e; cases e)]; exact cell_block bS h.s2
  · exact World.cell?_setCell_same' w6 _ _ c3
  · have : w6.frozen? ⟨w0.heap.size, 3, none⟩ = false := by rw [frozen_block bS]; exact h.f3
    simpa using this
  · rw [ht]
    exact owns_blockV hr (fun k hk => Below.heap_setCell _ _ _ _ (by show k ≠ w0.heap.size; have := (hr.lt k hk).1; omega))
  · refine Below.setCell (p := ⟨w0.heap.size, 3, none⟩) ?_ (Nat.le_refl _) _
    have l1 : Below w0.heap.size w0 W5 := h.lo.trans (hb5.mono (by omega))
    exact l1.grown hg6 (by omega) (fun k hk => by have := h.row.lt k hk; omega)
/-- The row as the sort wants it. -/
theorem MInv.st {w0 w : World} {d : D} {us : List Value} {m g cap : Nat} (h : MInv w0 d us m (.slice (some ⟨g, 0, none⟩) m cap) w) (hm : us.length = m * 2) (h0 : 0 < m) {f : Nat → Ent}
    (hf : ∀ j, j < m → us[j * 2]? = some (.iface (f j).k.ty (f j).k.body) ∧ us[j * 2 + 1]? = some (.iface (f j).t (f j).y)) : St w (w0.heap.size + 1) g m f w := by
  have ht : us.take (m * 2) = us := by rw [← hm]; exact List.take_length
  obtain ⟨g', cap', e1, e2, e3, e4, e5, e6⟩ := owns_cell h.row h0
  rw [ht] at e6
  injection e1 with e1 _ _
  injection e1 with e1
  injection e1 with e1 _ _
  subst e1
  have hfr : ∀ j, w.frozen? ⟨g, j, none⟩ = false := by
    intro j
    rcases h.row.2 with ⟨e, _⟩ | ⟨g', cap, cur, e1, _, e3, _⟩
    · cases e
    · injection e1 with e1 _ _
      injection e1 with e1
      injection e1 with e1 _ _
      subst e1
      simp [World.frozen?, e3]
  exact ⟨fun i hi => e6 _ _ (hf i hi).1, fun i hi => e6 _ _ (hf i hi).2, fun i _ => hfr _, fun i _ => hfr _, Below.refl _ _, e2, e3⟩

theorem perm_pairs {S : Nat → Prop} {w : World} {m : Nat} {q f : Nat → Ent} (hp : PermOn m q f) {l : List (V × V)} (hl : l.length = m) (hf : ∀ j (hj : j < m) (hj' : j < l.length), EntIs S w (f j) l[j]) :
    ∃ ys : List (V × V), ys.Perm l ∧ ys.length = m ∧ ∀ j (hj : j < m) (hj' : j < ys.length), EntIs S w (q j) ys[j] := by
  obtain ⟨ys, h1, h2⟩ := perm_rel (R := EntIs S w) hp (Rel2.of (m := l) (by simp [hl]) fun i h1 h2 => by simp at h1; simpa using hf i h1 h2)
  have hly : ys.length = m := by rw [h1.length_eq, hl]
  refine ⟨ys, h1, hly, fun j hj hj' => ?_⟩
  have := h2.get j (by simpa using hj) hj'
  simpa using this
theorem keyd_of {S : Nat → Prop} {w : World} {m : Nat} {q : Nat → Ent} {ys : List (V × V)} (hl : ys.length = m) (h : ∀ j (hj : j < m) (hj' : j < ys.length), EntIs S w (q j) ys[j]) : Keyd ys := by
  intro a ha
  obtain ⟨j, hj, rfl⟩ := List.getElem_of_mem ha
  obtain ⟨e1, e2, _⟩ := h j (by omega) hj
  exact ⟨_, e1, e2⟩

/-- All entries, in order. -/
theorem map_done {S T : Nat → Prop} {w0 w : World} {d : D} {l : List (V × V)} {m g cap : Nat} {q f : Nat → Ent} {W0 : World} {B : Nat} (hst : St W0 B g m q w) (hS : T g) (hp : PermOn m q f) (hsr : Srt ltE q 0 m)
    (hne : ∀ i, i + 1 < m → cmpK (q i).k (q (i + 1)).k ≠ 0) (hl : l.length = m) (hf : ∀ j (hj : j < m) (hj' : j < l.length), EntIs S w0 (f j) l[j]) (hlen : m < 500) (hcap : m ≤ cap)
    (hk : ∀ k, k < w0.heap.size → S k → T k ∧ w.heap[k]? = w0.heap[k]?) :
    IsVF T w (.iface 104 (.agg #[.int .i64 d.kind, .string d.type, .int .i64 d.hook, .slice (some ⟨g, 0, none⟩) m cap])) (.great .map d.base 0 [] (flat (sortP l))) ∧ Apart l := by
  obtain ⟨ys, y1, y2, y3⟩ := perm_pairs hp hl hf
  have hky := keyd_of y2 y3
  have hkl : Keyd l := fun a h => hky a (y1.mem_iff.2 h)
  have hstrict : ys.Pairwise (ordP · · < 0) := by
    refine adjacent_strict hky fun i hi => ?_
    obtain ⟨a1, a2, _⟩ := y3 i (by omega) (by omega)
    obtain ⟨b1, b2, _⟩ := y3 (i + 1) (by omega) hi
    unfold ordP
    rw [a1, b1]
    have e := ordL_eq a2 b2
    unfold ordL at e
    rw [e]
    have h1 := hsr i (i + 1) (by omega) (by omega) (by omega)
    have h2 := hne i (by omega)
    have h3 := totK.anti (q i).k (q (i + 1)).k
    unfold ltE at h1
    omega
  obtain ⟨hap, hys⟩ := sorted_is y1 hkl hstrict
  refine ⟨?_, hap⟩
  rw [← hys]
  have hfl := flat_length ys
  refine .map d.base _ cap g 0 m (fun j => if j % 2 = 0 then .iface (q (j / 2)).k.ty (q (j / 2)).k.body else .iface (q (j / 2)).t (q (j / 2)).y) (flat ys) (by omega) hcap (by omega) (fun _ => ⟨rfl, hS⟩) (fun i hi => ?_) (fun i hi => ?_) (fun i hi => ?_) (fun i hi => by split; exact ⟨_, _, rfl⟩; exact ⟨_, _, rfl⟩)
  · rw [Nat.zero_add, if_pos (by omega), show i * 2 / 2 = i by omega]
    exact hst.c0 i hi
  · rw [Nat.zero_add, if_neg (by omega), show (i * 2 + 1) / 2 = i by omega]
    exact hst.c1 i hi
  · have hi2 : i / 2 < ys.length := by omega
    obtain ⟨a1, a2, a3⟩ := y3 (i / 2) (by omega) hi2
    obtain ⟨g1, g2⟩ := flat_get ys (i / 2) hi2
    by_cases e : i % 2 = 0
    · simp only [if_pos e]
      have e' : i / 2 * 2 = i := by omega
      rw [e', List.getElem?_eq_getElem hi] at g1
      injection g1 with g1
      rw [g1, a1, ← Leaf.val_eq]
      exact .leaf _
    · simp only [if_neg e]
      have e' : i / 2 * 2 + 1 = i := by omega
      rw [e', List.getElem?_eq_getElem hi] at g2
      injection g2 with g2
      rw [g2]
      exact a3.keep hk
/-- Two keys are the same. -/
theorem map_twice {S : Nat → Prop} {w0 : World} {l : List (V × V)} {m : Nat} {q f : Nat → Ent} (hp : PermOn m q f) (hl : l.length = m) (hf : ∀ j (hj : j < m) (hj' : j < l.length), EntIs S w0 (f j) l[j])
    {i : Nat} (hi : i + 1 < m) (he : cmpK (q i).k (q (i + 1)).k = 0) : ¬ Apart l := by
  intro ha
  obtain ⟨ys, y1, y2, y3⟩ := perm_pairs hp hl hf
  have hky := keyd_of y2 y3
  have hkl : Keyd l := fun a h => hky a (y1.mem_iff.2 h)
  have h := apart_perm y1.symm hkl ha
  unfold Apart at h
  rw [List.pairwise_iff_getElem] at h
  refine h i (i + 1) (by omega) (by omega) (by omega) ?_
  obtain ⟨a1, a2, _⟩ := y3 i (by omega) (by omega)
  obtain ⟨b1, b2, _⟩ := y3 (i + 1) (by omega) (by omega)
  rw [a1, b1]
  have e := ordL_eq a2 b2
  unfold ordL at e
  rw [e, he]
end Go.Proofs.YtkpfeodffhfejaaGreatDoor
