/- The reference's list of all descriptors that are looked at. Condition: the argument is a descriptor. -/
import Derived.Test.YtkpfeodffhfejaaGreatDoorCA24
import Derived.Test.YtkpfeodffhfejaaGreatDoorCA04
import Derived.Test.YtkpfeodffhfejaaGreatDoorCA25
namespace Go.Proofs.YtkpfeodffhfejaaGreatDoor
set_option linter.unusedVariables false
set_option maxRecDepth 1000000
set_option linter.unusedSimpArgs false
open Go.RowKit

theorem vinfo3 : (Tryz.prog.info? 3).map (fun i => (i.zero, i.size, i.bytes)) = some (some (.int .i64 0), 1, 8) := by kernel_rfl
/-- The value of a descriptor in memory has eight cells. -/
theorem IsD.eight {w : World} {v : Value} {d : D} (h : IsD w v d) : (cellsOfV v).length = 8 ∧ ∃ cs, v = .agg cs := by
  cases h with
  | mk _ a5 c5 a6 c6 b6 o6 hk hb hi hh ht hx hn h1 h2 h3 hp => exact ⟨by simp [cellsOfV, aggD], _, rfl⟩
theorem addr0 (b j : Nat) : (⟨b, 0, none⟩ : Addr).add j = ⟨b, j, none⟩ := by unfold Addr.add; split <;> simp_all
/-- The list q in two rows of the call's own: the descriptors, and how deep they stand. -/
structure QRow (w wr : World) (g4 c4 g5 c5 : Nat) (q : List (D × Nat)) : Prop where
  o4 : ∃ us : List Value, us.length = q.length ∧ (∀ j (h : j < us.length) (h' : j < q.length), IsD w us[j] q[j].1) ∧ wr.ownsRow w.heap.size 26 8 (.slice (some ⟨g4, 0, none⟩) q.length c4) q.length (flatV8 us)
  o5 : wr.ownsRow w.heap.size 3 1 (.slice (some ⟨g5, 0, none⟩) q.length c5) q.length (q.map fun p => .int .i64 (p.2 : Int))
  ne : g4 ≠ g5
theorem QRow.read {w wr : World} {g4 c4 g5 c5 : Nat} {q : List (D × Nat)} (h : QRow w wr g4 c4 g5 c5 q) {i : Nat} (hi : i < q.length) :
    ∃ a5 c5' a6 c6, RowD wr g4 (i * 8) q[i].1 a5 c5' a6 c6 ∧ IsD w (aggD q[i].1 a5 c5' a6 c6) q[i].1 ∧ wr.cell? ⟨g5, i, none⟩ = some (.int .i64 (q[i].2 : Int)) := by
  obtain ⟨us, hl, hD, ho⟩ := h.o4
  have hiu : i < us.length := by omega
  have hd := hD i hiu hi
  obtain ⟨a5, c5', a6, c6, e, _⟩ := hd.open
  have h8 : ∀ u ∈ us, (cellsOfV u).length = 8 := fun u hu => by
    obtain ⟨j, hj, rfl⟩ := List.getElem_of_mem hu
    exact (hD j hj (by omega)).eight.1
  have hc : ∀ j, j < 8 → ∀ u, (cellsOfV us[i])[j]? = some u → wr.cell? ⟨g4, i * 8 + j, none⟩ = some u := fun j hj u hu => by
    have := ho.cells (g := g4) rfl (i * 8 + j) u (by rw [flatV8_get us h8 i hiu j hj]; exact hu)
    rw [addr0] at this
    exact this
  have h5 := h.o5.cells (g := g5) rfl i (.int .i64 (q[i].2 : Int)) (by rw [List.getElem?_map, List.getElem?_eq_getElem hi]; rfl)
  rw [addr0] at h5
  rw [e] at hc hd
  exact ⟨a5, c5', a6, c6, ⟨hc 0 (by omega) _ rfl, hc 1 (by omega) _ rfl, hc 2 (by omega) _ rfl, hc 3 (by omega) _ rfl, hc 4 (by omega) _ rfl, hc 5 (by omega) _ rfl, hc 6 (by omega) _ rfl, hc 7 (by omega) _ rfl⟩, hd, h5⟩
theorem QRow.below {w wr wr' : World} {g4 c4 g5 c5 : Nat} {q : List (D × Nat)} (h : QRow w wr g4 c4 g5 c5 q) (hb : Below wr.heap.size wr wr') : QRow w wr' g4 c4 g5 c5 q := by
  obtain ⟨us, hl, hD, ho⟩ := h.o4
  exact ⟨⟨us, hl, hD, owns_laterV ho hb⟩, owns_laterV h.o5 hb, h.ne⟩
/-- The list where it starts. -/
theorem QRow.start {w : World} {d : D} {a5 : Option Addr} {c5 : Nat} {a6 : Option Addr} {c6 : Nat} (h : IsD w (aggD d a5 c5 a6 c6) d) {W : World} {cs : Array Value} (hcs : (aggD d a5 c5 a6 c6) = .agg cs) (hz : w.heap.size ≤ W.heap.size) :
    QRow w ((W.alloc (.cells cs 26)).alloc (.cells #[.int .i64 0] 3)) W.heap.size 1 (W.heap.size + 1) 1 [(d, 0)] := by
  have h8 : cs.size = 8 := by
    have := h.eight.1
    rw [hcs] at this
    simpa [cellsOfV] using this
  have hnew : (W.alloc (.cells cs 26)).heap[W.heap.size]? = some (.cells cs 26 (0, 0)) := heap_alloc_new W _
  have hnew2 : ((W.alloc (.cells cs 26)).alloc (.cells #[.int .i64 0] 3)).heap[W.heap.size + 1]? = some (.cells #[.int .i64 0] 3 (0, 0)) := by
    have := heap_alloc_new (W.alloc (.cells cs 26)) (.cells #[.int .i64 0] 3)
    simpa using this
  refine ⟨⟨[aggD d a5 c5 a6 c6], rfl, fun j hj _ => ?_, ?_⟩, ?_, by omega⟩
  · obtain rfl : j = 0 := by simp at hj; omega
    exact h
  · refine World.ownsRow.alloc (⟨by simp [flatV8, hcs, cellsOfV, h8], .inr ⟨W.heap.size, 1, cs, rfl, hz, hnew, Nat.le_refl _, by unfold maxLen; omega, by omega, ?_⟩⟩) _
    simp only [flatV8, hcs, cellsOfV, List.append_nil]
    rw [List.take_of_length_le (by simp [h8])]
  · exact ⟨by simp, .inr ⟨W.heap.size + 1, 1, #[.int .i64 0], rfl, by omega, hnew2, Nat.le_refl _, by unfold maxLen; omega, rfl, rfl⟩⟩
/-- One descriptor more, behind two appends: W1 as the first finds it, w2 behind it, W2 as the second finds it, w3 behind it. -/
theorem QRow.push {w wr W1 w2 W2 w3 : World} {g4 c4 g5 c5 : Nat} {q : List (D × Nat)} (h : QRow w wr g4 c4 g5 c5 q) (hb1 : Below wr.heap.size wr W1) {cs : List Value} {x : D} {n : Nat} (hx : IsD w (.agg cs.toArray) x)
    {us : List Value} (hu1 : us.length = q.length) (hu2 : ∀ j (h : j < us.length) (h' : j < q.length), IsD w us[j] q[j].1) {g4' c4' g5' c5' : Nat}
    (own4 : w2.ownsRow w.heap.size 26 8 (.slice (some ⟨g4', 0, none⟩) (q.length + 1) c4') (q.length + 1) (flatV8 us ++ cs)) (hg4 : W1.grownBy w2 (some g4)) (hl4 : g4 = g4' ∨ g4' = W1.heap.size)
    (hb2 : Below w2.heap.size w2 W2)
    (own5 : w3.ownsRow w.heap.size 3 1 (.slice (some ⟨g5', 0, none⟩) (q.length + 1) c5') (q.length + 1) ((q.map fun p => .int .i64 (p.2 : Int)) ++ [.int .i64 (n : Int)])) (hg5 : W2.grownBy w3 (some g5)) (hl5 : g5 = g5' ∨ g5' = W2.heap.size) :
    QRow w w3 g4' c4' g5' c5' (q ++ [(x, n)]) := by
  have l4 := (h.o4.choose_spec.2.2.lt g4 rfl).2
  have l5 := (h.o5.lt g5 rfl).2
  have z1 := hb1.size
  have z2 := hg4.size
  have z3 := hb2.size
  have z4 := hg5.size
  have l4' := (own4.lt g4' rfl).2
  have l5' := (own5.lt g5' rfl).2
  have hne := h.ne
  have hn5 : g4' ≠ g5 := by omega
  have hkeep := (owns_laterV own4 hb2).kept hg5 (.inr (by simp [Value.ownBlock]; omega))
  refine ⟨⟨us ++ [.agg cs.toArray], by simp [hu1], fun j hj hj' => ?_, ?_⟩, ?_, by omega⟩
  · by_cases e : j < us.length
    · rw [List.getElem_append_left e, List.getElem_append_left (by omega)]
      exact hu2 j e (by omega)
    · have e2 : j = us.length := by simp at hj; omega
      subst e2
      rw [List.getElem_append_right (by omega), List.getElem_append_right (by omega)]
      simp only [Nat.sub_self, List.getElem_cons_zero, hu1]
      exact hx
  · rw [flatV8_snoc, List.length_append, List.length_singleton]
    exact hkeep
  · rw [List.length_append, List.length_singleton, List.map_append]
    exact own5
theorem take_snoc' {α : Type} {l : List α} {k : Nat} (h : k < l.length) : l.take (k + 1) = l.take k ++ [l[k]] := List.take_succ_eq_append_getElem h
/-- An element of a slice of descriptors: its cells in a later world, the descriptor in the first. -/
theorem PartsAt.elem0 {w wr : World} {a : Option Addr} {c : Nat} {l : List D} (h : PartsAt w a c l) (hb : Below w.heap.size w wr) {i : Nat} (hi : i < l.length) :
    ∃ b o p5 q5 p6 q6, a = some ⟨b, o, none⟩ ∧ RowD wr b (o + i * 8) l[i] p5 q5 p6 q6 ∧ IsD w (aggD l[i] p5 q5 p6 q6) l[i] := by
  obtain ⟨h1, h2, b, o, h3, h4⟩ := h
  obtain ⟨p5, q5, p6, q6, hr, hd⟩ := (h4 i hi).row
  exact ⟨b, o, p5, q5, p6, q6, h3 (by omega), hr.below hb, hd⟩
/-- Where the outer loop stands. -/
def AtQ (d : D) (q : List (D × Nat)) (i : Nat) : Prop := (q.length = 65 ∧ 65 ≤ sizeD d) ∨ QSt d q i
theorem AtQ.small {d : D} {q : List (D × Nat)} {i : Nat} (h : AtQ d q i) (hq : q.length ≤ 64) : QSt d q i := by
  rcases h with h | h
  · omega
  · exact h
theorem AtQ.fin {d : D} {q : List (D × Nat)} {i : Nat} (h : AtQ d q i) (hq : ¬ (i < q.length ∧ q.length ≤ 64)) : AllIs d q := by
  rcases h with h | h
  · exact .inl h
  · exact h.done (by have := h.len; omega)
def AllPost (w : World) (d : D) (e : Ending) (w' : World) : Prop :=
  Below w.heap.size w w' ∧ ∃ q g4 c4 g5 c5, e = .returned (.tuple #[.slice (some ⟨g4, 0, none⟩) q.length c4, .slice (some ⟨g5, 0, none⟩) q.length c5]) ∧ QRow w w' g4 c4 g5 c5 q ∧ AllIs d q
set_option maxRecDepth 100000 in
set_option maxHeartbeats 4000000 in
theorem all_any {w : World} {v : Value} {d : D} (h : IsD w v d) : Calls Tryz.prog 59 #[v] w (AllPost w d) := by
  have HD := Lib.hid h
  obtain ⟨a5, c5, a6, c6, rfl, hk, hb, hi, ht, hx, hn, hp⟩ := h.open
  clear hp hn hb hi hk ht hx h
  obtain ⟨i26, hi26, hz26, hs26, hb26⟩ := info_parts vinfo26
  obtain ⟨i3, hi3, hz3, hs3, hb3⟩ := info_parts vinfo3
  have HQ0 : Hid (QRow w (((w.alloc (.cells #[.int .i64 d.kind, .string d.type, .int .u64 d.bits, .int .u64 d.imag, .string d.text, .slice a5 d.names.length c5, .slice a6 d.parts.length c6, .int .i64 d.hook] 26)).alloc (.cells #[.int .i64 d.kind, .string d.type, .int .u64 d.bits, .int .u64 d.imag, .string d.text, .slice a5 d.names.length c5, .slice a6 d.parts.length c6, .int .i64 d.hook] 26)).alloc (.cells #[.int .i64 0] 3)) (w.heap.size + 1) 1 (w.heap.size + 1 + 1) 1 [(d, 0)]) := by
    have := QRow.start HD.out (W := w.alloc (.cells #[.int .i64 d.kind, .string d.type, .int .u64 d.bits, .int .u64 d.imag, .string d.text, .slice a5 d.names.length c5, .slice a6 d.parts.length c6, .int .i64 d.hook] 26)) rfl (by simp)
    exact Lib.hid (by simpa using this)
  unfold aggD
  go_enter Tryz.func59, Tryz.ntmps59
  go_wp2_with fail
  have HW0 := Lib.hid (((Below.new (w := w) (.cells #[.int .i64 d.kind, .string d.type, .int .u64 d.bits, .int .u64 d.imag, .string d.text, .slice a5 d.names.length c5, .slice a6 d.parts.length c6, .int .i64 d.hook] 26)).push (.cells #[.int .i64 d.kind, .string d.type, .int .u64 d.bits, .int .u64 d.imag, .string d.text, .slice a5 d.names.length c5, .slice a6 d.parts.length c6, .int .i64 d.hook] 26)).push (.cells #[.int .i64 0] 3))
  generalize ((w.alloc (.cells #[.int .i64 d.kind, .string d.type, .int .u64 d.bits, .int .u64 d.imag, .string d.text, .slice a5 d.names.length c5, .slice a6 d.parts.length c6, .int .i64 d.hook] 26)).alloc (.cells #[.int .i64 d.kind, .string d.type, .int .u64 d.bits, .int .u64 d.imag, .string d.text, .slice a5 d.names.length c5, .slice a6 d.parts.length c6, .int .i64 d.hook] 26)).alloc (.cells #[.int .i64 0] 3) = W0 at HQ0 HW0 ⊢
  go_loopw [4, 5, 6] (fun s4 s5 s6 wr => ∃ (q : List (D × Nat)) (i g4 c4 g5 c5 : Nat), s6 = .int .i64 (i : Int) ∧ s4 = .slice (some ⟨g4, 0, none⟩) q.length c4 ∧ s5 = .slice (some ⟨g5, 0, none⟩) q.length c5 ∧ i ≤ 65 ∧ q.length ≤ 65 ∧ Hid (QRow w wr g4 c4 g5 c5 q) ∧ Hid (AtQ d q i) ∧ Hid (Below w.heap.size w wr)) (fun _ _ s6 _ => 65 - (intOf s6).toNat)
  case atStart => exact ⟨[(d, 0)], 0, _, _, _, _, rfl, rfl, rfl, by omega, by simp, HQ0.out, .inr (QSt.start d), HW0.out⟩
  case round =>
    obtain ⟨q, i, g4, c4, g5, c5, rfl, rfl, rfl, hi, hql, HQ, HS, HB⟩ := hrel
    by_cases hc : i < q.length ∧ q.length ≤ 64
    · obtain ⟨hiq, hq64⟩ := hc
      have HSm := Lib.hid (HS.out.small hq64)
      obtain ⟨x5, y5, x6, y6, hrow, hX, h5⟩ := HQ.out.read hiq
      have HX := Lib.hid hX
      have HRow := Lib.hid hrow
      obtain ⟨k0, k1, k2, k3, k4, k5, k6, k7⟩ := hrow
      obtain ⟨x, hx⟩ : ∃ x, x = q[i].1 := ⟨_, rfl⟩
      obtain ⟨n, hn⟩ : ∃ n, n = q[i].2 := ⟨_, rfl⟩
      have HXE := Lib.hid hx
      have HNE := Lib.hid hn
      rw [← hx] at k0 k6 HX
      rw [← hn] at h5
      clear hX k1 k2 k3 k4 k5 k7 hx hn HS
      go_wp2_with fail
      refine (great_any _ _).mono ?_
      rintro e w1 ⟨rfl, rfl⟩
      cases hg : greatK x.kind with
      | false =>
        have hps : partsOf x = [] := by unfold partsOf; rw [hg]; rfl
        have hmo : more q i hiq = q := by unfold more; rw [← HXE.out, hps]; simp
        have HSt : Hid (AtQ d q (i + 1)) := by
          have := HSm.out.step hiq (by rw [hmo]; exact hq64)
          rw [hmo] at this
          exact .inr this
        clear hps hmo hg
        go_wp2_with fail
        go_roundw
        case rel => exact ⟨q, i + 1, g4, c4, g5, c5, by go_num, rfl, rfl, by omega, hql, HQ.out, HSt.out, HB.out⟩
        case measure => simp [intOf]; omega
      | true =>
        obtain ⟨b5, d5, b6, d6, bb, oo, e0, _, _, _, _, _, _, _, hp1, hp2, hp3, hp4⟩ := HX.out.cases'
        simp only [aggD, Value.agg.injEq, Array.mk.injEq, List.cons.injEq, and_true, true_and, Value.slice.injEq] at e0
        obtain ⟨_, rfl, rfl⟩ := e0
        have hpa : PartsAt w x6 y6 x.parts := ⟨hp1, hp2, bb, oo, hp3, hp4⟩
        have hps : partsOf x = x.parts := by unfold partsOf; rw [hg]; rfl
        have hmo : more q i hiq = q ++ x.parts.map fun y => (y, n + 1) := by unfold more; rw [← HXE.out, ← HNE.out, hps]
        have hl2 : x.parts.length ≤ 9223372036854775807 := by unfold cap47 at hp2; omega
        have hn64 : n ≤ 65 := by rw [HNE.out]; have := HSm.out.low _ (List.getElem_mem hiq); omega
        have HMo := Lib.hid hmo
        have HPA := Lib.hid hpa
        obtain ⟨ps, hps2⟩ : ∃ ps, x.parts = ps := ⟨_, rfl⟩
        rw [hps2] at HMo HPA hl2 k6
        clear hps hmo hpa hp1 hp2 hp3 hp4 hg hps2
        go_wp2_with fail
        go_loopw [4, 5, 36] (fun s4 s5 s36 wq => ∃ (k m g4' c4' g5' c5' : Nat), s36 = .int .i64 (k : Int) ∧ s4 = .slice (some ⟨g4', 0, none⟩) (q.length + m) c4' ∧ s5 = .slice (some ⟨g5', 0, none⟩) (q.length + m) c5' ∧ k ≤ ps.length ∧ m ≤ k ∧ q.length + m ≤ 65 ∧ Hid (m = k ∨ q.length + m = 65) ∧ Hid (QRow w wq g4' c4' g5' c5' (q ++ (ps.take m).map fun y => (y, n + 1))) ∧ Hid (Below w.heap.size w wq)) (fun _ _ s36 _ => ps.length - (intOf s36).toNat)
        case atStart => exact ⟨0, 0, g4, c4, g5, c5, rfl, rfl, rfl, by omega, by omega, by omega, .inl rfl, by simpa using HQ, HB⟩
        case round =>
          obtain ⟨k, m, g4', c4', g5', c5', rfl, rfl, rfl, hk, hmk, hm65, HM, HQ', HB'⟩ := hrel
          by_cases hkp : k < ps.length
          · obtain ⟨b, o, p5, r5, p6, r6, rfl, hrow2, hY⟩ := HPA.out.elem0 HB'.out hkp
            have HY := Lib.hid hY
            obtain ⟨k0', k1', k2', k3', k4', k5', k6', k7'⟩ := hrow2
            obtain ⟨q', hq'⟩ : ∃ q', q ++ (ps.take m).map (fun y => (y, n + 1)) = q' := ⟨_, rfl⟩
            have hlen : q.length + m = q'.length := by rw [← hq', List.length_append, List.length_map, List.length_take]; omega
            have hqi : ∃ h : i < q'.length, q'[i].2 = n := ⟨by omega, by simp only [← hq']; rw [List.getElem_append_left hiq]; exact HNE.out.symm⟩
            obtain ⟨hiq', hqi⟩ := hqi
            obtain ⟨_, _, _, _, _, _, h5'⟩ := (show QRow w wr g4' c4' g5' c5' q' by rw [← hq']; exact HQ'.out).read hiq'
            rw [hqi] at h5'
            rw [hq'] at HQ'
            rw [hlen] at HM hm65 ⊢
            have HQE := Lib.hid hq'
            have HLen := Lib.hid hlen
            obtain ⟨y, hy⟩ : ∃ y, ps[k] = y := ⟨_, rfl⟩
            rw [hy] at k0' k1' k2' k3' k4' k5' k6' k7' HY
            have HYE := Lib.hid hy
            clear hq' hlen hqi hY hy
            by_cases hle : q'.length ≤ 64
            · have hle2 : (q'.length : Int) ≤ 64 := by omega
              have HMK : Hid (m = k) := by show _ = _; have := HM.out; omega
              obtain ⟨us, hu1, hu2, ho4⟩ := HQ'.out.o4
              have HO4 := Lib.hid ho4
              have HO5 := Lib.hid HQ'.out.o5
              have HU1 := Lib.hid hu1
              have HU2 := Lib.hid hu2
              have hne := HQ'.out.ne
              have hl4 := (HO4.out.lt g4' rfl).2
              have hl5 := (HO5.out.lt g5' rfl).2
              have HNB : Hid (∀ o, ((wr.alloc o).alloc (.cells #[.int .i64 y.kind, .string y.type, .int .u64 y.bits, .int .u64 y.imag, .string y.text, .slice p5 y.names.length r5, .slice p6 y.parts.length r6, .int .i64 y.hook] 26)).heap[wr.heap.size + 1]? = some (.cells #[.int .i64 y.kind, .string y.type, .int .u64 y.bits, .int .u64 y.imag, .string y.text, .slice p5 y.names.length r5, .slice p6 y.parts.length r6, .int .i64 y.hook] 26 (0, 0))) := by
                intro o
                have := heap_alloc_new (wr.alloc o) (.cells #[.int .i64 y.kind, .string y.type, .int .u64 y.bits, .int .u64 y.imag, .string y.text, .slice p5 y.names.length r5, .slice p6 y.parts.length r6, .int .i64 y.hook] 26)
                simpa using this
              have hmx : q'.length + 1 ≤ maxLen := by unfold maxLen; omega
              have hbx4 : (q'.length + 1) * 112 ≤ 140737488355328 := by omega
              have hbx5 : (q'.length + 1) * 8 ≤ 140737488355328 := by omega
              have hb5' := HB'.out.size
              clear hu1 hu2 ho4
              go_wp2_with (first
                | (at_builtin; refine wpList_append_lies _ rfl (.tmp 43) (.tmp 45) 24 rfl w.heap.size 26 i26 _ 8 112 Tryz.underlying24 hi26 hz26 hs26 hb26 rfl (by omega) (.slice (some ⟨g4', 0, none⟩) q'.length c4') q'.length _ rfl ((HO4.out.alloc _).alloc _) ⟨wr.heap.size + 1, 0, none⟩ 1 1 [.int .i64 y.kind, .string y.type, .int .u64 y.bits, .int .u64 y.imag, .string y.text, .slice p5 y.names.length r5, .slice p6 y.parts.length r6, .int .i64 y.hook] rfl rfl (World.news_of_block (cs := #[.int .i64 y.kind, .string y.type, .int .u64 y.bits, .int .u64 y.imag, .string y.text, .slice p5 y.names.length r5, .slice p6 y.parts.length r6, .int .i64 y.hook]) (t := 26) (fr := (0, 0)) (HNB.out _)) (by simp [Value.oneCell']) (by omega) hmx hbx4 (by simp; omega) (wr.heap.size + 2) (by simp) ?_; intro gg cap w6 hown6 hgrow6 hat6 hlt6; have u5 : w6.cell? ⟨g5', i, none⟩ = some (.int .i64 (n : Int)) := hgrow6.cell (cell_below ((Below.new _).push _) h5') (fun e => hne (by injection e with e; exact e.symm)); have HO56 := Lib.hid (((HO5.out.alloc _).alloc _).kept hgrow6 (.inr (fun e => hne (by injection e with e; exact e.symm)))); have HOwn6 := Lib.hid hown6; have HGrow6 := Lib.hid hgrow6; have HAt6 := Lib.hid hat6; have hz6 := hgrow6.size; simp at hz6; clear hown6 hgrow6 hat6)
                | (at_builtin; refine wpList_append_lies _ rfl (.tmp 47) (.tmp 53) 120 rfl w.heap.size 3 i3 _ 1 8 Tryz.underlying120 hi3 hz3 hs3 hb3 rfl (by omega) (.slice (some ⟨g5', 0, none⟩) q'.length c5') q'.length _ rfl (HO56.out.alloc _) ⟨w6.heap.size, 0, none⟩ 1 1 [.int .i64 ((n : Int) + 1)] rfl rfl (World.news_of_block (cs := #[.int .i64 ((n : Int) + 1)]) (t := 3) (fr := (0, 0)) (heap_alloc_new w6 _)) (by simp [Value.oneCell']) (by omega) hmx hbx5 (by simp; omega) (w6.heap.size + 1) (by simp) ?_; intro gg7 cap7 w7 hown7 hgrow7 hat7 hlt7; have HOwn7 := Lib.hid hown7; have HGrow7 := Lib.hid hgrow7; have HAt7 := Lib.hid hat7; clear hown7 hgrow7 hat7))
              clear u5 h5'
              go_roundw
              case rel =>
                have hnn : ((n : Int) + 1) = ((n + 1 : Nat) : Int) := by omega
                have hbb : Below w.heap.size w w6 := ((HB'.out.push _).push _).grown HGrow6.out (by simp; omega) (fun k' hk' => by have e := Option.some.inj (show some g4' = some k' from hk'); have := (HO4.out.lt g4' rfl).1; omega)
                have hbb7 : Below w.heap.size w w7 := (hbb.alloc (by omega) _).grown HGrow7.out (by simp; omega) (fun k' hk' => by have e := Option.some.inj (show some g5' = some k' from hk'); have := (HO5.out.lt g5' rfl).1; omega)
                refine ⟨k + 1, m + 1, gg, cap, gg7, cap7, by go_num, congrArg (fun n => Value.slice (some ⟨gg, 0, none⟩) n cap) (by have := HLen.out; omega), congrArg (fun n => Value.slice (some ⟨gg7, 0, none⟩) n cap7) (by have := HLen.out; omega), by omega, by omega, by have := HLen.out; omega, .inl (by have := HMK.out; omega), ?_, hbb7⟩
                have hq2 : q ++ (ps.take (m + 1)).map (fun y => (y, n + 1)) = q' ++ [(y, n + 1)] := by
                  have hmk' := HMK.out
                  subst hmk'
                  rw [take_snoc' hkp, List.map_append, ← List.append_assoc, HQE.out, HYE.out]; rfl
                show QRow _ _ _ _ _ _ _
                rw [hq2]
                refine QRow.push HQ'.out ((Below.new _).push _) HY.out HU1.out HU2.out HOwn6.out HGrow6.out ?_ (Below.new _) ?_ HGrow7.out ?_
                · rcases HAt6.out with e | e
                  · injection e with e; exact .inl e
                  · right; rw [e]; simp
                · rw [← hnn]; exact HOwn7.out
                · rcases HAt7.out with e | e
                  · injection e with e; exact .inl e
                  · right; rw [e]; simp
              case measure => simp [intOf]; omega
            · have hle2 : ¬ (q'.length : Int) ≤ 64 := by omega
              go_wp2_with fail
              go_roundw
              case rel => exact ⟨k + 1, m, g4', c4', g5', c5', by go_num, congrArg (fun n => Value.slice (some ⟨g4', 0, none⟩) n c4') HLen.out.symm, congrArg (fun n => Value.slice (some ⟨g5', 0, none⟩) n c5') HLen.out.symm, by omega, by omega, by have := HLen.out; omega, .inr (by have := HLen.out; omega), by show QRow _ _ _ _ _ _ _; rw [HQE.out]; exact HQ'.out.below (Below.new _), HB'.out.push _⟩
              case measure => simp [intOf]; omega
          · have HSt : Hid (∃ q', q' = q ++ (ps.take m).map (fun y => (y, n + 1)) ∧ q.length + m = q'.length ∧ q'.length ≤ 65 ∧ AtQ d q' (i + 1)) := by
              refine ⟨_, rfl, by rw [List.length_append, List.length_map, List.length_take]; omega, by rw [List.length_append, List.length_map, List.length_take]; omega, ?_⟩
              rcases HM.out with e | e
              · have hm2 : ps.take m = ps := List.take_of_length_le (by omega)
                rw [hm2]
                by_cases hbig : (more q i hiq).length ≤ 64
                · have := HSm.out.step hiq hbig
                  rw [HMo.out] at this
                  exact .inr this
                · have h65 := HSm.out.big hiq (by omega)
                  rw [HMo.out, List.length_append, List.length_map] at hbig
                  exact .inl ⟨by rw [List.length_append, List.length_map]; omega, h65⟩
              · refine .inl ⟨by rw [List.length_append, List.length_map, List.length_take]; omega, HSm.out.big hiq ?_⟩
                rw [HMo.out, List.length_append, List.length_map]
                omega
            go_wp2_with fail
            go_roundw
            case rel =>
              obtain ⟨q', hq', hl', h65, hat⟩ := HSt.out
              exact ⟨q', i + 1, g4', c4', g5', c5', by go_num, by rw [hl'], by rw [hl'], by omega, h65, by show QRow _ _ _ _ _ _ _; rw [hq']; exact HQ'.out, hat, HB'.out⟩
            case measure => simp [intOf]; omega
    · have HAll := Lib.hid (HS.out.fin hc)
      have hcc : i < q.length → ¬ q.length ≤ 64 := fun h1 h2 => hc ⟨h1, h2⟩
      by_cases hiq : i < q.length
      · have hge : decide ((q.length : Int) ≤ 64) = false := by have := hcc hiq; simp; omega
        clear hc hcc
        go_wp2_with fail
        go_ret2
        exact ⟨HB.out, q, g4, c4, g5, c5, rfl, HQ.out, HAll.out⟩
      · clear hc hcc
        go_wp2_with fail
        go_ret2
        exact ⟨HB.out, q, g4, c4, g5, c5, rfl, HQ.out, HAll.out⟩
end Go.Proofs.YtkpfeodffhfejaaGreatDoor
