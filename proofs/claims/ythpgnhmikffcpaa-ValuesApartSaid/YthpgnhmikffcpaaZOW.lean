/- A descriptor that is handed in by value, opened; its lists of names are within a machine's reach. No condition. -/
import Derived.Test.YthpgnhmikffcpaaZRD
import Derived.Test.YthpgnhmikffcpaaZQY
namespace Go.Proofs.Ythpgnhmikffcpaa
set_option linter.unusedVariables false
set_option linter.unusedSimpArgs false
open Go.RowKit Go.ChangeShapes Go.WideShapes Go.ChangeAt Go.WideElems

theorem names_wide {H : Type} {enc : TypeId × Value → H} {W : World} {held : Bool} {fuel : Nat} {a : Option Addr} {n c : Nat} {y : DataW H × List MemPlace}
    (h : DataW.trod enc Try.prog W 0 (fun _ => true) held fuel 23 [.slice a n c] = some y) (hs : Small 23 y.1) : n * 16 ≤ 140737488355328 := by
  rcases open_strings Try.underlying23 Try.underlying9 cells1.2.1 h with ⟨e, rfl⟩ | ⟨a', len, cap, ss, e, hb, hl, hm, hlen, rfl, hc, hss⟩
  · have := (List.cons.inj e).1
    injection this with _ h2 _
    omega
  · have e2 := (List.cons.inj e).1
    injection e2 with _ h2 _
    simp only [if_true] at hlen
    have := hs _ (by unfold DataW.weights; rw [Try.underlying23]; exact List.mem_cons_self)
    rw [bytes9] at this
    simp only [strs, List.length_map, List.length_take, List.length_drop] at this
    unfold reachBytes at this
    omega
theorem parts_openW {H : Type} {enc : TypeId × Value → H} {W : World} {held : Bool} {fuel : Nat} {v : Value} {y : DataW H × List MemPlace}
    (ih : ∀ n, n < fuel → ∀ (cs : List Value) (x : DataW H × List MemPlace), DataW.trod enc Try.prog W 0 (fun _ => true) held n 26 cs = some x → Small 26 x.1 → ∃ d, IsD W (.agg cs.toArray) d ∧ WideD d)
    (h : DataW.trod enc Try.prog W 0 (fun _ => true) held fuel 24 [v] = some y) (hs : Small 24 y.1) : ∃ a c l, v = .slice a l.length c ∧ PartsAt W a c l ∧ ∀ x ∈ l, WideD x := by
  rcases DataW.trod_slice Try.underlying24 h with ⟨e, rfl⟩ | ⟨a, len, cap, elems, rest, n, rfl, e, rfl, hb, hl, hm, hlen, hel, _, _⟩
  · obtain rfl := (List.cons.inj e).1
    exact ⟨none, 0, [], rfl, PartsAt.nil W, fun x hx => by cases hx⟩
  · obtain rfl := (List.cons.inj e).1
    rw [cells26] at hel
    have hsz : len ≤ cap47 := by
      have := hs _ (by unfold DataW.weights; rw [Try.underlying24]; exact List.mem_cons_self)
      rw [bytes26] at this
      simp only [List.length_map] at this
      unfold reachBytes at this
      unfold cap47
      omega
    have each : ∀ i, i < len → ∃ d, (∃ cs, W.cells? 0 (a.add (i * 8)) 8 = some cs ∧ IsD W (.agg cs.toArray) d ∧ WideD d) := by
      intro i hi
      have := hel i hi
      rw [List.getElem?_eq_getElem (by omega)] at this
      obtain ⟨cs, h1, h2⟩ := Option.bind_eq_some_iff.1 this
      obtain ⟨d, hd⟩ := ih n (by omega) cs _ h2 (fun m hm => hs m (by
        unfold DataW.weights
        rw [Try.underlying24]
        exact List.mem_cons_of_mem _ (List.mem_append_left _ (all_weigh _ _ (List.mem_map.2 ⟨_, List.getElem_mem _, rfl⟩) m hm))))
      exact ⟨d, cs, h1, hd⟩
    by_cases h0 : 0 < len
    · have hsp : a.spot = none := by
        obtain ⟨_, cs, h1, _⟩ := each 0 h0
        obtain ⟨_, hl8, hc⟩ := World.cells?_some h1
        have := hc 0 (by omega)
        rw [List.getElem?_eq_getElem (by omega)] at this
        have := spot_none this
        simpa [Addr.add] using this
      obtain ⟨b, o, s⟩ := a
      simp only at hsp
      subst hsp
      obtain ⟨D, hD⟩ := Go.Deep.choose_lt each
      refine ⟨_, cap, (List.range len).map D, by simp, ⟨by simpa using hl, by simpa using hsz, b, o, fun _ => rfl, fun i hi => ?_⟩, fun x hx => ?_⟩
      · simp only [List.length_map, List.length_range] at hi
        obtain ⟨cs, h1, h2, _⟩ := hD i hi
        rw [(row_read h1).2]
        simpa using h2
      · obtain ⟨i, hi, rfl⟩ := List.mem_map.1 hx
        obtain ⟨cs, _, _, h3⟩ := hD i (List.mem_range.1 hi)
        exact h3
    · obtain rfl : len = 0 := by omega
      exact ⟨some a, cap, [], rfl, ⟨Nat.zero_le _, by simp, 0, 0, fun h => by simp at h, fun i h => by simp at h⟩, fun x hx => by cases hx⟩
theorem desc_openW {H : Type} {enc : TypeId × Value → H} {W : World} {held : Bool} : ∀ (fuel : Nat) (cs : List Value) (x : DataW H × List MemPlace),
    DataW.trod enc Try.prog W 0 (fun _ => true) held fuel 26 cs = some x → Small 26 x.1 → ∃ d, IsD W (.agg cs.toArray) d ∧ WideD d := by
  intro fuel
  induction fuel using Nat.strongRecOn with
  | ind fuel ih =>
    intro cs x h hs
    obtain ⟨n, k, hk, b, i, t, tx, v5, v6, y5, y6, rfl, rfl, g0, g1, g2, g3, g4, g5, h5, h6, s5, s6⟩ := desc_cells h hs
    obtain ⟨a5, c5, ns, rfl, hn⟩ := names_open h5 s5
    obtain ⟨a6, c6, ps, rfl, hp, hw⟩ := parts_openW (fun m hm => ih m (by omega)) h6 s6
    obtain ⟨p1, p2, pb, po, p3, p4⟩ := hp
    exact ⟨.mk k t b i tx ns ps hk, .mk (.mk k t b i tx ns ps hk) a5 c5 a6 c6 pb po g0 g2 g3 g1 (by unfold reachBytes at g4; unfold cap47; show t.size ≤ _; omega) (by unfold reachBytes at g5; unfold cap47; show tx.size ≤ _; omega) hn p1 p2 p3 p4,
      .mk _ (names_wide h5 s5) hw⟩
set_option maxRecDepth 100000 in
theorem desc_argW {H : Type} {enc : TypeId × Value → H} {W : World} {base : Nat} {held : Bool} {v : Value} {y : DataW H} {p : List MemPlace} (hok : Value.okWide Try.prog W .any base 26 v)
    (h : DataW.Trod enc Try.prog W 0 (fun _ => true) held 26 v y p) (hs : Small 26 y) : ∃ d, IsD W v d ∧ WideD d := by
  obtain ⟨cs, rfl⟩ := agg_of_ok Try.underlying26 hok
  obtain ⟨fuel, h⟩ := h
  exact desc_openW fuel cs.toList (y, p) h hs
end Go.Proofs.Ythpgnhmikffcpaa
