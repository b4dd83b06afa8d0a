/- The arguments read as data, opened: a slice of texts, a slice of calls, a pair of whole numbers. No condition. -/
import Derived.Test.YtdhbnldigbjkkaaBase
import Derived.Deep.Slices
namespace Go.Proofs.Ytdhbnldigbjkkaa
open Go.ChangeShapes Go.WideShapes Go.ChangeAt Go.RowKit Go.WideElems

theorem Try.cells30 : Try.prog.cellsOf 30 = 2 := by kernel_rfl
theorem Try.cells9 : Try.prog.cellsOf 9 = 1 := by kernel_rfl
theorem Try.cells4 : Try.prog.cellsOf 4 = 1 := by kernel_rfl
theorem Try.cells3 : Try.prog.cellsOf 3 = 1 := by kernel_rfl
theorem Try.laidOut : laidOutB Try.prog = true := by kernel_rfl

theorem spot_none {w : World} {a : Addr} {v : Value} (h : w.cell? a = some v) : a.spot = none := by
  unfold World.cell? at h
  split at h
  · split at h
    · cases h
    · rename_i hs; simpa using hs
  · cases h

theorem open_strs {H : Type} {enc : TypeId × Value → H} {w : World} {v : Value} {d : DataW H} {ps : List MemPlace} {base : Nat} (hok : Value.okWide Try.prog w .any base 39 v)
    (h : DataW.Trod enc Try.prog w 0 (fun _ => true) true 39 v d ps) :
    ∃ a len cap, v = .slice a len cap ∧ len ≤ cap ∧ cap ≤ maxLen ∧ ∃ (A off : Nat) (ss : Nat → ByteArray), (0 < len → a = some ⟨A, off, none⟩) ∧ ∀ i, i < len → w.cell? ⟨A, off + i, none⟩ = some (.string (ss i)) := by
  obtain ⟨a, len, cap, rfl⟩ := okWide_slice Try.underlying39 hok
  obtain ⟨fuel, hf⟩ := h
  rcases Deep.open_slice1 Try.underlying39 Try.cells9 hf with ⟨hcs, _⟩ | ⟨a', len', cap', m, n, V, D, Pl, hcs, _, hl, hm, hmm, _, hx⟩
  · simp [Value.cells] at hcs
    obtain ⟨rfl, rfl, rfl⟩ := hcs
    exact ⟨_, _, _, rfl, by omega, by unfold maxLen; omega, 0, 0, fun _ => ByteArray.empty, by omega, by omega⟩
  · simp [Value.cells] at hcs
    obtain ⟨rfl, rfl, rfl⟩ := hcs
    refine ⟨_, _, _, rfl, hl, hm, a'.block, a'.off, fun i => match V i with | .string s => s | _ => ByteArray.empty, ?_, ?_⟩
    · intro h0
      have := spot_none (hx 0 (by simp at hmm; omega)).1
      obtain ⟨b, o, s⟩ := a'
      simp [Addr.add] at this
      rw [this]
    · intro i hi
      obtain ⟨h1, h2⟩ := hx i (by simp at hmm; omega)
      have e : a'.add i = ⟨a'.block, a'.off + i, none⟩ := by
        have hs := spot_none h1
        simp only [Addr.add] at hs ⊢
        split
        · rename_i h0; rw [if_pos h0] at hs; obtain ⟨b, o, s⟩ := a'; simp at hs; simp [hs, h0]
        · rfl
      rw [e] at h1
      obtain ⟨s, hs, _⟩ := DataW.trod_string Try.underlying9 h2
      simp only [List.cons.injEq, and_true] at hs
      simp [h1, hs]

theorem open_ops {H : Type} {enc : TypeId × Value → H} {w : World} {v : Value} {d : DataW H} {ps : List MemPlace} {base : Nat} (hok : Value.okWide Try.prog w .any base 22 v)
    (h : DataW.Trod enc Try.prog w 0 (fun _ => true) true 22 v d ps) :
    ∃ a len cap, v = .slice a len cap ∧ len ≤ cap ∧ cap ≤ maxLen ∧ ∃ (A off : Nat) (os : Nat → Bool × Int), (0 < len → a = some ⟨A, off, none⟩) ∧
      ∀ i, i < len → w.cell? ⟨A, off + i * 2, none⟩ = some (.bool (os i).1) ∧ w.cell? ⟨A, off + i * 2 + 1, none⟩ = some (.int .i64 (os i).2) := by
  obtain ⟨a, len, cap, rfl⟩ := okWide_slice Try.underlying22 hok
  obtain ⟨fuel, hf⟩ := h
  rcases Deep.open_slice Try.underlying22 hf with ⟨hcs, _⟩ | ⟨a', len', cap', m, n, D, Pl, hcs, _, hl, hm, hmm, _, hx⟩
  · simp [Value.cells] at hcs
    obtain ⟨rfl, rfl, rfl⟩ := hcs
    exact ⟨_, _, _, rfl, by omega, by unfold maxLen; omega, 0, 0, fun _ => default, by omega, by omega⟩
  · simp [Value.cells] at hcs
    obtain ⟨rfl, rfl, rfl⟩ := hcs
    have key : ∀ i, i < len → a'.spot = none ∧ ∃ b x, w.cell? ⟨a'.block, a'.off + i * 2, none⟩ = some (.bool b) ∧ w.cell? ⟨a'.block, a'.off + i * 2 + 1, none⟩ = some (.int .i64 x) := by
      intro i hi
      obtain ⟨cs', h1, h2⟩ := hx i (by simp at hmm; omega)
      rw [Try.cells30] at h1
      obtain ⟨_, hlen, hat⟩ := World.cells?_some h1
      obtain ⟨xs, n', _, _, _, hxl, hf⟩ := DataW.trod_struct Try.underlying30 h2
      obtain ⟨c0, c1, rfl⟩ : ∃ c0 c1, cs' = [c0, c1] := by
        match cs', hlen with
        | [c0, c1], _ => exact ⟨c0, c1, rfl⟩
      have f0 : DataW.trod enc Try.prog w 0 (fun _ => true) true n' 4 [c0] = xs[0]? := by have := hf 0 _ rfl; simpa [Try.cells4] using this
      have f1 : DataW.trod enc Try.prog w 0 (fun _ => true) true n' 3 [c1] = xs[1]? := by have := hf 1 _ rfl; simpa [Try.cells3] using this
      have g0 : ∃ y, xs[0]? = some y := ⟨_, List.getElem?_eq_getElem (by rw [hxl]; decide)⟩
      have g1 : ∃ y, xs[1]? = some y := ⟨_, List.getElem?_eq_getElem (by rw [hxl]; decide)⟩
      obtain ⟨y0, g0⟩ := g0
      obtain ⟨y1, g1⟩ := g1
      rw [g0] at f0
      rw [g1] at f1
      obtain ⟨b, hb, _⟩ := DataW.trod_bool Try.underlying4 f0
      obtain ⟨x, hx', _⟩ := DataW.trod_int Try.underlying3 f1
      simp only [List.cons.injEq, and_true] at hb hx'
      subst hb
      subst hx'
      have a0 := hat 0 (by omega)
      have a1 := hat 1 (by omega)
      have hs1 : ((a'.add (i * 2)).add 0).spot = none := spot_none a0
      have hs : a'.spot = none ∨ i ≠ 0 := by
        simp only [Addr.add] at hs1
        by_cases hi0 : i = 0
        · left; simpa [hi0] using hs1
        · exact .inr hi0
      have hsp : a'.spot = none := by
        rcases hs with hs | hs
        · exact hs
        · obtain ⟨cs0, k1, _⟩ := hx 0 (by simp at hmm; omega)
          rw [Try.cells30] at k1
          obtain ⟨_, hl0, hat0⟩ := World.cells?_some k1
          have k0 := hat0 0 (by omega)
          have : ∃ v, cs0[0]? = some v := ⟨_, List.getElem?_eq_getElem (by omega)⟩
          obtain ⟨v, hv⟩ := this
          rw [hv] at k0
          simpa [Addr.add] using spot_none k0
      have e0 : (a'.add (i * 2)).add 0 = ⟨a'.block, a'.off + i * 2, none⟩ := by
        obtain ⟨bl, o, s⟩ := a'
        simp at hsp
        by_cases hi0 : i * 2 = 0 <;> simp [Addr.add, hi0, hsp]
      have e1 : (a'.add (i * 2)).add 1 = ⟨a'.block, a'.off + i * 2 + 1, none⟩ := by
        obtain ⟨bl, o, s⟩ := a'
        by_cases hi0 : i * 2 = 0 <;> simp [Addr.add, hi0]
      rw [e0] at a0
      rw [e1] at a1
      exact ⟨hsp, b, x, a0, a1⟩
    refine ⟨_, _, _, rfl, hl, hm, a'.block, a'.off, fun i => match w.cell? ⟨a'.block, a'.off + i * 2, none⟩, w.cell? ⟨a'.block, a'.off + i * 2 + 1, none⟩ with | some (.bool b), some (.int _ x) => (b, x) | _, _ => default, ?_, ?_⟩
    · intro h0
      have := (key 0 h0).1
      obtain ⟨b, o, s⟩ := a'
      simp at this
      rw [this]
    · intro i hi
      obtain ⟨_, b, x, h1, h2⟩ := key i hi
      simp [h1, h2]

theorem Try.cells49 : Try.prog.cellsOf 49 = 2 := by kernel_rfl
theorem open_pair {H : Type} {enc : TypeId × Value → H} {w : World} {v : Value} {d : DataW H} {ps : List MemPlace} {base : Nat} (hok : Value.okWide Try.prog w .any base 49 v)
    (h : DataW.Trod enc Try.prog w 0 (fun _ => true) true 49 v d ps) : ∃ x y : Int, v = .agg #[.int .i64 x, .int .i64 y] := by
  simp only [Value.okWide, Try.underlying49] at hok
  obtain ⟨cs, rfl, hsz, _⟩ := hok
  obtain ⟨fuel, hf⟩ := h
  cases fuel with
  | zero => simp [DataW.trod] at hf
  | succ n =>
    rw [Try.cells49] at hsz
    obtain ⟨l⟩ := cs
    obtain ⟨c0, c1, rfl⟩ : ∃ c0 c1, l = [c0, c1] := by
      match l, hsz with
      | [c0, c1], _ => exact ⟨c0, c1, rfl⟩
    unfold DataW.trod at hf
    rw [Try.underlying49] at hf
    simp [Value.cells, Try.cells49, Try.cells3, List.range, List.range.loop] at hf
    cases h0 : DataW.trod enc Try.prog w 0 (fun _ => true) true n 3 [c0] with
    | none => simp [h0] at hf
    | some x0 =>
      cases h1 : DataW.trod enc Try.prog w 0 (fun _ => true) true n 3 [c1] with
      | none => simp [h0, h1] at hf
      | some x1 =>
        obtain ⟨x, hx, _⟩ := DataW.trod_int Try.underlying3 h0
        obtain ⟨y, hy, _⟩ := DataW.trod_int Try.underlying3 h1
        simp only [List.cons.injEq, and_true] at hx hy
        exact ⟨x, y, by rw [hx, hy]⟩
end Go.Proofs.Ytdhbnldigbjkkaa
