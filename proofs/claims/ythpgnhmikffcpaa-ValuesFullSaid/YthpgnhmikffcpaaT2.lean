/- Numbers of a built value are in range. Condition: the descriptor's are. -/
import Derived.Test.YthpgnhmikffcpaaR6
import Derived.Test.YthpgnhmikffcpaaM10
namespace Go.Proofs.Ythpgnhmikffcpaa
set_option linter.unusedVariables false
open Go.RowKit

/-- All numbers of a descriptor are in range. -/
inductive DR : D → Prop where
  | mk (d : D) (hk : I64 d.kind) (hb : U64 d.bits) (hi : U64 d.imag) (hh : I64 d.hook) (ht : d.type.size ≤ cap47) (hx : d.text.size ≤ cap47) (hn : ∀ x ∈ d.names, x.size ≤ cap47) (hp : ∀ x ∈ d.parts, DR x) : DR d
theorem IsD.rng {w : World} {v : Value} {d : D} (h : IsD w v d) : DR d := by
  induction h with
  | mk d a5 c5 a6 c6 b6 o6 hk hb hi hh ht hx hn h1 h2 h3 hp ih =>
    obtain ⟨_, _, _, _, _, _, hn5⟩ := hn
    refine .mk d hk hb hi hh ht hx hn5 fun x hx => ?_
    obtain ⟨i, hi, rfl⟩ := List.getElem_of_mem hx
    exact ih i hi
theorem modN_cases (n : Int) : modN n = 256 ∨ modN n = 65536 ∨ modN n = 4294967296 ∨ modN n = 18446744073709551616 := by unfold modN; split; simp; split; simp; split <;> simp
theorem sgnN_rng (n x : Int) : I64 (sgnN n x) := by
  unfold sgnN I64
  rcases modN_cases n with h | h | h | h <;> rw [h] <;> split <;> omega
theorem unsN_rng (n x : Int) : U64 (unsN n x) := by
  unfold unsN U64
  rcases modN_cases n with h | h | h | h <;> rw [h] <;> omega
theorem low_rng (x : Int) : U64 (x % 4294967296) := by unfold U64; omega
theorem leafV_rng {d : D} (h : DR d) : VR (leafV d) := by
  cases h with
  | mk _ hk hb hi hh ht hx hn hp =>
    have hB : d.base.Rng := ⟨hk, hh, ht⟩
    unfold leafV
    repeat' split
    · exact .nil
    · exact .leaf _ hB
    · exact .leaf _ ⟨hB, sgnN_rng _ _⟩
    · exact .leaf _ ⟨hB, unsN_rng _ _⟩
    · exact .leaf _ ⟨hB, low_rng _⟩
    · exact .leaf _ ⟨hB, hb⟩
    · exact .leaf _ ⟨hB, low_rng _, low_rng _⟩
    · exact .leaf _ ⟨hB, hb, hi⟩
    · exact .leaf _ ⟨hB, hx⟩
    · exact .leaf _ ⟨hB, hx⟩
theorem mem_pairs : ∀ (l : List V) (p : V × V), p ∈ pairs l → p.1 ∈ l ∧ p.2 ∈ l
  | [], p, h => by simp [pairs] at h
  | [a], p, h => by simp [pairs] at h
  | a :: b :: l, p, h => by
    simp only [pairs, List.mem_cons] at h
    rcases h with rfl | h
    · simp
    · have := mem_pairs l p h; simp [this.1, this.2]
theorem mem_flat : ∀ (l : List (V × V)) (x : V), x ∈ flat l → ∃ p ∈ l, x = p.1 ∨ x = p.2
  | [], x, h => by simp [flat] at h
  | (a, b) :: l, x, h => by
    simp only [flat, List.mem_cons] at h
    rcases h with rfl | rfl | h
    · exact ⟨(x, b), by simp, .inl rfl⟩
    · exact ⟨(a, x), by simp, .inr rfl⟩
    · obtain ⟨p, h1, h2⟩ := mem_flat l x h; exact ⟨p, by simp [h1], h2⟩
theorem mem_sorted {l : List V} {x : V} (h : x ∈ flat (sortP (pairs l))) : x ∈ l := by
  obtain ⟨p, h1, h2⟩ := mem_flat _ _ h
  have := mem_pairs l p ((sortP_perm _).mem_iff.1 h1)
  rcases h2 with rfl | rfl
  · exact this.1
  · exact this.2
theorem greatV_rng {d : D} (h : DR d) {l : List V} (hl : ∀ x ∈ l, VR x) {x : V} (hx : greatV d l = some x) : VR x := by
  cases h with
  | mk _ hk hb hi hh ht htx hn hp =>
    have hB : d.base.Rng := ⟨hk, hh, ht⟩
    have h0 : U64 0 := U64_0
    unfold greatV at hx
    split at hx
    · split at hx
      · injection hx with hx; subst hx; exact .great _ _ _ _ _ hB h0 hn hl
      · cases hx
    · split at hx
      · split at hx
        · injection hx with hx; subst hx; exact .great _ _ _ _ _ hB h0 (fun x h => by cases h) (fun x h => hl x (mem_sorted h))
        · cases hx
      · split at hx
        · injection hx with hx; subst hx; exact .great _ _ _ _ _ hB hb (fun x h => by cases h) hl
        · injection hx with hx; subst hx; exact .great _ _ _ _ _ hB h0 (fun x h => by cases h) hl
theorem mkV_rng : ∀ (d : D), DR d → ∀ x, mkV d = some x → VR x := by
  refine D.induct_d fun d ih h x hx => ?_
  by_cases h18 : d.kind < 18
  · rw [mkV_leaf h18] at hx
    injection hx with hx
    subst hx
    exact leafV_rng h
  · rw [mkV_great (by omega)] at hx
    cases hm : mkL d.parts with
    | none => rw [hm] at hx; cases hx
    | some l =>
      rw [hm] at hx
      refine greatV_rng h (fun y hy => ?_) hx
      obtain ⟨i, hi, rfl⟩ := List.getElem_of_mem hy
      have hi' : i < d.parts.length := by rw [← mkL_length _ hm]; exact hi
      have hdr := h
      cases hdr with
      | mk _ _ _ _ _ _ _ _ hp => exact ih _ (List.getElem_mem hi') (hp _ (List.getElem_mem hi')) _ (mkL_get hm i hi' hi)
theorem leafV_ok (d : D) (h : 0 ≤ d.kind) (h17 : d.kind ≤ 17) : (leafV d).ok := by
  unfold leafV
  repeat' split
  all_goals (simp only [V.ok, D.base] <;> try omega)
theorem mkV_ok {d : D} {x : V} (h0 : 0 ≤ d.kind) (h22 : d.kind ≤ 22) (hx : mkV d = some x) : x.ok := by
  by_cases h18 : d.kind < 18
  · rw [mkV_leaf h18] at hx
    injection hx with hx
    subst hx
    exact leafV_ok d h0 (by omega)
  · rw [mkV_great (by omega)] at hx
    cases hm : mkL d.parts with
    | none => rw [hm] at hx; cases hx
    | some l =>
      rw [hm] at hx
      simp only [Option.bind_some] at hx
      unfold greatV at hx
      split at hx
      · split at hx
        · injection hx with hx; subst hx; simp only [V.ok, D.base]; omega
        · cases hx
      · split at hx
        · split at hx
          · injection hx with hx; subst hx; simp only [V.ok, D.base]; omega
          · cases hx
        · split at hx
          · injection hx with hx; subst hx; simp only [V.ok, D.base]; omega
          · injection hx with hx; subst hx; simp only [V.ok, D.base]; omega
theorem mkV_kind {d : D} {x : V} (h0 : 0 ≤ d.kind) (hx : mkV d = some x) : x.base.kind = d.kind := by
  by_cases h18 : d.kind < 18
  · rw [mkV_leaf h18] at hx
    injection hx with hx
    subst hx
    unfold leafV
    repeat' split
    all_goals (simp only [V.base, Leaf.base, D.base] <;> try omega)
  · rw [mkV_great (by omega)] at hx
    cases hm : mkL d.parts with
    | none => rw [hm] at hx; cases hx
    | some l =>
      rw [hm] at hx
      simp only [Option.bind_some] at hx
      unfold greatV at hx
      repeat' split at hx
      all_goals first | (injection hx with hx; subst hx; rfl) | cases hx
end Go.Proofs.Ythpgnhmikffcpaa
