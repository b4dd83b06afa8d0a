/- How a value is told: Type, Hook, Cmp. Condition: its kind is one of the 23. -/
import Derived.Test.YthpgnhmikffcpaaZR6
import Derived.Test.YthpgnhmikffcpaaZM10
namespace Go.Proofs.Ythpgnhmikffcpaa
set_option linter.unusedVariables false
set_option linter.unusedSimpArgs false
open Go.RowKit

theorem Hook_any {w : World} {v : Value} {x : V} (h : IsV w v x) : Calls Try.prog 28 #[v] w fun e w' => e = .returned (.int .i64 x.base.hook) ∧ Below w.heap.size w w' := by
  have HV := Lib.hid h
  have hs := h.shape
  clear h
  rcases hs with rfl | ⟨t, y, rfl⟩
  all_goals
    go_enter Try.func28, Try.ntmps28
    go_wp2_with fail
    refine (base_any HV.out).mono ?_
    rintro e w1 ⟨rfl, hB⟩
    have HB := Lib.hid hB
    clear hB
    go_wp2_with fail
    go_ret
    exact ⟨rfl, HB.out.push _⟩
theorem Cmp_any {w : World} {va vb : Value} {a b : V} (ha : IsV w va a) (hb : IsV w vb b) (oa : a.ok) (ob : b.ok) : Calls Try.prog 21 #[va, vb] w (OrdPost w a b) := by
  have HC := Lib.hid (order_any ha hb oa ob)
  have h1 := ha.shape
  have h2 := hb.shape
  clear ha hb oa ob
  rcases h1 with rfl | ⟨t, y, rfl⟩ <;> rcases h2 with rfl | ⟨s, z, rfl⟩
  all_goals
    go_enter Try.func21, Try.ntmps21
    go_wp2_with fail
    refine HC.out.mono ?_
    rintro e w1 ⟨rfl, hB⟩
    have HB := Lib.hid hB
    clear hB
    go_wp2_with fail
    go_ret
    exact ⟨rfl, HB.out⟩

def kindNames : List ByteArray := [⟨#[60, 110, 105, 108, 62]⟩, ⟨#[98, 111, 111, 108]⟩, ⟨#[105, 110, 116, 56]⟩, ⟨#[105, 110, 116, 49, 54]⟩, ⟨#[105, 110, 116, 51, 50]⟩, ⟨#[105, 110, 116, 54, 52]⟩, ⟨#[105, 110, 116]⟩, ⟨#[117, 105, 110, 116, 56]⟩, ⟨#[117, 105, 110, 116, 49, 54]⟩, ⟨#[117, 105, 110, 116, 51, 50]⟩, ⟨#[117, 105, 110, 116, 54, 52]⟩, ⟨#[117, 105, 110, 116]⟩, ⟨#[102, 108, 111, 97, 116, 51, 50]⟩, ⟨#[102, 108, 111, 97, 116, 54, 52]⟩, ⟨#[99, 111, 109, 112, 108, 101, 120, 54, 52]⟩, ⟨#[99, 111, 109, 112, 108, 101, 120, 49, 50, 56]⟩, ⟨#[115, 116, 114, 105, 110, 103]⟩, ⟨#[91, 93, 117, 105, 110, 116, 56]⟩, ⟨#[115, 116, 114, 117, 99, 116]⟩, ⟨#[97, 114, 114, 97, 121]⟩, ⟨#[115, 108, 105, 99, 101]⟩, ⟨#[109, 97, 112]⟩, ⟨#[112, 116, 114]⟩]
/-- The name of its type. -/
def typeV (x : V) : ByteArray := if x.base.name = ⟨#[]⟩ then kindNames.getD x.base.kind.toNat ⟨#[]⟩ else x.base.name
theorem index_kinds (k : Int) (h0 : 0 ≤ k) (h1 : k ≤ 22) (w : World) : (Instr.index 74 (.agg #[.string ⟨#[60, 110, 105, 108, 62]⟩, .string ⟨#[98, 111, 111, 108]⟩, .string ⟨#[105, 110, 116, 56]⟩, .string ⟨#[105, 110, 116, 49, 54]⟩, .string ⟨#[105, 110, 116, 51, 50]⟩, .string ⟨#[105, 110, 116, 54, 52]⟩, .string ⟨#[105, 110, 116]⟩, .string ⟨#[117, 105, 110, 116, 56]⟩, .string ⟨#[117, 105, 110, 116, 49, 54]⟩, .string ⟨#[117, 105, 110, 116, 51, 50]⟩, .string ⟨#[117, 105, 110, 116, 54, 52]⟩, .string ⟨#[117, 105, 110, 116]⟩, .string ⟨#[102, 108, 111, 97, 116, 51, 50]⟩, .string ⟨#[102, 108, 111, 97, 116, 54, 52]⟩, .string ⟨#[99, 111, 109, 112, 108, 101, 120, 54, 52]⟩, .string ⟨#[99, 111, 109, 112, 108, 101, 120, 49, 50, 56]⟩, .string ⟨#[115, 116, 114, 105, 110, 103]⟩, .string ⟨#[91, 93, 117, 105, 110, 116, 56]⟩, .string ⟨#[115, 116, 114, 117, 99, 116]⟩, .string ⟨#[97, 114, 114, 97, 121]⟩, .string ⟨#[115, 108, 105, 99, 101]⟩, .string ⟨#[109, 97, 112]⟩, .string ⟨#[112, 116, 114]⟩]) (.int .i64 k)).run Try.prog w = .ok (.string (kindNames.getD k.toNat ⟨#[]⟩)) w := by
  rcases (show k = 0 ∨ k = 1 ∨ k = 2 ∨ k = 3 ∨ k = 4 ∨ k = 5 ∨ k = 6 ∨ k = 7 ∨ k = 8 ∨ k = 9 ∨ k = 10 ∨ k = 11 ∨ k = 12 ∨ k = 13 ∨ k = 14 ∨ k = 15 ∨ k = 16 ∨ k = 17 ∨ k = 18 ∨ k = 19 ∨ k = 20 ∨ k = 21 ∨ k = 22 by omega) with h | h | h | h | h | h | h | h | h | h | h | h | h | h | h | h | h | h | h | h | h | h | h
  all_goals (subst k; kernel_rfl)
theorem empty_or (nm : ByteArray) : (nm = ⟨#[]⟩ ∧ (!nm.toList.isEmpty) = false) ∨ (nm ≠ ⟨#[]⟩ ∧ (!nm.toList.isEmpty) = true) := by
  rw [Go.ByteArray.toList_eq]
  obtain ⟨l⟩ := nm
  obtain ⟨l⟩ := l
  cases l with
  | nil => exact .inl ⟨rfl, rfl⟩
  | cons a l => exact .inr ⟨by simp, rfl⟩

set_option maxRecDepth 100000 in
set_option maxHeartbeats 1000000 in
theorem Type_any {w : World} {v : Value} {x : V} (h : IsV w v x) (hk : 0 ≤ x.base.kind ∧ x.base.kind ≤ 22) : Calls Try.prog 25 #[v] w fun e w' => e = .returned (.string (typeV x)) ∧ Below w.heap.size w w' := by
  have hbase := base_any h
  have hs := h.shape
  clear h
  unfold BasePost at hbase
  have hT : typeV x = if x.base.name = ⟨#[]⟩ then kindNames.getD x.base.kind.toNat ⟨#[]⟩ else x.base.name := rfl
  generalize typeV x = T at hT ⊢
  generalize x.base.name = nm at hT hbase
  generalize x.base.kind = k at hT hbase hk
  generalize x.base.hook = hook at hbase
  generalize (!x.isNil) = bn at hbase
  have HBA := Lib.hid hbase
  clear hbase
  rcases empty_or nm with ⟨e1, e2⟩ | ⟨e1, e2⟩
  · rw [if_pos e1] at hT
    have hix := index_kinds k hk.1 hk.2
    rw [← hT] at hix
    clear hT hk e1
    rcases hs with rfl | ⟨t, y, rfl⟩
    all_goals
      go_enter Try.func25, Try.ntmps25
      go_wp2_with fail
      refine HBA.out.mono ?_
      rintro e w1 ⟨rfl, hB⟩
      have HB := Lib.hid hB
      clear hB
      go_wp2_with fail
      go_ret
      exact ⟨rfl, HB.out.push _⟩
  · rw [if_neg e1] at hT
    subst hT
    clear hk e1
    rcases hs with rfl | ⟨t, y, rfl⟩
    all_goals
      go_enter Try.func25, Try.ntmps25
      go_wp2_with fail
      refine HBA.out.mono ?_
      rintro e w1 ⟨rfl, hB⟩
      have HB := Lib.hid hB
      clear hB
      go_wp2_with fail
      go_ret
      exact ⟨rfl, HB.out.push _⟩
end Go.Proofs.Ythpgnhmikffcpaa

/- Numbers of a built value are in range. Condition: the descriptor's are. -/
namespace Go.Proofs.Ythpgnhmikffcpaa
set_option linter.unusedVariables false
open Go.RowKit

/-- All numbers of a descriptor are in range. -/
inductive DR : D → Prop where
  | mk (d : D) (hk : I64 d.kind) (hb : U64 d.bits) (hi : U64 d.imag) (hh : I64 d.hook) (ht : d.type.size ≤ cap47) (hx : d.text.size ≤ cap47) (hn : ∀ x ∈ d.names, x.size ≤ cap47) (hp : ∀ x ∈ d.parts, DR x) : DR d
theorem IsD.rng {w : World} {v : Value} {d : D} (h : IsD w v d) : DR d := by
  induction h with
  | mk d a5 c5 a6 c6 b6 o6 hk hb hi hh ht hx hn h1 h2 h3 hp ih =>
    obtain ⟨_, _, _, _, _, _, hn5⟩ := hn
    refine .mk d hk hb hi hh ht hx hn5 fun x hx => ?_
    obtain ⟨i, hi, rfl⟩ := List.getElem_of_mem hx
    exact ih i hi
theorem modN_cases (n : Int) : modN n = 256 ∨ modN n = 65536 ∨ modN n = 4294967296 ∨ modN n = 18446744073709551616 := by unfold modN; split; simp; split; simp; split <;> simp
theorem sgnN_rng (n x : Int) : I64 (sgnN n x) := by
  unfold sgnN I64
  rcases modN_cases n with h | h | h | h <;> rw [h] <;> split <;> omega
theorem unsN_rng (n x : Int) : U64 (unsN n x) := by
  unfold unsN U64
  rcases modN_cases n with h | h | h | h <;> rw [h] <;> omega
theorem low_rng (x : Int) : U64 (x % 4294967296) := by unfold U64; omega
theorem leafV_rng {d : D} (h : DR d) : VR (leafV d) := by
  cases h with
  | mk _ hk hb hi hh ht hx hn hp =>
    have hB : d.base.Rng := ⟨hk, hh, ht⟩
    unfold leafV
    repeat' split
    · exact .nil
    · exact .leaf _ hB
    · exact .leaf _ ⟨hB, sgnN_rng _ _⟩
    · exact .leaf _ ⟨hB, unsN_rng _ _⟩
    · exact .leaf _ ⟨hB, low_rng _⟩
    · exact .leaf _ ⟨hB, hb⟩
    · exact .leaf _ ⟨hB, low_rng _, low_rng _⟩
    · exact .leaf _ ⟨hB, hb, hi⟩
    · exact .leaf _ ⟨hB, hx⟩
    · exact .leaf _ ⟨hB, hx⟩
theorem mem_pairs : ∀ (l : List V) (p : V × V), p ∈ pairs l → p.1 ∈ l ∧ p.2 ∈ l
  | [], p, h => by simp [pairs] at h
  | [a], p, h => by simp [pairs] at h
  | a :: b :: l, p, h => by
    simp only [pairs, List.mem_cons] at h
    rcases h with rfl | h
    · simp
    · have := mem_pairs l p h; simp [this.1, this.2]
theorem mem_flat : ∀ (l : List (V × V)) (x : V), x ∈ flat l → ∃ p ∈ l, x = p.1 ∨ x = p.2
  | [], x, h => by simp [flat] at h
  | (a, b) :: l, x, h => by
    simp only [flat, List.mem_cons] at h
    rcases h with rfl | rfl | h
    · exact ⟨(x, b), by simp, .inl rfl⟩
    · exact ⟨(a, x), by simp, .inr rfl⟩
    · obtain ⟨p, h1, h2⟩ := mem_flat l x h; exact ⟨p, by simp [h1], h2⟩
theorem mem_sorted {l : List V} {x : V} (h : x ∈ flat (sortP (pairs l))) : x ∈ l := by
  obtain ⟨p, h1, h2⟩ := mem_flat _ _ h
  have := mem_pairs l p ((sortP_perm _).mem_iff.1 h1)
  rcases h2 with rfl | rfl
  · exact this.1
  · exact this.2
theorem greatV_rng {d : D} (h : DR d) {l : List V} (hl : ∀ x ∈ l, VR x) {x : V} (hx : greatV d l = some x) : VR x := by
  cases h with
  | mk _ hk hb hi hh ht htx hn hp =>
    have hB : d.base.Rng := ⟨hk, hh, ht⟩
    have h0 : U64 0 := U64_0
    unfold greatV at hx
    split at hx
    · split at hx
      · injection hx with hx; subst hx; exact .great _ _ _ _ _ hB h0 hn hl
      · cases hx
    · split at hx
      · split at hx
        · injection hx with hx; subst hx; exact .great _ _ _ _ _ hB h0 (fun x h => by cases h) (fun x h => hl x (mem_sorted h))
        · cases hx
      · split at hx
        · injection hx with hx; subst hx; exact .great _ _ _ _ _ hB hb (fun x h => by cases h) hl
        · injection hx with hx; subst hx; exact .great _ _ _ _ _ hB h0 (fun x h => by cases h) hl
theorem mkV_rng : ∀ (d : D), DR d → ∀ x, mkV d = some x → VR x := by
  refine D.induct_d fun d ih h x hx => ?_
  by_cases h18 : d.kind < 18
  · rw [mkV_leaf h18] at hx
    injection hx with hx
    subst hx
    exact leafV_rng h
  · rw [mkV_great (by omega)] at hx
    cases hm : mkL d.parts with
    | none => rw [hm] at hx; cases hx
    | some l =>
      rw [hm] at hx
      refine greatV_rng h (fun y hy => ?_) hx
      obtain ⟨i, hi, rfl⟩ := List.getElem_of_mem hy
      have hi' : i < d.parts.length := by rw [← mkL_length _ hm]; exact hi
      have hdr := h
      cases hdr with
      | mk _ _ _ _ _ _ _ _ hp => exact ih _ (List.getElem_mem hi') (hp _ (List.getElem_mem hi')) _ (mkL_get hm i hi' hi)
theorem leafV_ok (d : D) (h : 0 ≤ d.kind) (h17 : d.kind ≤ 17) : (leafV d).ok := by
  unfold leafV
  repeat' split
  all_goals (simp only [V.ok, D.base] <;> try omega)
theorem mkV_ok {d : D} {x : V} (h0 : 0 ≤ d.kind) (h22 : d.kind ≤ 22) (hx : mkV d = some x) : x.ok := by
  by_cases h18 : d.kind < 18
  · rw [mkV_leaf h18] at hx
    injection hx with hx
    subst hx
    exact leafV_ok d h0 (by omega)
  · rw [mkV_great (by omega)] at hx
    cases hm : mkL d.parts with
    | none => rw [hm] at hx; cases hx
    | some l =>
      rw [hm] at hx
      simp only [Option.bind_some] at hx
      unfold greatV at hx
      split at hx
      · split at hx
        · injection hx with hx; subst hx; simp only [V.ok, D.base]; omega
        · cases hx
      · split at hx
        · split at hx
          · injection hx with hx; subst hx; simp only [V.ok, D.base]; omega
          · cases hx
        · split at hx
          · injection hx with hx; subst hx; simp only [V.ok, D.base]; omega
          · injection hx with hx; subst hx; simp only [V.ok, D.base]; omega
theorem mkV_kind {d : D} {x : V} (h0 : 0 ≤ d.kind) (hx : mkV d = some x) : x.base.kind = d.kind := by
  by_cases h18 : d.kind < 18
  · rw [mkV_leaf h18] at hx
    injection hx with hx
    subst hx
    unfold leafV
    repeat' split
    all_goals (simp only [V.base, Leaf.base, D.base] <;> try omega)
  · rw [mkV_great (by omega)] at hx
    cases hm : mkL d.parts with
    | none => rw [hm] at hx; cases hx
    | some l =>
      rw [hm] at hx
      simp only [Option.bind_some] at hx
      unfold greatV at hx
      repeat' split at hx
      all_goals first | (injection hx with hx; subst hx; rfl) | cases hx
end Go.Proofs.Ythpgnhmikffcpaa

/- The document's examples are as it says: lives. No condition. -/
namespace Go.Proofs.Ythpgnhmikffcpaa
set_option linter.unusedVariables false
set_option linter.unusedSimpArgs false
open Go.RowKit

/-- Raw's answer with its cells open. -/
def RawAt (w : World) (d : D) (e : Ending) (w' : World) : Prop := Below w.heap.size w w' ∧ ∃ a5 c5 a6 c6, e = .returned (aggD d a5 c5 a6 c6) ∧ IsDF w' (w.heap.size ≤ ·) (aggD d a5 c5 a6 c6) d
theorem raw_at {w : World} {x : V} {e : Ending} {w' : World} (h : RawPost w x e w') : RawAt w (rawV x) e w' := by
  obtain ⟨h1, v, h2, h3⟩ := h
  refine ⟨h1, ?_⟩
  generalize rawV x = d at h3 ⊢
  have h4 := h3
  cases h3 with
  | mk S d a5 c5 a6 c6 b5 o5 b6 o6 P hk hb hi hh ht hx n1 n2 n3 n4 n5 p1 p2 p3 p4 p5 p6 p7 p8 => exact ⟨_, _, _, _, h2, h4⟩
theorem Raw_at {x : V} (hr : VR x) {w : World} {v : Value} (h : IsV w v x) : Calls Try.prog 17 #[v] w (RawAt w (rawV x)) := (Raw_any hr h).mono fun e w' h => raw_at h

/-- A descriptor of a kind and bits alone. -/
def bareD (k b : Int) : D := .mk k ⟨#[]⟩ b 0 ⟨#[]⟩ [] [] 0
theorem bareD_is {k b : Int} (hk : I64 k) (hb : U64 b) (w : World) : IsD w (.agg #[.int .i64 k, .string ⟨#[]⟩, .int .u64 b, .int .u64 0, .string ⟨#[]⟩, .slice none 0 0, .slice none 0 0, .int .i64 0]) (bareD k b) :=
  (IsDF.bare (S := fun _ => True) hk hb U64_0 I64_0 cap_0 cap_0).isD
theorem typed_empty : typedB ⟨#[]⟩ = true := by decide
theorem rfl_parts {k b : Int} (hg : greatK k = false) : partsOf (bareD k b) = [] := by unfold partsOf; rw [show (bareD k b).kind = k from rfl, hg]; rfl
theorem bare_fine {k : Int} (b : Int) (h0 : 0 ≤ k) (h17 : k ≤ 17) : errD (bareD k b) = 0 ∧ mkV (bareD k b) = some (leafV (bareD k b)) := by
  have hg : greatK k = false := by simp [greatK]; omega
  have hm : mkV (bareD k b) = some (leafV (bareD k b)) := mkV_leaf (by show k < 18; omega)
  refine ⟨?_, hm⟩
  rw [errD_is, hm]
  have h1 : sizeD (bareD k b) = 1 := by simp [bareD, sizeD, hg]
  have h2 : textD (bareD k b) = 0 := by
    have : ((⟨#[]⟩ : ByteArray).size : Int) = 0 := rfl
    simp [bareD, textD, hg, this]
  have h3 : depthD (bareD k b) = 1 := by simp [bareD, depthD, hg]
  have hp : partsOf (bareD k b) = [] := rfl_parts hg
  have h4 : allD kindB (bareD k b) = true := by rw [allD_eq, hp]; simp only [kindB, show (bareD k b).kind = k from rfl, allL, Bool.and_true, decide_eq_true_eq]; omega
  have h5 : allD formB (bareD k b) = true := by
    have e18 : ¬ k = 18 := by omega
    have e21 : ¬ k = 21 := by omega
    have e22 : ¬ k = 22 := by omega
    simp [bareD, allD, hg, formB, D.kind, D.type, typed_empty, e18, e21, e22]
  rw [h1, h2, h3, h4, h5]
  simp
theorem bare_bad {k : Int} (b : Int) (h : k < 0 ∨ 22 < k) : errD (bareD k b) = 3 := by
  have hg : greatK k = false := by simp [greatK]; omega
  rw [errD_is]
  have h1 : sizeD (bareD k b) = 1 := by simp [bareD, sizeD, hg]
  have h2 : textD (bareD k b) = 0 := by
    have : ((⟨#[]⟩ : ByteArray).size : Int) = 0 := rfl
    simp [bareD, textD, hg, this]
  have h3 : depthD (bareD k b) = 1 := by simp [bareD, depthD, hg]
  have hp : partsOf (bareD k b) = [] := rfl_parts hg
  have h4 : allD kindB (bareD k b) = false := by rw [allD_eq, hp]; simp only [kindB, show (bareD k b).kind = k from rfl, allL, Bool.and_true, decide_eq_false_iff_not]; omega
  rw [h1, h2, h3, h4]
  simp
/-- Build at such a descriptor. -/
theorem build_bare {k b : Int} (hk : I64 k) (hb : U64 b) (h0 : 0 ≤ k) (h17 : k ≤ 17) (w : World) : Calls Try.prog 14 #[.agg #[.int .i64 k, .string ⟨#[]⟩, .int .u64 b, .int .u64 0, .string ⟨#[]⟩, .slice none 0 0, .slice none 0 0, .int .i64 0]] w fun e w' =>
    Below w.heap.size w w' ∧ ∃ t y, e = .returned (.tuple #[.iface t y, .int .i64 0]) ∧ IsVF (w.heap.size ≤ ·) w' (.iface t y) (leafV (bareD k b)) := by
  obtain ⟨h1, h2⟩ := bare_fine b h0 h17
  refine (build_any (bareD_is hk hb w)).mono fun e w' h => ⟨h.1, ?_⟩
  obtain ⟨t, y, x, q1, q2, q3⟩ := h.2.2 h1
  rw [h2] at q1
  injection q1 with q1
  subst q1
  exact ⟨t, y, q2, q3⟩
theorem build_refused {k b : Int} (hk : I64 k) (hb : U64 b) (h : k < 0 ∨ 22 < k) (w : World) : Calls Try.prog 14 #[.agg #[.int .i64 k, .string ⟨#[]⟩, .int .u64 b, .int .u64 0, .string ⟨#[]⟩, .slice none 0 0, .slice none 0 0, .int .i64 0]] w fun e w' =>
    Below w.heap.size w w' ∧ e = .returned (.tuple #[.nilIface, .int .i64 3]) := by
  have h1 := bare_bad b h
  refine (build_any (bareD_is hk hb w)).mono fun e w' q => ⟨q.1, ?_⟩
  have := q.2.1 (by rw [h1]; decide)
  rw [h1] at this
  exact this

theorem fld26_2 (a0 a1 a2 a3 a4 a5 a6 a7 : Value) (w : World) : (Instr.field 26 (.agg #[a0, a1, a2, a3, a4, a5, a6, a7]) 2).run Try.prog w = .ok a2 w := by kernel_rfl
set_option maxHeartbeats 4000000 in
set_option maxRecDepth 100000 in
theorem lives_any (w : World) : Calls Try.prog 13 #[] w fun e w' => e = .returned (.bool true) ∧ Below w.heap.size w w' := by
  have hfld := fld26_2
  go_enter Try.func13, Try.ntmps13
  go_wp2_with fail
  refine (build_bare (k := 2) (b := 255) ⟨by decide, by decide⟩ ⟨by decide, by decide⟩ (by decide) (by decide) _).mono ?_
  rintro e w1 ⟨hB1, t, y, rfl, hv⟩
  have hl : leafV (bareD 2 255) = .leaf (.int ⟨2, ⟨#[]⟩, 0⟩ (-1)) := by rfl
  rw [hl] at hv
  have hval := isVF_leaf hv
  have hv' := hv.isV
  simp only [Leaf.val, Value.iface.injEq] at hval
  obtain ⟨rfl, rfl⟩ := hval
  have HV := Lib.hid hv'
  have HB1 := Lib.hid hB1
  clear hv hv' hB1
  go_wp2_with fail
  refine (build_refused (k := 23) (b := 0) ⟨by decide, by decide⟩ ⟨by decide, by decide⟩ (by decide) _).mono ?_
  rintro e w2 ⟨hB2, rfl⟩
  have HB2 := Lib.hid (HB1.out.next hB2)
  have HV2 := Lib.hid (HV.out.later hB2)
  clear hB2
  go_wp2_with fail
  refine (Raw_at (VR.leaf (.int ⟨2, ⟨#[]⟩, 0⟩ (-1)) ⟨⟨⟨by decide, by decide⟩, ⟨by decide, by decide⟩, cap_0⟩, ⟨by decide, by decide⟩⟩) HV2.out).mono ?_
  rintro e w3 ⟨hB3, a5, c5, a6, c6, rfl, _⟩
  have HB3 := Lib.hid (HB2.out.next hB3)
  have HV3 := Lib.hid (HV2.out.later hB3)
  clear hB3
  have hu : u64of (-1) = 18446744073709551615 := by decide
  simp only [aggD, rawV, rawLeaf, D.kind, D.type, D.bits, D.imag, D.text, D.names, D.parts, D.hook, hu]
  go_wp2_with fail
  refine (Type_any HV3.out ⟨by decide, by decide⟩).mono ?_
  rintro e w4 ⟨rfl, hB4⟩
  have HB4 := Lib.hid (HB3.out.next hB4)
  clear hB4
  have ht : typeV (.leaf (.int ⟨2, ⟨#[]⟩, 0⟩ (-1))) = ⟨#[105, 110, 116, 56]⟩ := by rfl
  rw [ht]
  go_wp2_with fail
  refine (named_any ⟨#[97, 95, 49]⟩ (by unfold cap47; decide) _).mono ?_
  have hn : namedB ⟨#[97, 95, 49]⟩ = true := by decide
  rw [hn]
  rintro e w5 ⟨rfl, hB5⟩
  have HB5 := Lib.hid (HB4.out.next hB5)
  clear hB5
  go_wp2_with fail
  go_ret
  exact ⟨rfl, HB5.out⟩
end Go.Proofs.Ythpgnhmikffcpaa
