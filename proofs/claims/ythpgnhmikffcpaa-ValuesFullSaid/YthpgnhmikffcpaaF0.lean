/- A text in pointers in a slice with nils: when it is built; descriptors that are put together in memory. No condition. -/
import Derived.Test.YthpgnhmikffcpaaL1
import Derived.Laws.IdiomStrings
namespace Go.Proofs.Ythpgnhmikffcpaa
set_option linter.unusedVariables false
open Go.RowKit

def zeros (n : Nat) : ByteArray := ⟨(List.replicate n 0).toArray⟩
theorem zeros_size (n : Nat) : (zeros n).size = n := by
  show (List.replicate n (0 : UInt8)).toArray.size = n
  simp
def nest (X : Nat) : Nat → D
  | 0 => .mk 16 ⟨#[]⟩ 0 0 (zeros X) [] [] 0
  | j + 1 => .mk 22 ⟨#[]⟩ 0 0 ⟨#[]⟩ [] [nest X j] 0
def fullD (X j N : Nat) : D := .mk 20 ⟨#[]⟩ 0 0 ⟨#[]⟩ [] (nest X j :: List.replicate N zeroD) 0
theorem e0 : ((⟨#[]⟩ : ByteArray).size : Int) = 0 := rfl
theorem nest_size (X : Nat) : ∀ j, sizeD (nest X j) = j + 1
  | 0 => by simp [nest, sizeD, greatK]
  | j + 1 => by simp [nest, sizeD, greatK, sizeL, nest_size X j]
theorem nest_text (X : Nat) : ∀ j, textD (nest X j) = X
  | 0 => by simp [nest, textD, greatK, zeros_size]
  | j + 1 => by simp [nest, textD, greatK, textL, nest_text X j]
theorem nest_depth (X : Nat) : ∀ j, depthD (nest X j) = j + 1
  | 0 => by simp [nest, depthD, greatK]
  | j + 1 => by simp [nest, depthD, greatK, depthL, nest_depth X j]
theorem nest_kind (X : Nat) : ∀ j, allD kindB (nest X j) = true
  | 0 => by simp [nest, allD, greatK, kindB, D.kind]
  | j + 1 => by simp [nest, allD, greatK, kindB, D.kind, allL, nest_kind X j]
theorem nest_form (X : Nat) : ∀ j, allD formB (nest X j) = true
  | 0 => by simp [nest, allD, greatK, formB, D.kind, D.type, typed_empty]
  | j + 1 => by simp [nest, allD, greatK, formB, D.kind, D.type, D.parts, typed_empty, allL, nest_form X j]
theorem nest_mk (X : Nat) : ∀ j, ∃ x, mkV (nest X j) = some x
  | 0 => ⟨_, mkV_leaf (by show (16 : Int) < 18; decide)⟩
  | j + 1 => by
    obtain ⟨x, hx⟩ := nest_mk X j
    refine ⟨.great .ptr (nest X (j + 1)).base 0 [] [x], ?_⟩
    rw [mkV_great (by show (18 : Int) ≤ 22; decide)]
    show (mkL [nest X j]).bind _ = _
    simp only [mkL, hx, Option.bind_some]
    rfl
theorem zero_props : sizeD zeroD = 1 ∧ textD zeroD = 0 ∧ depthD zeroD = 1 ∧ allD kindB zeroD = true ∧ allD formB zeroD = true ∧ mkV zeroD = some .nil := by
  refine ⟨by simp [zeroD, sizeD, greatK], by simp [zeroD, textD, greatK], by simp [zeroD, depthD, greatK], by simp [zeroD, allD, greatK, kindB, D.kind], by simp [zeroD, allD, greatK, formB, D.kind], ?_⟩
  rw [mkV_leaf (by show (0 : Int) < 18; decide)]
  rfl
theorem rep_props : ∀ N, sizeL (List.replicate N zeroD) = N ∧ textL (List.replicate N zeroD) = 0 ∧ depthL (List.replicate N zeroD) ≤ 1 ∧ allL kindB (List.replicate N zeroD) = true ∧ allL formB (List.replicate N zeroD) = true ∧ ∃ l, mkL (List.replicate N zeroD) = some l
  | 0 => by simp [sizeL, textL, depthL, allL, mkL]
  | N + 1 => by
    obtain ⟨h1, h2, h3, h4, h5, l, h6⟩ := rep_props N
    obtain ⟨z1, z2, z3, z4, z5, z6⟩ := zero_props
    rw [List.replicate_succ]
    refine ⟨by simp only [sizeL, h1, z1]; omega, by simp only [textL, h2, z2]; rfl, by simp only [depthL, z3]; omega, by simp [allL, h4, z4], by simp [allL, h5, z5], .nil :: l, ?_⟩
    simp only [mkL, z6, h6]
theorem full_err (X j N : Nat) : errD (fullD X j N) = if 64 < N + (j + 1) + 1 ∨ 1024 < X then 2 else if 8 < j + 1 + 1 then 6 else 0 := by
  obtain ⟨h1, h2, h3, h4, h5, l, h6⟩ := rep_props N
  obtain ⟨x, hx⟩ := nest_mk X j
  have q1 : sizeD (fullD X j N) = N + (j + 1) + 1 := by simp only [fullD, sizeD, greatK, sizeL, nest_size, h1]; simp; omega
  have q2 : textD (fullD X j N) = X := by simp only [fullD, textD, greatK, textL, nest_text, h2]; simp
  have q3 : depthD (fullD X j N) = j + 1 + 1 := by simp only [fullD, depthD, greatK, depthL, nest_depth]; simp; omega
  have q4 : allD kindB (fullD X j N) = true := by simp [fullD, allD, greatK, kindB, D.kind, allL, nest_kind X j, h4]
  have q5 : allD formB (fullD X j N) = true := by simp [fullD, allD, greatK, formB, D.kind, D.type, typed_empty, allL, nest_form X j, h5]
  have q6 : mkV (fullD X j N) ≠ none := by
    rw [mkV_great (by show (18 : Int) ≤ 20; decide)]
    show (mkL (nest X j :: List.replicate N zeroD)).bind _ ≠ none
    simp only [mkL, hx, h6, Option.bind_some]
    simp [greatV, fullD, D.kind]
  rw [errD_is, q1, q2, q3, q4, q5, if_neg q6]
  simp only [Bool.true_eq_false, if_false]
  by_cases ha : 64 < N + (j + 1) + 1 ∨ 1024 < X
  · rw [if_pos ha, if_pos (by omega)]
  · rw [if_neg ha, if_neg (by omega)]

theorem conv_zero {w : World} {base g X : Nat} (h : w.ownsRow base 5 1 (.slice (some ⟨g, 0, none⟩) X X) X (madeCells (Value.int .u8 0).cells (X * 1)).toList) :
    (convert 43 9 (.slice (some ⟨g, 0, none⟩) X X)).run Try.prog w = .ok (.string (zeros X)) w := by
  have := run_convert_bytes_back (P := Try.prog) w 43 9 5 ⟨g, 0, none⟩ X (List.replicate X 0) Try.underlying43 Try.underlying5 Try.underlying9 (fun j hj => by
    have hj' : j < X := by simpa using hj
    have hc := h.cells (g := g) rfl j (.int .u8 0) (by
      rw [Nat.mul_one, Array.getElem?_toList]
      simp [madeCells, hj', Value.cells, Nat.mod_one])
    rw [hc]
    simp)
  rw [List.length_replicate] at this
  exact this
/-- A descriptor is put into a list of one, in a new block; the variable's block is overwritten. -/
theorem IsDF.wrap {w : World} {p : Nat} {cs : Array Value} {d : D} (h : IsDF w (p < ·) (.agg cs) d) (hp : p < w.heap.size) {k : Int} (hk : I64 k) (U : World) (hU : ∀ j, j ≠ p → U.heap[j]? = w.heap[j]?) (hz : U.heap.size = w.heap.size) :
    IsDF (U.alloc (.cells cs 26)) (p < ·) (.agg #[.int .i64 k, .string ⟨#[]⟩, .int .u64 0, .int .u64 0, .string ⟨#[]⟩, .slice none 0 0, .slice (some ⟨w.heap.size, 0, none⟩) 1 1, .int .i64 0]) (.mk k ⟨#[]⟩ 0 0 ⟨#[]⟩ [] [d] 0) := by
  have hh := h
  have hnew : (U.alloc (.cells cs 26)).heap[w.heap.size]? = some (.cells cs 26 (0, 0)) := by rw [← hz]; exact heap_alloc_new U _
  have hold : ∀ j, j < w.heap.size → j ≠ p → (U.alloc (.cells cs 26)).heap[j]? = w.heap[j]? := fun j hj hjp => by
    rw [Below.heap_alloc U _ j (by omega)]; exact hU j hjp
  have hsh : ∃ v0 v1 v2 v3 v4 v5 v6 v7, cs = #[v0, v1, v2, v3, v4, v5, v6, v7] := by
    have h' := h
    generalize hv : Value.agg cs = v at h'
    cases h' with
    | mk S d a5 c5 a6 c6 b5 o5 b6 o6 P hk hb hi hh ht hx n1 n2 n3 n4 n5 p1 p2 p3 p4 p5 p6 p7 p8 =>
      simp only [aggD, Value.agg.injEq] at hv
      exact ⟨_, _, _, _, _, _, _, _, hv⟩
  obtain ⟨v0, v1, v2, v3, v4, v5, v6, v7, rfl⟩ := hsh
  have hb := Blk.of hnew
  have hrd : rowD (U.alloc (.cells #[v0, v1, v2, v3, v4, v5, v6, v7] 26)) w.heap.size (0 + 0 * 8) = .agg #[v0, v1, v2, v3, v4, v5, v6, v7] := by simp [rowD, hb.c0, hb.c1, hb.c2, hb.c3, hb.c4, hb.c5, hb.c6, hb.c7]
  refine IsDF.mk (p < ·) (.mk k ⟨#[]⟩ 0 0 ⟨#[]⟩ [] [d] 0) none 0 (some ⟨w.heap.size, 0, none⟩) 1 0 0 w.heap.size 0 (fun i j => i = 0 ∧ p < j ∧ j < w.heap.size) hk U64_0 U64_0 I64_0 cap_0 cap_0 (Nat.le_refl _) (by simp [D.names]) (fun h => by simp [D.names] at h) (fun i h => by simp [D.names] at h) (fun x h => by simp [D.names] at h)
    (by simp [D.parts]) (by simp [D.parts, cap47]) (fun _ => ⟨rfl, hp⟩) (fun i h j hj => hb.f _) (fun i h => ?_) (fun i h j hj => ⟨hj.2.1, by omega, fun h => by simp [D.names] at h⟩) (fun i j q hij h1 h2 => by omega) (fun _ h => by simp [D.names] at h)
  simp only [D.parts, List.length_singleton] at h
  obtain rfl : i = 0 := by omega
  rw [hrd]
  simp only [D.parts, List.getElem_cons_zero]
  have := (hh.clip.mono (S' := fun j => True ∧ p < j ∧ j < w.heap.size) fun j hj => ⟨trivial, hj.1, hj.2⟩).keep (w' := U.alloc (.cells #[v0, v1, v2, v3, v4, v5, v6, v7] 26)) fun j hj hj' => hold j hj (by omega)
  exact this
/-- The first row of such a descriptor. -/
theorem DRow.one {w : World} {p : Nat} {cs : Array Value} {d : D} (h8 : cs.size = 8) (h : IsDF w (p < ·) (.agg cs) d) (hp : p < w.heap.size) (U : World) (hU : ∀ j, j ≠ p → U.heap[j]? = w.heap[j]?) (hz : U.heap.size = w.heap.size) :
    DRow (p + 1) (.slice none 0 0) (.slice (some ⟨w.heap.size, 0, none⟩) 1 1) [.agg cs] [d] (U.alloc (.cells cs 26)) := by
  have hnew : (U.alloc (.cells cs 26)).heap[w.heap.size]? = some (.cells cs 26 (0, 0)) := by rw [← hz]; exact heap_alloc_new U _
  have hold : ∀ j, j < w.heap.size → j ≠ p → (U.alloc (.cells cs 26)).heap[j]? = w.heap[j]? := fun j hj hjp => by
    rw [Below.heap_alloc U _ j (by omega)]; exact hU j hjp
  have hsz : (U.alloc (.cells cs 26)).heap.size = w.heap.size + 1 := by rw [← hz]; simp
  refine ⟨⟨by simp [flatV8, cellsOfV, h8], .inr ⟨w.heap.size, 1, cs, rfl, by omega, hnew, Nat.le_refl _, by unfold maxLen; omega, by omega, ?_⟩⟩, rfl, fun u hu => ?_, ⟨fun j k => j = 0 ∧ p < k ∧ k < w.heap.size, fun j hj hj' => ?_, fun j k hk => ?_, fun i j k hij h1 h2 => hij (h1.1.trans h2.1.symm)⟩, fun k hk e => by simp [Value.ownBlock] at e⟩
  · simp only [flatV8, cellsOfV, List.append_nil]
    rw [List.take_of_length_le (by simp [h8])]
  · simp at hu
    subst hu
    exact ⟨by simp [cellsOfV, h8], _, rfl⟩
  · obtain rfl : j = 0 := by simp at hj; omega
    have := (h.clip.mono (S' := fun k => (0 : Nat) = 0 ∧ p < k ∧ k < w.heap.size) fun k hk => ⟨rfl, hk.1, hk.2⟩).keep (w' := U.alloc (.cells cs 26)) fun k hk hk' => hold k hk (by omega)
    exact this
  · refine ⟨by omega, by omega, fun e => ?_, fun e => by simp [Value.ownBlock] at e⟩
    simp [Value.ownBlock] at e
    omega
end Go.Proofs.Ythpgnhmikffcpaa
