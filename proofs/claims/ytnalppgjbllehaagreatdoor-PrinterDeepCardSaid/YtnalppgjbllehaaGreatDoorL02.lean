/- A number's digits: ints' digits, limit, sharp. No condition but the base's bounds. -/
import Derived.Test.YtnalppgjbllehaaGreatDoorL01
namespace Go.Proofs.YtnalppgjbllehaaGreatDoor
set_option linter.unusedVariables false
set_option linter.unusedSimpArgs false
open Go.RowKit

def sgn (sg : ByteArray) (i : Nat) : UInt8 := if h : i < sg.size then sg[i] else 0
def digF (b : Nat) (sg : ByteArray) : Nat → Nat → List UInt8 → List UInt8
  | 0, _, acc => acc
  | f + 1, n, acc => if n / b = 0 then sgn sg (n % b) :: acc else digF b sg f (n / b) (sgn sg (n % b) :: acc)
def digB (n b : Nat) (sg : ByteArray) : ByteArray := ⟨(digF b sg 64 n []).toArray⟩
/-- An array's block, its end filled. -/
def Filled (w : World) (B : Nat) (f : Nat) (acc : List UInt8) : Prop := ∃ cs : Array Value, w.heap[B]? = some (.cells cs 282 (0, 0)) ∧ cs.size = 64 ∧ f + acc.length = 64 ∧ ∀ j (h : j < acc.length), cs[f + j]? = some (.int .u8 (acc[j].toNat : Int))
theorem Filled.step {w : World} {B f : Nat} {acc : List UInt8} (h : Filled w B (f + 1) acc) (c : UInt8) : (w.setCell ⟨B, f, none⟩ (.int .u8 (c.toNat : Int))).heap[B]? ≠ none ∧ Filled (w.setCell ⟨B, f, none⟩ (.int .u8 (c.toNat : Int))) B f (c :: acc) := by
  obtain ⟨cs, h1, h2, h3, h4⟩ := h
  have e : (w.setCell ⟨B, f, none⟩ (.int .u8 (c.toNat : Int))).heap[B]? = some (.cells (cs.setIfInBounds f (.int .u8 (c.toNat : Int))) 282 (0, 0)) := by
    simp [World.setCell, Array.getElem?_modify, h1]
  refine ⟨by rw [e]; simp, _, e, by simp [h2], by simp; omega, fun j hj => ?_⟩
  rw [Array.getElem?_setIfInBounds]
  cases j with
  | zero => simp [h2]; omega
  | succ j =>
    have := h4 j (by simpa using hj)
    rw [if_neg (by omega), show f + (j + 1) = f + 1 + j by omega, this]
    rfl
theorem Filled.cell {w : World} {B f : Nat} {acc : List UInt8} (h : Filled w B (f + 1) acc) : (∃ u, w.cell? ⟨B, f, none⟩ = some u) ∧ w.frozen? ⟨B, f, none⟩ = false := by
  obtain ⟨cs, h1, h2, h3, h4⟩ := h
  refine ⟨?_, by simp [World.frozen?, h1]⟩
  rw [cell_of_heap' h1, Array.getElem?_eq_getElem (by omega)]
  exact ⟨_, rfl⟩
set_option maxRecDepth 1000000 in
theorem array_slice (W : World) (B f : Nat) (hf : f ≤ 63) : (Instr.sliceAt 282 (.pointer (some ⟨B, 0, none⟩)) (some (.int .i64 (f : Int))) none none).run Tryz.prog W = .ok (.slice (some ⟨B, f, none⟩) (64 - f) (64 - f)) W := by
  have e1 : Tryz.prog.arrayLen 282 = 64 := by kernel_rfl
  have e2 : Tryz.prog.elem 282 = 5 := by kernel_rfl
  rw [run_sliceAt_array_l (P := Tryz.prog) W 282 ⟨B, 0, none⟩ (by kernel_rfl) .i64 (f : Int) (by omega) (by rw [e1]; omega), e1, e2]
  have := Tryz.sizeOf5 W
  rw [this]
  simp only [Result.andThen, slicedAt, Int.toNat_natCast]
  rw [if_neg (by omega)]
  congr 2
  unfold Addr.add
  split <;> simp_all
set_option maxHeartbeats 4000000 in
set_option maxRecDepth 1000000 in
theorem digits_any (n b : Nat) (sg : ByteArray) (w : World) (hn : n < 18446744073709551616) (hb : 2 ≤ b) (hb2 : b ≤ sg.size) (hb3 : b ≤ 16) :
    Calls Tryz.prog 177 #[.int .u64 (n : Int), .int .u64 (b : Int), .string sg] w (Ret w (.string (digB n b sg))) := by
  obtain ⟨r, hr⟩ : ∃ r, digB n b sg = r := ⟨_, rfl⟩
  rw [hr]
  have HR : Hid ((⟨(digF b sg 64 n []).toArray⟩ : ByteArray) = r) := hr
  clear hr
  go_enter Tryz.func177, Tryz.ntmps177
  go_upto_region 2 with fail
  have HB1 := Lib.hid (Below.new (w := w) (.cells #[.int .u8 0, .int .u8 0, .int .u8 0, .int .u8 0, .int .u8 0, .int .u8 0, .int .u8 0, .int .u8 0, .int .u8 0, .int .u8 0, .int .u8 0, .int .u8 0, .int .u8 0, .int .u8 0, .int .u8 0, .int .u8 0, .int .u8 0, .int .u8 0, .int .u8 0, .int .u8 0, .int .u8 0, .int .u8 0, .int .u8 0, .int .u8 0, .int .u8 0, .int .u8 0, .int .u8 0, .int .u8 0, .int .u8 0, .int .u8 0, .int .u8 0, .int .u8 0, .int .u8 0, .int .u8 0, .int .u8 0, .int .u8 0, .int .u8 0, .int .u8 0, .int .u8 0, .int .u8 0, .int .u8 0, .int .u8 0, .int .u8 0, .int .u8 0, .int .u8 0, .int .u8 0, .int .u8 0, .int .u8 0, .int .u8 0, .int .u8 0, .int .u8 0, .int .u8 0, .int .u8 0, .int .u8 0, .int .u8 0, .int .u8 0, .int .u8 0, .int .u8 0, .int .u8 0, .int .u8 0, .int .u8 0, .int .u8 0, .int .u8 0, .int .u8 0] 282))
  have HF1 : Hid (Filled (w.alloc (.cells #[.int .u8 0, .int .u8 0, .int .u8 0, .int .u8 0, .int .u8 0, .int .u8 0, .int .u8 0, .int .u8 0, .int .u8 0, .int .u8 0, .int .u8 0, .int .u8 0, .int .u8 0, .int .u8 0, .int .u8 0, .int .u8 0, .int .u8 0, .int .u8 0, .int .u8 0, .int .u8 0, .int .u8 0, .int .u8 0, .int .u8 0, .int .u8 0, .int .u8 0, .int .u8 0, .int .u8 0, .int .u8 0, .int .u8 0, .int .u8 0, .int .u8 0, .int .u8 0, .int .u8 0, .int .u8 0, .int .u8 0, .int .u8 0, .int .u8 0, .int .u8 0, .int .u8 0, .int .u8 0, .int .u8 0, .int .u8 0, .int .u8 0, .int .u8 0, .int .u8 0, .int .u8 0, .int .u8 0, .int .u8 0, .int .u8 0, .int .u8 0, .int .u8 0, .int .u8 0, .int .u8 0, .int .u8 0, .int .u8 0, .int .u8 0, .int .u8 0, .int .u8 0, .int .u8 0, .int .u8 0, .int .u8 0, .int .u8 0, .int .u8 0, .int .u8 0] 282)) w.heap.size 64 []) := ⟨_, heap_alloc_new w _, rfl, rfl, fun j h => by simp at h⟩
  generalize w.alloc (.cells #[.int .u8 0, .int .u8 0, .int .u8 0, .int .u8 0, .int .u8 0, .int .u8 0, .int .u8 0, .int .u8 0, .int .u8 0, .int .u8 0, .int .u8 0, .int .u8 0, .int .u8 0, .int .u8 0, .int .u8 0, .int .u8 0, .int .u8 0, .int .u8 0, .int .u8 0, .int .u8 0, .int .u8 0, .int .u8 0, .int .u8 0, .int .u8 0, .int .u8 0, .int .u8 0, .int .u8 0, .int .u8 0, .int .u8 0, .int .u8 0, .int .u8 0, .int .u8 0, .int .u8 0, .int .u8 0, .int .u8 0, .int .u8 0, .int .u8 0, .int .u8 0, .int .u8 0, .int .u8 0, .int .u8 0, .int .u8 0, .int .u8 0, .int .u8 0, .int .u8 0, .int .u8 0, .int .u8 0, .int .u8 0, .int .u8 0, .int .u8 0, .int .u8 0, .int .u8 0, .int .u8 0, .int .u8 0, .int .u8 0, .int .u8 0, .int .u8 0, .int .u8 0, .int .u8 0, .int .u8 0, .int .u8 0, .int .u8 0, .int .u8 0, .int .u8 0] 282) = W1 at HB1 HF1 ⊢
  go_wp2_with fail
  go_loopw [0, 8] (fun nn kk wr => ∃ (m f : Nat) (acc : List UInt8), nn = .int .u64 (m : Int) ∧ kk = .int .i64 ((f : Int) + 1) ∧ f ≤ 63 ∧ m < 18446744073709551616 ∧ Hid (m < b ^ (f + 1)) ∧ Hid ((⟨(digF b sg (f + 1) m acc).toArray⟩ : ByteArray) = r) ∧ Hid (Filled wr w.heap.size (f + 1) acc) ∧ Hid (Below w.heap.size w wr)) (fun _ kk _ => (intOf kk).toNat)
  case atStart =>
    refine ⟨n, 63, [], rfl, rfl, Nat.le_refl _, hn, Lib.hid ?_, HR.out, HF1.out, HB1.out⟩
    have h1 : 2 ^ 64 ≤ b ^ 64 := Nat.pow_le_pow_left hb 64
    have h2 : (2 : Nat) ^ 64 = 18446744073709551616 := by decide
    show n < b ^ 64
    omega
  case round =>
    obtain ⟨m, f, acc, rfl, rfl, hf, hm, HP, HD, HF, HB⟩ := hrel
    obtain ⟨⟨x, hx⟩, hz⟩ := HF.out.cell
    have hmod : m % b < b := Nat.mod_lt _ (by omega)
    have hix : ∀ W, (Instr.index 9 (.string sg) (.int .u64 ((m : Int) % (b : Int)))).run Tryz.prog W = .ok (.int .u8 ((sgn sg (m % b)).toNat : Int)) W := by
      intro W
      rw [run_index_string (P := Tryz.prog) W 9 sg .u64 _ Tryz.underlying9]
      have e : (m : Int) % (b : Int) = ((m % b : Nat) : Int) := rfl
      rw [dif_pos ⟨by rw [e]; omega, by rw [e]; omega⟩]
      unfold sgn
      rw [dif_pos (by omega)]
      rfl
    have HN := Lib.hid (HF.out.step (sgn sg (m % b))).2
    have HBN : Hid (Below w.heap.size w (wr.setCell ⟨w.heap.size, f, none⟩ (.int .u8 ((sgn sg (m % b)).toNat : Int)))) := HB.out.setCell (p := ⟨w.heap.size, f, none⟩) (Nat.le_refl _) _
    have hdm : m / b < 18446744073709551616 := by have h := Nat.div_le_self m b; omega
    have d1 : (0 : Int) ≤ (m : Int) / (b : Int) := Int.natCast_nonneg (m / b)
    have d2 : (m : Int) / (b : Int) ≤ 18446744073709551615 := Int.ofNat_le.2 (Nat.le_of_lt_succ hdm)
    have HDV : Hid ((m : Int) / (b : Int) = ((m / b : Nat) : Int)) := rfl
    by_cases h0 : m / b = 0
    · have e0 : ((m : Int) / (b : Int) == 0) = true := by
        have : (m : Int) / (b : Int) = ((m / b : Nat) : Int) := rfl
        rw [this, h0]; rfl
      have hsl : (Instr.sliceAt 282 (.pointer (some ⟨w.heap.size, 0, none⟩)) (some (.int .i64 (f : Int))) none none).run Tryz.prog (wr.setCell ⟨w.heap.size, f, none⟩ (.int .u8 ((sgn sg (m % b)).toNat : Int))) = .ok (.slice (some ⟨w.heap.size, f, none⟩) (64 - f) (64 - f)) (wr.setCell ⟨w.heap.size, f, none⟩ (.int .u8 ((sgn sg (m % b)).toNat : Int))) := array_slice _ _ _ hf
      have hcv : (convert 42 9 (.slice (some ⟨w.heap.size, f, none⟩) (64 - f) (64 - f))).run Tryz.prog (wr.setCell ⟨w.heap.size, f, none⟩ (.int .u8 ((sgn sg (m % b)).toNat : Int))) = .ok (.string r) (wr.setCell ⟨w.heap.size, f, none⟩ (.int .u8 ((sgn sg (m % b)).toNat : Int))) := by
        obtain ⟨cs, c1, c2, c3, c4⟩ := HN.out
        have hl : (sgn sg (m % b) :: acc).length = 64 - f := by omega
        have := run_convert_bytes_back (P := Tryz.prog) (wr.setCell ⟨w.heap.size, f, none⟩ (.int .u8 ((sgn sg (m % b)).toNat : Int))) 42 9 5 ⟨w.heap.size, f, none⟩ (64 - f) (sgn sg (m % b) :: acc) Tryz.underlying42 Tryz.underlying5 Tryz.underlying9 (fun j hj => by
          have e : (⟨w.heap.size, f, none⟩ : Addr).add j = ⟨w.heap.size, f + j, none⟩ := by unfold Addr.add; split <;> simp_all
          rw [e, cell_of_heap' c1]
          exact c4 j hj)
        rw [hl] at this
        rw [this, ← HD.out]
        simp only [digF, h0, if_true]
      clear h0
      go_wp2_with fail
      go_ret
      exact ⟨rfl, HBN.out⟩
    · have e0 : ((m : Int) / (b : Int) == 0) = false := by
        have : (m : Int) / (b : Int) = ((m / b : Nat) : Int) := rfl
        rw [this]; simp; omega
      have H0 := Lib.hid h0
      clear h0
      go_wp2_with fail
      go_roundw
      case rel =>
        have h0 := H0.out
        have hp := HP.out
        cases f with
        | zero =>
          exfalso
          apply h0
          rw [Nat.zero_add, Nat.pow_one] at hp
          exact Nat.div_eq_of_lt hp
        | succ f =>
          refine ⟨m / b, f, _, by rw [HDV.out], rfl, by omega, hdm, Lib.hid ?_, Lib.hid ?_, HN.out, HBN.out⟩
          · rw [Nat.div_lt_iff_lt_mul (by omega), ← Nat.pow_succ]
            exact hp
          · have := HD.out
            rw [← this]
            conv => rhs; unfold digF
            rw [if_neg h0]
      case measure => simp [intOf]
end Go.Proofs.YtnalppgjbllehaaGreatDoor
