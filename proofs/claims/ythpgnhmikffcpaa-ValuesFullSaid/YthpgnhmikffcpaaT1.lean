/- How a value is told: Type, Hook, Cmp. Condition: its kind is one of the 23. -/
import Derived.Test.YthpgnhmikffcpaaR6
import Derived.Test.YthpgnhmikffcpaaM10
namespace Go.Proofs.Ythpgnhmikffcpaa
set_option linter.unusedVariables false
set_option linter.unusedSimpArgs false
open Go.RowKit

theorem Hook_any {w : World} {v : Value} {x : V} (h : IsV w v x) : Calls Try.prog 28 #[v] w fun e w' => e = .returned (.int .i64 x.base.hook) ∧ Below w.heap.size w w' := by
  have HV := Lib.hid h
  have hs := h.shape
  clear h
  rcases hs with rfl | ⟨t, y, rfl⟩
  all_goals
    go_enter Try.func28, Try.ntmps28
    go_wp2_with fail
    refine (base_any HV.out).mono ?_
    rintro e w1 ⟨rfl, hB⟩
    have HB := Lib.hid hB
    clear hB
    go_wp2_with fail
    go_ret
    exact ⟨rfl, HB.out.push _⟩
theorem Cmp_any {w : World} {va vb : Value} {a b : V} (ha : IsV w va a) (hb : IsV w vb b) (oa : a.ok) (ob : b.ok) : Calls Try.prog 21 #[va, vb] w (OrdPost w a b) := by
  have HC := Lib.hid (order_any ha hb oa ob)
  have h1 := ha.shape
  have h2 := hb.shape
  clear ha hb oa ob
  rcases h1 with rfl | ⟨t, y, rfl⟩ <;> rcases h2 with rfl | ⟨s, z, rfl⟩
  all_goals
    go_enter Try.func21, Try.ntmps21
    go_wp2_with fail
    refine HC.out.mono ?_
    rintro e w1 ⟨rfl, hB⟩
    have HB := Lib.hid hB
    clear hB
    go_wp2_with fail
    go_ret
    exact ⟨rfl, HB.out⟩

def kindNames : List ByteArray := [⟨#[60, 110, 105, 108, 62]⟩, ⟨#[98, 111, 111, 108]⟩, ⟨#[105, 110, 116, 56]⟩, ⟨#[105, 110, 116, 49, 54]⟩, ⟨#[105, 110, 116, 51, 50]⟩, ⟨#[105, 110, 116, 54, 52]⟩, ⟨#[105, 110, 116]⟩, ⟨#[117, 105, 110, 116, 56]⟩, ⟨#[117, 105, 110, 116, 49, 54]⟩, ⟨#[117, 105, 110, 116, 51, 50]⟩, ⟨#[117, 105, 110, 116, 54, 52]⟩, ⟨#[117, 105, 110, 116]⟩, ⟨#[102, 108, 111, 97, 116, 51, 50]⟩, ⟨#[102, 108, 111, 97, 116, 54, 52]⟩, ⟨#[99, 111, 109, 112, 108, 101, 120, 54, 52]⟩, ⟨#[99, 111, 109, 112, 108, 101, 120, 49, 50, 56]⟩, ⟨#[115, 116, 114, 105, 110, 103]⟩, ⟨#[91, 93, 117, 105, 110, 116, 56]⟩, ⟨#[115, 116, 114, 117, 99, 116]⟩, ⟨#[97, 114, 114, 97, 121]⟩, ⟨#[115, 108, 105, 99, 101]⟩, ⟨#[109, 97, 112]⟩, ⟨#[112, 116, 114]⟩]
/-- The name of its type. -/
def typeV (x : V) : ByteArray := if x.base.name = ⟨#[]⟩ then kindNames.getD x.base.kind.toNat ⟨#[]⟩ else x.base.name
theorem index_kinds (k : Int) (h0 : 0 ≤ k) (h1 : k ≤ 22) (w : World) : (Instr.index 74 (.agg #[.string ⟨#[60, 110, 105, 108, 62]⟩, .string ⟨#[98, 111, 111, 108]⟩, .string ⟨#[105, 110, 116, 56]⟩, .string ⟨#[105, 110, 116, 49, 54]⟩, .string ⟨#[105, 110, 116, 51, 50]⟩, .string ⟨#[105, 110, 116, 54, 52]⟩, .string ⟨#[105, 110, 116]⟩, .string ⟨#[117, 105, 110, 116, 56]⟩, .string ⟨#[117, 105, 110, 116, 49, 54]⟩, .string ⟨#[117, 105, 110, 116, 51, 50]⟩, .string ⟨#[117, 105, 110, 116, 54, 52]⟩, .string ⟨#[117, 105, 110, 116]⟩, .string ⟨#[102, 108, 111, 97, 116, 51, 50]⟩, .string ⟨#[102, 108, 111, 97, 116, 54, 52]⟩, .string ⟨#[99, 111, 109, 112, 108, 101, 120, 54, 52]⟩, .string ⟨#[99, 111, 109, 112, 108, 101, 120, 49, 50, 56]⟩, .string ⟨#[115, 116, 114, 105, 110, 103]⟩, .string ⟨#[91, 93, 117, 105, 110, 116, 56]⟩, .string ⟨#[115, 116, 114, 117, 99, 116]⟩, .string ⟨#[97, 114, 114, 97, 121]⟩, .string ⟨#[115, 108, 105, 99, 101]⟩, .string ⟨#[109, 97, 112]⟩, .string ⟨#[112, 116, 114]⟩]) (.int .i64 k)).run Try.prog w = .ok (.string (kindNames.getD k.toNat ⟨#[]⟩)) w := by
  rcases (show k = 0 ∨ k = 1 ∨ k = 2 ∨ k = 3 ∨ k = 4 ∨ k = 5 ∨ k = 6 ∨ k = 7 ∨ k = 8 ∨ k = 9 ∨ k = 10 ∨ k = 11 ∨ k = 12 ∨ k = 13 ∨ k = 14 ∨ k = 15 ∨ k = 16 ∨ k = 17 ∨ k = 18 ∨ k = 19 ∨ k = 20 ∨ k = 21 ∨ k = 22 by omega) with h | h | h | h | h | h | h | h | h | h | h | h | h | h | h | h | h | h | h | h | h | h | h
  all_goals (subst k; kernel_rfl)
theorem empty_or (nm : ByteArray) : (nm = ⟨#[]⟩ ∧ (!nm.toList.isEmpty) = false) ∨ (nm ≠ ⟨#[]⟩ ∧ (!nm.toList.isEmpty) = true) := by
  rw [Go.ByteArray.toList_eq]
  obtain ⟨l⟩ := nm
  obtain ⟨l⟩ := l
  cases l with
  | nil => exact .inl ⟨rfl, rfl⟩
  | cons a l => exact .inr ⟨by simp, rfl⟩

set_option maxRecDepth 100000 in
set_option maxHeartbeats 1000000 in
theorem Type_any {w : World} {v : Value} {x : V} (h : IsV w v x) (hk : 0 ≤ x.base.kind ∧ x.base.kind ≤ 22) : Calls Try.prog 25 #[v] w fun e w' => e = .returned (.string (typeV x)) ∧ Below w.heap.size w w' := by
  have hbase := base_any h
  have hs := h.shape
  clear h
  unfold BasePost at hbase
  have hT : typeV x = if x.base.name = ⟨#[]⟩ then kindNames.getD x.base.kind.toNat ⟨#[]⟩ else x.base.name := rfl
  generalize typeV x = T at hT ⊢
  generalize x.base.name = nm at hT hbase
  generalize x.base.kind = k at hT hbase hk
  generalize x.base.hook = hook at hbase
  generalize (!x.isNil) = bn at hbase
  have HBA := Lib.hid hbase
  clear hbase
  rcases empty_or nm with ⟨e1, e2⟩ | ⟨e1, e2⟩
  · rw [if_pos e1] at hT
    have hix := index_kinds k hk.1 hk.2
    rw [← hT] at hix
    clear hT hk e1
    rcases hs with rfl | ⟨t, y, rfl⟩
    all_goals
      go_enter Try.func25, Try.ntmps25
      go_wp2_with fail
      refine HBA.out.mono ?_
      rintro e w1 ⟨rfl, hB⟩
      have HB := Lib.hid hB
      clear hB
      go_wp2_with fail
      go_ret
      exact ⟨rfl, HB.out.push _⟩
  · rw [if_neg e1] at hT
    subst hT
    clear hk e1
    rcases hs with rfl | ⟨t, y, rfl⟩
    all_goals
      go_enter Try.func25, Try.ntmps25
      go_wp2_with fail
      refine HBA.out.mono ?_
      rintro e w1 ⟨rfl, hB⟩
      have HB := Lib.hid hB
      clear hB
      go_wp2_with fail
      go_ret
      exact ⟨rfl, HB.out.push _⟩
end Go.Proofs.Ythpgnhmikffcpaa
