/- Iterators over a value's items are made: tree's list, entries, fields. No condition. -/
import Derived.Test.YtkpfeodffhfejaaGreatDoorCA44
import Derived.Test.YtkpfeodffhfejaaGreatDoorCA28
namespace Go.Proofs.YtkpfeodffhfejaaGreatDoor
set_option linter.unusedVariables false
set_option linter.unusedSimpArgs false
open Go.RowKit

set_option maxHeartbeats 4000000 in
set_option maxRecDepth 1000000 in
theorem list_made (f : SpecD) (k : Value) (kd : Int) (nm : ByteArray) (hk : Int) (a : Option Addr) (n c : Nat) (dep : Int) (w : World) :
    Calls Tryz.prog 82 #[.agg #[.bool f.plus, .bool f.minus, .bool f.sharp, .bool f.space, .bool f.zero, .int .i64 f.wid, .int .i64 f.prec, .int .i32 f.verb, k], .agg #[.int .i64 kd, .string nm, .int .i64 hk, .slice a n c], .int .i64 dep] w fun e w' => e = .returned (.func (.func 109) #[] #[.pointer (some ⟨w.heap.size + 1, 0, none⟩), .pointer (some ⟨w.heap.size, 0, none⟩), .pointer (some ⟨w.heap.size + 1 + 1, 0, none⟩)]) ∧
      w' = ((w.alloc (.cells #[.bool f.plus, .bool f.minus, .bool f.sharp, .bool f.space, .bool f.zero, .int .i64 f.wid, .int .i64 f.prec, .int .i32 f.verb, k] 57)).alloc (.cells #[.int .i64 kd, .string nm, .int .i64 hk, .slice a n c] 101)).alloc (.cells #[.int .i64 dep] 3) := by
  go_enter Tryz.func82, Tryz.ntmps82
  go_wp2_with fail
  go_ret
  exact ⟨rfl, rfl⟩
set_option maxHeartbeats 4000000 in
set_option maxRecDepth 1000000 in
theorem entries_made (f : SpecD) (k : Value) (kd : Int) (nm : ByteArray) (hk : Int) (a : Option Addr) (n c : Nat) (dep : Int) (w : World) :
    Calls Tryz.prog 83 #[.agg #[.bool f.plus, .bool f.minus, .bool f.sharp, .bool f.space, .bool f.zero, .int .i64 f.wid, .int .i64 f.prec, .int .i32 f.verb, k], .agg #[.int .i64 kd, .string nm, .int .i64 hk, .slice a n c], .int .i64 dep] w fun e w' => e = .returned (.func (.func 110) #[] #[.pointer (some ⟨w.heap.size + 1, 0, none⟩), .pointer (some ⟨w.heap.size, 0, none⟩), .pointer (some ⟨w.heap.size + 1 + 1, 0, none⟩)]) ∧
      w' = ((w.alloc (.cells #[.bool f.plus, .bool f.minus, .bool f.sharp, .bool f.space, .bool f.zero, .int .i64 f.wid, .int .i64 f.prec, .int .i32 f.verb, k] 57)).alloc (.cells #[.int .i64 kd, .string nm, .int .i64 hk, .slice a n c] 104)).alloc (.cells #[.int .i64 dep] 3) := by
  go_enter Tryz.func83, Tryz.ntmps83
  go_wp2_with fail
  go_ret
  exact ⟨rfl, rfl⟩
def namesB (f : SpecD) : Bool := decide (f.verb = 118) && (f.plus || f.sharp)
set_option maxHeartbeats 4000000 in
set_option maxRecDepth 1000000 in
theorem fields_made (f : SpecD) (k : Value) (kd : Int) (nm : ByteArray) (hk : Int) (a : Option Addr) (n c : Nat) (dep : Int) (w : World) :
    Calls Tryz.prog 81 #[.agg #[.bool f.plus, .bool f.minus, .bool f.sharp, .bool f.space, .bool f.zero, .int .i64 f.wid, .int .i64 f.prec, .int .i32 f.verb, k], .agg #[.int .i64 kd, .string nm, .int .i64 hk, .slice a n c], .int .i64 dep] w fun e w' => e = .returned (.func (.func 108) #[] #[.pointer (some ⟨w.heap.size + 1, 0, none⟩), .pointer (some ⟨w.heap.size, 0, none⟩), .pointer (some ⟨w.heap.size + 1 + 1, 0, none⟩), .pointer (some ⟨w.heap.size + 1 + 1 + 1, 0, none⟩)]) ∧
      w' = (((w.alloc (.cells #[.bool f.plus, .bool f.minus, .bool f.sharp, .bool f.space, .bool f.zero, .int .i64 f.wid, .int .i64 f.prec, .int .i32 f.verb, k] 57)).alloc (.cells #[.int .i64 kd, .string nm, .int .i64 hk, .slice a n c] 99)).alloc (.cells #[.int .i64 dep] 3)).alloc (.cells #[.bool (namesB f)] 4) := by
  obtain ⟨r, hr⟩ : ∃ r, namesB f = r := ⟨_, rfl⟩
  rw [hr]
  by_cases hv : f.verb = 118
  · have hv' : (f.verb == 118) = true := by rw [hv]; rfl
    rcases Bool.eq_false_or_eq_true f.plus with hp | hp
    · obtain rfl : true = r := by rw [← hr]; unfold namesB; rw [hv, hp]; rfl
      clear hr hv
      go_enter Tryz.func81, Tryz.ntmps81
      go_wp2_with fail
      go_ret
      exact ⟨rfl, by rw [hp]⟩
    · obtain rfl : f.sharp = r := by rw [← hr]; unfold namesB; rw [hv, hp]; rfl
      clear hr hv
      go_enter Tryz.func81, Tryz.ntmps81
      go_wp2_with fail
      go_ret
      exact ⟨rfl, by rw [hp]⟩
  · have hv' : (f.verb == 118) = false := by simpa using hv
    obtain rfl : false = r := by rw [← hr]; unfold namesB; simp [hv]
    clear hr hv
    go_enter Tryz.func81, Tryz.ntmps81
    go_wp2_with fail
    go_ret
    exact ⟨rfl, rfl⟩
end Go.Proofs.YtkpfeodffhfejaaGreatDoor

/- Two operations alone may come up in a region that draws its order. No condition. -/
namespace Go.Proofs.YtkpfeodffhfejaaGreatDoor
set_option linter.unusedVariables false
open Go
section
variable {P : Program} {ops : Array Oper} {Q : Exit → Act → World → Prop} {md : Region.Mode} {S T : World → Prop} {late : List Nat}
theorem late_step (k : Nat) {o : Oper} {n : Nat} {listed : Array Bool} {a : Act} {w : World} (ho : ops[k]? = some o)
    (h : ∀ K : Act → World → Prop, (∀ a' w', (quietB late (listed.setIfInBounds k true) = true → S w') → T w' → AnyLate P md ops Q late S T n (listed.setIfInBounds k true) a' w' → K a' w') →
      if Region.wanted o (yielded ops a.tmps) = true then Oper.wp P o a w K Q else K (a.put o.dst undef) w) :
    wpOp P ops Q k (fun a' w' => ((quietB late (listed.setIfInBounds k true) = true → S w') ∧ T w') ∧ AnyLate P md ops Q late S T n (listed.setIfInBounds k true) a' w') a w := by
  have q := h (fun a' w' => ((quietB late (listed.setIfInBounds k true) = true → S w') ∧ T w') ∧ AnyLate P md ops Q late S T n (listed.setIfInBounds k true) a' w') fun a' w' h1 h2 h3 => ⟨⟨h1, h2⟩, h3⟩
  unfold wpOp
  simp only [ho]
  split
  · rename_i hw
    rw [if_pos hw] at q
    exact .inl q
  · rename_i hw
    rw [if_neg hw] at q
    exact q
/-- Two alone may come up. -/
theorem late_two (k l : Nat) {o o2 : Oper} {n : Nat} {listed : Array Bool} {a : Act} {w : World} (ho : ops[k]? = some o) (ho2 : ops[l]? = some o2) (hr : Region.ready md ops listed = [k, l])
    (h : ∀ K : Act → World → Prop, (∀ a' w', (quietB late (listed.setIfInBounds k true) = true → S w') → T w' → AnyLate P md ops Q late S T n (listed.setIfInBounds k true) a' w' → K a' w') →
      if Region.wanted o (yielded ops a.tmps) = true then Oper.wp P o a w K Q else K (a.put o.dst undef) w)
    (h2 : ∀ K : Act → World → Prop, (∀ a' w', (quietB late (listed.setIfInBounds l true) = true → S w') → T w' → AnyLate P md ops Q late S T n (listed.setIfInBounds l true) a' w' → K a' w') →
      if Region.wanted o2 (yielded ops a.tmps) = true then Oper.wp P o2 a w K Q else K (a.put o2.dst undef) w) : AnyLate P md ops Q late S T (n + 1) listed a w := by
  refine ⟨(fun h0 => by rw [hr] at h0; cases h0), fun i hi => ?_⟩
  rw [hr] at hi
  rcases List.mem_cons.1 hi with rfl | hi
  · exact late_step i ho h
  · obtain rfl := List.mem_singleton.1 hi
    exact late_step i ho2 h2
end
end Go.Proofs.YtkpfeodffhfejaaGreatDoor
