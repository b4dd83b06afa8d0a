/- What Build throws is told as an error: the deferred closure. No condition. -/
import Derived.Test.YthpgnhmikffcpaaM7
import Derived.Defers
import Derived.Recover
import Derived.Deep.RegionLaw
namespace Go.Proofs.Ythpgnhmikffcpaa
set_option linter.unusedVariables false
set_option linter.unusedSimpArgs false
open Go.RowKit

theorem as63 (v : Value) (w : World) : (Instr.typeAssert (.iface 63 v) 20 63 true).run Try.prog w = .ok (.tuple #[v, .bool true]) w := by
  simp [Instr.typeAssert, run_underlying Try.underlying63]
theorem catch_panicking (p q B : Nat) (x y : Value) (c : Int) (older : List PanicEntry) (w : World) (hp : w.cell? ⟨p, 0, none⟩ = some x) (hq : w.cell? ⟨q, 0, none⟩ = some y) (zp : w.frozen? ⟨p, 0, none⟩ = false) (zq : w.frozen? ⟨q, 0, none⟩ = false)
    (hpq : p ≠ q) (hB : B ≤ p) (hB2 : B ≤ q) :
    CallsD Try.prog 34 #[.pointer (some ⟨p, 0, none⟩), .pointer (some ⟨q, 0, none⟩)] (.panicking ({ v := .iface 63 (.agg #[.int .i64 c]), recovered := false } :: older)) w fun e u' w' =>
      e = .returned (.tuple #[]) ∧ u' = .panicking ({ v := .iface 63 (.agg #[.int .i64 c]), recovered := true } :: older) ∧ Below B w w' ∧ w'.cell? ⟨p, 0, none⟩ = some .nilIface ∧ w'.cell? ⟨q, 0, none⟩ = some (.int .i64 c) := by
  have h63 := as63
  refine callsD_of_wpS Try.func34 rfl fun c₀ cs hu => ?_
  apply wpS_seq
  apply wpS_region
  simp [wpOpsS, go_sem, recoverD, hu, Try.ntmps34, Exit.thenS]
  refine wpS_of_wp ?_
  rw [show (#[Value.pointer (some ⟨p, 0, none⟩), Value.pointer (some ⟨q, 0, none⟩)] ++ (Array.replicate 11 undef).setIfInBounds 3 (Value.iface 63 (.agg #[.int .i64 c])) : Array Value) =
    #[.pointer (some ⟨p, 0, none⟩), .pointer (some ⟨q, 0, none⟩), undef, undef, undef, .iface 63 (.agg #[.int .i64 c]), undef, undef, undef, undef, undef, undef, undef] from rfl]
  go_wp2
  have lp := World.block_lt_of_cell? w _ hp
  have lq := World.block_lt_of_cell? w _ hq
  obtain ⟨W1, hW1⟩ : ∃ W1, W1 = w.alloc (.cells #[.int .i64 c] 63) := ⟨_, rfl⟩
  rw [← hW1]
  have b1 : Below B w W1 := by rw [hW1]; exact (Below.refl _ _).alloc (by simp at lp; omega) _
  have kp : W1.cell? ⟨p, 0, none⟩ = some x := by rw [hW1]; exact cell_below (Below.new _) hp
  have kq : W1.cell? ⟨q, 0, none⟩ = some y := by rw [hW1]; exact cell_below (Below.new _) hq
  have yp : W1.frozen? ⟨p, 0, none⟩ = false := by rw [hW1, (Below.new _).frozen (p := ⟨p, 0, none⟩) lp]; exact zp
  have yq : W1.frozen? ⟨q, 0, none⟩ = false := by rw [hW1, (Below.new _).frozen (p := ⟨q, 0, none⟩) lq]; exact zq
  have kn : W1.cell? ⟨w.heap.size, 0, none⟩ = some (.int .i64 c) := by rw [hW1]; simp
  have np : p ≠ w.heap.size := by simp at lp; omega
  have nq : q ≠ w.heap.size := by simp at lq; omega
  clear hW1 hp hq zp zq
  have hqp := Ne.symm hpq
  go_region
  go_wp2
  simp [bodyPostS, results, Try.f34]
  have k1 : (W1.cell? ⟨p, 0, none⟩).isSome = true := by rw [kp]; rfl
  have k2 : ((W1.setCell ⟨p, 0, none⟩ .nilIface).cell? ⟨q, 0, none⟩).isSome = true := by rw [World.cell?_setCell_other _ _ _ _ (by intro e; injection e; omega), kq]; rfl
  refine ⟨((b1.setCell (p := ⟨p, 0, none⟩) hB _).setCell (p := ⟨q, 0, none⟩) hB2 _).drew, ?_, World.cell?_setCell_same' _ _ _ k2⟩
  rw [World.cell?_setCell_other _ _ _ _ (by intro e; injection e; omega)]
  exact World.cell?_setCell_same' _ _ _ k1

theorem catch_idle (p q : Addr) (w : World) :
    CallsD Try.prog 34 #[.pointer (some p), .pointer (some q)] .returning w fun e u' w' => e = .returned (.tuple #[]) ∧ u' = .returning ∧ w = w' := by
  refine callsD_of_wpS Try.func34 rfl fun c₀ cs hu => ?_
  apply wpS_seq
  apply wpS_region
  simp [wpOpsS, go_sem, recoverD, hu, Try.ntmps34, Exit.thenS]
  refine wpS_of_wp ?_
  rw [show (#[Value.pointer (some p), Value.pointer (some q)] ++ (Array.replicate 11 undef).setIfInBounds 3 Value.nilIface : Array Value) =
    #[.pointer (some p), .pointer (some q), undef, undef, undef, .nilIface, undef, undef, undef, undef, undef, undef, undef] from rfl]
  go_wp2
  cases c₀
  simp_all [bodyPostS, results, Try.f34]

/-- The error. -/
def errD (d : D) : Int :=
  if ¬ (0 ≤ (countD d 64).1 ∧ (countD d 64).2 ≤ 1024) then 2
  else if 8 < depthD d then 6
  else if allD kindB d = false then 3
  else if allD formB d = false then 4
  else if mkV d = none then 5 else 0
/-- What Build hands back. -/
def BuildPost (w : World) (d : D) (e : Ending) (w' : World) : Prop :=
  Below w.heap.size w w' ∧ (errD d ≠ 0 → e = .returned (.tuple #[.nilIface, .int .i64 (errD d)])) ∧
    (errD d = 0 → ∃ t y x, mkV d = some x ∧ e = .returned (.tuple #[.iface t y, .int .i64 0]) ∧ IsVF (w.heap.size ≤ ·) w' (.iface t y) x)
end Go.Proofs.Ythpgnhmikffcpaa
