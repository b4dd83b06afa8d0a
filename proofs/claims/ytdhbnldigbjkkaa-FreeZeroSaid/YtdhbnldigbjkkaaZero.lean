/- FreeZero, walked: it returns true and leaves what was there alone. No condition. -/
import Derived.Test.YtdhbnldigbjkkaaLives
namespace Go.Proofs.Ytdhbnldigbjkkaa
open Go.RowKit Go.Conc


theorem sz3 : (Try.prog.info? 3).map (·.size) = some 1 := by kernel_rfl
theorem equalInInt (w : World) (d : Nat) (x u : Int) : Sem.run Try.prog (Op.equalIn (d + 1) 3 (.int .i64 x) (.int .i64 u)) w = .ok (x == u) w := by
  simp [Op.equalIn, run_underlying Try.underlying3]
theorem equalInArr (w : World) (d : Nat) (h : ∀ x u w, Sem.run Try.prog (Op.equalIn d 3 (.int .i64 x) (.int .i64 u)) w = .ok (x == u) w) (x y u v : Int) :
    Sem.run Try.prog (Op.equalIn (d + 1) 49 (.agg #[.int .i64 x, .int .i64 y]) (.agg #[.int .i64 u, .int .i64 v])) w = .ok (x == u && y == v) w := by
  obtain ⟨i, hi, hs⟩ := Option.map_eq_some_iff.1 sz3
  simp [Op.equalIn, run_underlying Try.underlying49, sizeOf, typeInfo, hi, hs, h, part, List.range']
  by_cases h1 : x = u <;> by_cases h2 : y = v <;> simp [h1, h2]
theorem eqlArr (w : World) (x y u v : Int) : Sem.run Try.prog (binOp .eql 49 (.agg #[.int .i64 x, .int .i64 y]) (.agg #[.int .i64 u, .int .i64 v])) w = .ok (.bool (x == u && y == v)) w := by
  simp only [binOp]
  simp [Op.equal, Op.maxDepth, equalInArr w 9999 (fun x u w => equalInInt w 9998 x u)]

set_option maxHeartbeats 1000000 in
theorem zero_law (n x y : Int) (w : World) : Calls Try.prog 7 #[.int .i64 n, .agg #[.int .i64 x, .int .i64 y]] w fun e w' => e = .returned (.bool true) ∧ Below w.heap.size w w' := by
  have hs : ((0:Int) == 0 && (0:Int) == 0) = true := rfl
  go_enter Try.func7, Try.ntmps7
  go_wp2_with fail
  have hX : (w.alloc (.cells #[.int .i64 x, .int .i64 y] 49)).heap[w.heap.size]? = some (.cells #[.int .i64 x, .int .i64 y] 49 (0, 0)) := heap_alloc_new w _
  have hB := Below.one (w := w) (.cells #[.int .i64 x, .int .i64 y] 49)
  have hz : w.heap.size < (w.alloc (.cells #[.int .i64 x, .int .i64 y] 49)).heap.size := by simp
  generalize w.alloc (.cells #[.int .i64 x, .int .i64 y] 49) = w0 at hX hB hz ⊢
  refine (newA_any n .nilFunc _ (.inl ⟨rfl, rfl⟩) w0).mono ?_
  rintro e w1 ⟨b, c, rfl, hl, hb1, hc1, hb2, hc2, hB1⟩
  have hX1 := (hB1.block _ hz).trans hX
  have HB := Lib.hid (hB.trans (hB1.mono (Nat.le_of_lt hz)))
  have hz1 : w.heap.size < w1.heap.size := Nat.lt_of_lt_of_le hz hB1.size
  have hbw : w.heap.size < b := by omega
  have hcw : w.heap.size < c := by omega
  clear hX hB hz hB1 hb1 hc1 hb2 hc2
  have HX := Lib.hid hX1
  have HL := Lib.hid hl
  clear hX1 hl
  go_wp2_with fail
  refine (getA_none HL.out (by omega) (by omega)).mono ?_
  rintro e w2 ⟨rfl, hl, hk⟩
  have HX2 := Lib.hid (hk.toS.old HX.out (by simp; omega))
  have HB2 := Lib.hid (hk.toS.below HB.out (by simp; omega) (Nat.le_of_lt hz1))
  have hz2 := Nat.lt_of_lt_of_le hz1 hk.size
  have HL2 := Lib.hid hl
  clear hl hk HX HB HL
  have hx0 : w2.cell? ⟨w.heap.size, 0, none⟩ = some (.int .i64 x) := by have := HX2.out; simp [World.cell?, this]
  have hx1 : w2.cell? ⟨w.heap.size, 1, none⟩ = some (.int .i64 y) := by have := HX2.out; simp [World.cell?, this]
  go_wp2_with fail
  have HA := Lib.hid (heap_alloc_new w2 (.cells #[.int .i64 0, .int .i64 0] 49))
  have HX3 := Lib.hid ((Below.one (w := w2) (.cells #[.int .i64 0, .int .i64 0] 49)).block _ hz2 |>.trans HX2.out)
  have HB3 := Lib.hid (HB2.out.trans ((Below.one (w := w2) (.cells #[.int .i64 0, .int .i64 0] 49)).mono (Nat.le_of_lt hz2)))
  have HL3 := Lib.hid (HL2.out.alloc (.cells #[.int .i64 0, .int .i64 0] 49))
  have hz3 : w2.heap.size < (w2.alloc (.cells #[.int .i64 0, .int .i64 0] 49)).heap.size := by simp
  obtain ⟨A, hA⟩ : ∃ A, A = w2.heap.size := ⟨_, rfl⟩
  have hab : A ≠ b := by have := HL2.out.blt; omega
  have hac : A ≠ c := by have := HL2.out.clt; omega
  have hA2 : w.heap.size < A := by omega
  rw [← hA] at HA hz3 ⊢
  clear hx0 hx1 HX2 HB2 HL2 hA
  generalize w2.alloc (.cells #[.int .i64 0, .int .i64 0] 49) = w3 at HA HX3 HB3 HL3 hz3 ⊢
  by_cases hn : 0 < n
  · have hr : 0 < room n := by unfold room; omega
    refine (putA_room x y HL3.out hr).mono ?_
    rintro e w4 ⟨rfl, hl, hk⟩
    have HX4 := Lib.hid (hk.toS.old HX3.out (by simp; omega))
    have HA4 := Lib.hid (hk.toS.old HA.out (by simp [hab, hac]))
    have HB4 := Lib.hid (hk.toS.below HB3.out (by simp; omega) (by omega))
    have hz4 := Nat.lt_of_lt_of_le hz3 hk.size
    have HL4 := Lib.hid hl
    clear hl hk HX3 HA HB3 HL3 hr
    go_wp2_with fail
    refine (getA_some HL4.out).mono ?_
    rintro e w5 ⟨rfl, hl, hk⟩
    have HX5 := Lib.hid (hk.toS.old HX4.out (by simp; omega))
    have HA5 := Lib.hid (hk.toS.old HA4.out (by simp [hab, hac]))
    have HB5 := Lib.hid (hk.toS.below HB4.out (by simp; omega) (by omega))
    have hz5 := Nat.lt_of_lt_of_le hz4 hk.size
    have HL5 := Lib.hid hl
    clear hl hk HX4 HA4 HB4 HL4
    have hw5 : w.heap.size < w5.heap.size := by omega
    have hx0 : w5.cell? ⟨w.heap.size, 0, none⟩ = some (.int .i64 x) := by have := HX5.out; simp [World.cell?, this]
    have hx1 : w5.cell? ⟨w.heap.size, 1, none⟩ = some (.int .i64 y) := by have := HX5.out; simp [World.cell?, this]
    have ha0 : w5.cell? ⟨A, 0, none⟩ = some (.int .i64 0) := by have := HA5.out; simp [World.cell?, this]
    have ha1 : w5.cell? ⟨A, 1, none⟩ = some (.int .i64 0) := by have := HA5.out; simp [World.cell?, this]
    have heq := fun W x y u v => eqlArr W x y u v
    have hn' : decide (0 < n) = true := by simpa using hn
    go_wp2_with fail
    refine (madeA_any (HL5.out.alloc _)).mono ?_
    rintro e w6 ⟨rfl, rfl⟩
    go_wp2_with fail
    refine (lives_any _).mono ?_
    rintro e w7 ⟨rfl, hB7⟩
    have H7 := Lib.hid ((HB5.out.alloc (Nat.le_of_lt hw5) (.cells #[.int .i64 x, .int .i64 y] 49)).trans (hB7.mono (by simp; omega)))
    clear hB7
    go_wp2_with fail
    go_ret
    exact ⟨rfl, H7.out⟩
  · have hr : room n = 0 := by unfold room; omega
    refine (putA_full x y HL3.out (by simp [hr])).mono ?_
    rintro e w4 ⟨rfl, hl, hk⟩
    have HX4 := Lib.hid (hk.toS.old HX3.out (by simp; omega))
    have HA4 := Lib.hid (hk.toS.old HA.out (by simp [hab, hac]))
    have HB4 := Lib.hid (hk.toS.below HB3.out (by simp; omega) (by omega))
    have hz4 := Nat.lt_of_lt_of_le hz3 hk.size
    have HL4 := Lib.hid hl
    clear hl hk HX3 HA HB3 HL3 hr
    go_wp2_with fail
    refine (getA_none HL4.out (by omega) (by omega)).mono ?_
    rintro e w5 ⟨rfl, hl, hk⟩
    have HX5 := Lib.hid (hk.toS.old HX4.out (by simp; omega))
    have HA5 := Lib.hid (hk.toS.old HA4.out (by simp [hab, hac]))
    have HB5 := Lib.hid (hk.toS.below HB4.out (by simp; omega) (by omega))
    have hz5 := Nat.lt_of_lt_of_le hz4 hk.size
    have HL5 := Lib.hid hl
    clear hl hk HX4 HA4 HB4 HL4
    have hw5 : w.heap.size < w5.heap.size := by omega
    have hx0 : w5.cell? ⟨w.heap.size, 0, none⟩ = some (.int .i64 x) := by have := HX5.out; simp [World.cell?, this]
    have hx1 : w5.cell? ⟨w.heap.size, 1, none⟩ = some (.int .i64 y) := by have := HX5.out; simp [World.cell?, this]
    have ha0 : w5.cell? ⟨A, 0, none⟩ = some (.int .i64 0) := by have := HA5.out; simp [World.cell?, this]
    have ha1 : w5.cell? ⟨A, 1, none⟩ = some (.int .i64 0) := by have := HA5.out; simp [World.cell?, this]
    have heq := fun W x y u v => eqlArr W x y u v
    have hn' : decide (0 < n) = false := by simpa using hn
    go_wp2_with fail
    refine (madeA_any (HL5.out.alloc _)).mono ?_
    rintro e w6 ⟨rfl, rfl⟩
    go_wp2_with fail
    refine (lives_any _).mono ?_
    rintro e w7 ⟨rfl, hB7⟩
    have H7 := Lib.hid ((HB5.out.alloc (Nat.le_of_lt hw5) (.cells #[.int .i64 0, .int .i64 0] 49)).trans (hB7.mono (by simp; omega)))
    clear hB7
    go_wp2_with fail
    go_ret
    exact ⟨rfl, H7.out⟩
end Go.Proofs.Ytdhbnldigbjkkaa
