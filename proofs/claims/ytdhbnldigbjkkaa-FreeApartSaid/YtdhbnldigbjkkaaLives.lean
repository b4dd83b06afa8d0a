/- The document's examples of the store, walked: lives returns true and leaves what was there alone. No condition. -/
import Derived.Test.YtdhbnldigbjkkaaStore
import Derived.Test.YtdhbnldigbjkkaaBase
namespace Go.Proofs.Ytdhbnldigbjkkaa
open Go.RowKit Go.Conc


theorem Below.one {w : World} (o : Obj) : Below w.heap.size w (w.alloc o) := (Below.refl _ _).alloc (Nat.le_refl _) _

set_option maxHeartbeats 1000000 in
theorem lives_any (w : World) : Calls Try.prog 19 #[] w fun e w' => e = .returned (.bool true) ∧ Below w.heap.size w w' := by
  go_enter Try.func19, Try.ntmps19
  go_wp2_with fail
  have hL0 : (w.alloc (.cells #[.int .i64 0] 3)).heap[w.heap.size]? = some (.cells #[.int .i64 0] 3 (0, 0)) := heap_alloc_new w _
  have hB0 : Below w.heap.size w (w.alloc (.cells #[.int .i64 0] 3)) := Below.one _
  have hz0 : w.heap.size < (w.alloc (.cells #[.int .i64 0] 3)).heap.size := by simp
  generalize w.alloc (.cells #[.int .i64 0] 3) = w0 at hL0 hB0 hz0 ⊢
  refine (newI_any 1 _ _ (.inr ⟨31, _, rfl, rfl⟩) w0).mono ?_
  rintro e w1 ⟨b, c, rfl, hl, hb1, hc1, hb2, hc2, hB1⟩
  have hL1 := (hB1.block _ hz0).trans hL0
  have hBB1 := hB0.trans (hB1.mono (Nat.le_of_lt hz0))
  have hroom : room 1 = 1 := by unfold room; omega
  rw [hroom] at hl
  have hbw : w.heap.size ≤ b := by omega
  have hcw : w.heap.size ≤ c := by omega
  have hzw1 := hBB1.size
  clear hL0 hB0 hz0 hB1 hb1 hc1 hb2 hc2 hroom
  have HBB1 := Lib.hid hBB1
  have Hl := Lib.hid hl
  have HL1 := Lib.hid hL1
  clear hBB1 hl hL1
  go_wp2_with fail
  refine (get_made (.inl rfl) HL1.out Hl.out (by omega) (by omega) (by omega) (by omega)).mono ?_
  rintro e w2 ⟨rfl, hl2, hL2, hk2⟩
  have HBB2 := Lib.hid (hk2.below HBB1.out (by simp; omega) hzw1)
  have hzw2 := Nat.le_trans hzw1 hk2.size
  have Hl2 := Lib.hid hl2
  have HL2 := Lib.hid hL2
  clear hl2 hL2 hk2 HBB1 Hl HL1
  go_wp2_with fail
  refine (putI_room 5 Hl2.out (by simp)).mono ?_
  rintro e w3 ⟨rfl, hl3, hk3⟩
  have hn := Hl2.out.neCell HL2.out
  have HL3 := Lib.hid (hk3.toS.old HL2.out (by simp [hn.1, hn.2]))
  have HBB3 := Lib.hid (hk3.toS.below HBB2.out (by simp; omega) hzw2)
  have hzw3 := Nat.le_trans hzw2 hk3.size
  have Hl3 := Lib.hid hl3
  clear hl3 hk3 Hl2 HL2 HBB2
  go_wp2_with fail
  refine (putI_full 6 Hl3.out (by simp)).mono ?_
  rintro e w4 ⟨rfl, rfl⟩
  go_wp2_with fail
  refine (getI_some (x := .int .i64 5) Hl3.out (by simp) (by simp)).mono ?_
  rintro e w5 ⟨rfl, hl5, hk5⟩
  have HL5 := Lib.hid (hk5.toS.old HL3.out (by simp [hn.1, hn.2]))
  have HBB5 := Lib.hid (hk5.toS.below HBB3.out (by simp; omega) hzw3)
  have Hl5 := Lib.hid hl5
  clear hl5 hk5 Hl3 HL3 HBB3 hn
  go_wp2_with fail
  refine (lenI_any Hl5.out).mono ?_
  rintro e w6 ⟨rfl, rfl⟩
  go_wp2_with fail
  refine (madeI_any Hl5.out).mono ?_
  rintro e w7 ⟨rfl, rfl⟩
  have hc := cell_of_one HL5.out
  have HB := HBB5
  clear HBB5 Hl5 HL5
  go_wp2_with fail
  go_ret
  exact ⟨rfl, HB.out⟩
end Go.Proofs.Ytdhbnldigbjkkaa
