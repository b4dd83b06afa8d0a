/- The document's examples of trees are as it says: the law's lives. No condition. -/
import Derived.Test.YtkpfeodffhfejaaGreatDoorCA48
import Derived.Test.YtkpfeodffhfejaaGreatDoorCA35
namespace Go.Proofs.YtkpfeodffhfejaaGreatDoor
set_option linter.unusedVariables false
set_option linter.unusedSimpArgs false
set_option maxRecDepth 1000000
open Go.RowKit

def BuildIs (w : World) (x : V) (e : Ending) (w' : World) : Prop := Below w.heap.size w w' ∧ ∃ t y, e = .returned (.tuple #[.iface t y, .int .i64 0]) ∧ IsV w' (.iface t y) x
theorem build_is {d : D} {x : V} (he : errD d = 0) (hm : mkV d = some x) {w : World} {v : Value} (h : IsD w v d) : Calls Tryz.prog 18 #[v] w (BuildIs w x) := by
  refine (build_any h).mono ?_
  rintro e w' ⟨h1, _, h3⟩
  obtain ⟨t, y, x', hx, rfl, hv⟩ := h3 he
  rw [hm] at hx
  injection hx with hx
  subst hx
  exact ⟨h1, t, y, rfl, hv.isV⟩
theorem isD_T (W : World) (g p : Nat) (hn0 : W.cell? ⟨g, 0, none⟩ = some (.string ⟨#[65]⟩)) (hn1 : W.cell? ⟨g, 1, none⟩ = some (.string ⟨#[66]⟩)) (hp : PartsAt W (some ⟨p, 0, none⟩) 2 [dI, dX]) : IsD W (aggD dT (some ⟨g, 0, none⟩) 2 (some ⟨p, 0, none⟩) 2) dT := by
  obtain ⟨h1, h2, b, o, h3, h4⟩ := hp
  have h3 := h3 (by decide)
  exact .mk dT (some ⟨g, 0, none⟩) 2 (some ⟨p, 0, none⟩) 2 b o ⟨by decide, by decide⟩ ⟨by decide, by decide⟩ ⟨by decide, by decide⟩ ⟨by decide, by decide⟩ (by unfold cap47; decide) (by unfold cap47; decide)
    ⟨Nat.le_refl _, by unfold cap47; decide, g, 0, fun _ => rfl, fun i hi => by
      rcases (show i = 0 ∨ i = 1 by have : dT.names.length = 2 := rfl; omega) with rfl | rfl
      · exact hn0
      · exact hn1, fun x hx => by
      have hx : x ∈ [(⟨#[65]⟩ : ByteArray), ⟨#[66]⟩] := hx
      rcases List.mem_cons.1 hx with rfl | hx
      · exact (by unfold cap47; decide)
      · rcases List.mem_cons.1 hx with rfl | hx
        · exact (by unfold cap47; decide)
        · cases hx⟩ (Nat.le_refl _) (by unfold cap47; decide) (fun _ => h3) h4
theorem isD_P (W : World) (p g q : Nat) (hT : IsD W (aggD dT (some ⟨g, 0, none⟩) 2 (some ⟨q, 0, none⟩) 2) dT) (hr : RowD W p 0 dT (some ⟨g, 0, none⟩) 2 (some ⟨q, 0, none⟩) 2) : IsD W (aggD dP none 0 (some ⟨p, 0, none⟩) 1) dP := by
  refine .mk dP none 0 (some ⟨p, 0, none⟩) 1 p 0 ⟨by decide, by decide⟩ ⟨by decide, by decide⟩ ⟨by decide, by decide⟩ ⟨by decide, by decide⟩ (by unfold cap47; decide) (by unfold cap47; decide)
    ⟨Nat.le_refl _, by unfold cap47; decide, 0, 0, fun h => absurd h (by decide), fun i h => absurd h (Nat.not_lt_zero _), fun x hx => by cases hx⟩ (Nat.le_refl _) (by unfold cap47; decide) (fun _ => rfl) (fun i h => ?_)
  have hi : i = 0 := by have : dP.parts.length = 1 := rfl; omega
  subst hi
  have e : rowD W p (0 + 0 * 8) = aggD dT (some ⟨g, 0, none⟩) 2 (some ⟨q, 0, none⟩) 2 := hr.eq
  rw [e]
  exact hT
theorem lives_start (w : World) : IsD (((w.alloc (.cells #[.string ⟨#[65]⟩, .string ⟨#[66]⟩] 9)).alloc (.cells #[.int .i64 6, .string ⟨#[]⟩, .int .u64 1, .int .u64 0, .string ⟨#[]⟩, .slice none 0 0, .slice none 0 0, .int .i64 0, .int .i64 16, .string ⟨#[]⟩, .int .u64 0, .int .u64 0, .string ⟨#[120]⟩, .slice none 0 0, .slice none 0 0, .int .i64 0] 26)).alloc (.cells #[.int .i64 18, .string ⟨#[84]⟩, .int .u64 0, .int .u64 0, .string ⟨#[]⟩, .slice (some ⟨w.heap.size, 0, none⟩) 2 2, .slice (some ⟨w.heap.size + 1, 0, none⟩) 2 2, .int .i64 0] 26)) (aggD dT (some ⟨w.heap.size, 0, none⟩) 2 (some ⟨w.heap.size + 1, 0, none⟩) 2) dT := by
  have h0 := heap_alloc_new w (.cells #[.string ⟨#[65]⟩, .string ⟨#[66]⟩] 9)
  have hp := parts_new (w.alloc (.cells #[.string ⟨#[65]⟩, .string ⟨#[66]⟩] 9)) [dI, dX] (by decide) (by
    intro d hd
    rcases List.mem_cons.1 hd with rfl | hd
    · exact ⟨plain_I, rfl, rfl⟩
    · rcases List.mem_cons.1 hd with rfl | hd
      · exact ⟨plain_X, rfl, rfl⟩
      · cases hd)
  have hz : (w.alloc (.cells #[.string ⟨#[65]⟩, .string ⟨#[66]⟩] 9)).heap.size = w.heap.size + 1 := by simp
  rw [hz] at hp
  have hb1 : Below (w.alloc (.cells #[.string ⟨#[65]⟩, .string ⟨#[66]⟩] 9)).heap.size (w.alloc (.cells #[.string ⟨#[65]⟩, .string ⟨#[66]⟩] 9)) (((w.alloc (.cells #[.string ⟨#[65]⟩, .string ⟨#[66]⟩] 9)).alloc (.cells #[.int .i64 6, .string ⟨#[]⟩, .int .u64 1, .int .u64 0, .string ⟨#[]⟩, .slice none 0 0, .slice none 0 0, .int .i64 0, .int .i64 16, .string ⟨#[]⟩, .int .u64 0, .int .u64 0, .string ⟨#[120]⟩, .slice none 0 0, .slice none 0 0, .int .i64 0] 26)).alloc (.cells #[.int .i64 18, .string ⟨#[84]⟩, .int .u64 0, .int .u64 0, .string ⟨#[]⟩, .slice (some ⟨w.heap.size, 0, none⟩) 2 2, .slice (some ⟨w.heap.size + 1, 0, none⟩) 2 2, .int .i64 0] 26)) := (Below.new _).push _
  have hb2 : Below ((w.alloc (.cells #[.string ⟨#[65]⟩, .string ⟨#[66]⟩] 9)).alloc (.cells #[.int .i64 6, .string ⟨#[]⟩, .int .u64 1, .int .u64 0, .string ⟨#[]⟩, .slice none 0 0, .slice none 0 0, .int .i64 0, .int .i64 16, .string ⟨#[]⟩, .int .u64 0, .int .u64 0, .string ⟨#[120]⟩, .slice none 0 0, .slice none 0 0, .int .i64 0] 26)).heap.size ((w.alloc (.cells #[.string ⟨#[65]⟩, .string ⟨#[66]⟩] 9)).alloc (.cells #[.int .i64 6, .string ⟨#[]⟩, .int .u64 1, .int .u64 0, .string ⟨#[]⟩, .slice none 0 0, .slice none 0 0, .int .i64 0, .int .i64 16, .string ⟨#[]⟩, .int .u64 0, .int .u64 0, .string ⟨#[120]⟩, .slice none 0 0, .slice none 0 0, .int .i64 0] 26)) (((w.alloc (.cells #[.string ⟨#[65]⟩, .string ⟨#[66]⟩] 9)).alloc (.cells #[.int .i64 6, .string ⟨#[]⟩, .int .u64 1, .int .u64 0, .string ⟨#[]⟩, .slice none 0 0, .slice none 0 0, .int .i64 0, .int .i64 16, .string ⟨#[]⟩, .int .u64 0, .int .u64 0, .string ⟨#[120]⟩, .slice none 0 0, .slice none 0 0, .int .i64 0] 26)).alloc (.cells #[.int .i64 18, .string ⟨#[84]⟩, .int .u64 0, .int .u64 0, .string ⟨#[]⟩, .slice (some ⟨w.heap.size, 0, none⟩) 2 2, .slice (some ⟨w.heap.size + 1, 0, none⟩) 2 2, .int .i64 0] 26)) := Below.new _
  refine isD_T _ _ _ (cell_below hb1 ?_) (cell_below hb1 ?_) (PartsAt.below hb2 hp)
  · exact cell_of_heap' h0 0
  · exact cell_of_heap' h0 1
set_option maxHeartbeats 8000000 in
theorem lives_any (w : World) : Calls Tryz.prog 15 #[] w (Ret w (.bool true)) := by
  have HT := Lib.hid (lives_start w)
  have HB := Lib.hid (((Below.new (w := w) (.cells #[.string ⟨#[65]⟩, .string ⟨#[66]⟩] 9)).push (.cells #[.int .i64 6, .string ⟨#[]⟩, .int .u64 1, .int .u64 0, .string ⟨#[]⟩, .slice none 0 0, .slice none 0 0, .int .i64 0, .int .i64 16, .string ⟨#[]⟩, .int .u64 0, .int .u64 0, .string ⟨#[120]⟩, .slice none 0 0, .slice none 0 0, .int .i64 0] 26)).push (.cells #[.int .i64 18, .string ⟨#[84]⟩, .int .u64 0, .int .u64 0, .string ⟨#[]⟩, .slice (some ⟨w.heap.size, 0, none⟩) 2 2, .slice (some ⟨w.heap.size + 1, 0, none⟩) 2 2, .int .i64 0] 26))
  go_enter Tryz.func15, Tryz.ntmps15
  go_upto_region 2 with fail
  have hA := cell_of_heap' (heap_alloc_new ((w.alloc (.cells #[.string ⟨#[65]⟩, .string ⟨#[66]⟩] 9)).alloc (.cells #[.int .i64 6, .string ⟨#[]⟩, .int .u64 1, .int .u64 0, .string ⟨#[]⟩, .slice none 0 0, .slice none 0 0, .int .i64 0, .int .i64 16, .string ⟨#[]⟩, .int .u64 0, .int .u64 0, .string ⟨#[120]⟩, .slice none 0 0, .slice none 0 0, .int .i64 0] 26)) (.cells #[.int .i64 18, .string ⟨#[84]⟩, .int .u64 0, .int .u64 0, .string ⟨#[]⟩, .slice (some ⟨w.heap.size, 0, none⟩) 2 2, .slice (some ⟨w.heap.size + 1, 0, none⟩) 2 2, .int .i64 0] 26))
  have hz2 : ((w.alloc (.cells #[.string ⟨#[65]⟩, .string ⟨#[66]⟩] 9)).alloc (.cells #[.int .i64 6, .string ⟨#[]⟩, .int .u64 1, .int .u64 0, .string ⟨#[]⟩, .slice none 0 0, .slice none 0 0, .int .i64 0, .int .i64 16, .string ⟨#[]⟩, .int .u64 0, .int .u64 0, .string ⟨#[120]⟩, .slice none 0 0, .slice none 0 0, .int .i64 0] 26)).heap.size = w.heap.size + 1 + 1 := by simp
  have HZ3 : Hid ((((w.alloc (.cells #[.string ⟨#[65]⟩, .string ⟨#[66]⟩] 9)).alloc (.cells #[.int .i64 6, .string ⟨#[]⟩, .int .u64 1, .int .u64 0, .string ⟨#[]⟩, .slice none 0 0, .slice none 0 0, .int .i64 0, .int .i64 16, .string ⟨#[]⟩, .int .u64 0, .int .u64 0, .string ⟨#[120]⟩, .slice none 0 0, .slice none 0 0, .int .i64 0] 26)).alloc (.cells #[.int .i64 18, .string ⟨#[84]⟩, .int .u64 0, .int .u64 0, .string ⟨#[]⟩, .slice (some ⟨w.heap.size, 0, none⟩) 2 2, .slice (some ⟨w.heap.size + 1, 0, none⟩) 2 2, .int .i64 0] 26)).heap.size = w.heap.size + 1 + 1 + 1) := Lib.hid (by simp)
  rw [hz2] at hA
  generalize ((w.alloc (.cells #[.string ⟨#[65]⟩, .string ⟨#[66]⟩] 9)).alloc (.cells #[.int .i64 6, .string ⟨#[]⟩, .int .u64 1, .int .u64 0, .string ⟨#[]⟩, .slice none 0 0, .slice none 0 0, .int .i64 0, .int .i64 16, .string ⟨#[]⟩, .int .u64 0, .int .u64 0, .string ⟨#[120]⟩, .slice none 0 0, .slice none 0 0, .int .i64 0] 26)).alloc (.cells #[.int .i64 18, .string ⟨#[84]⟩, .int .u64 0, .int .u64 0, .string ⟨#[]⟩, .slice (some ⟨w.heap.size, 0, none⟩) 2 2, .slice (some ⟨w.heap.size + 1, 0, none⟩) 2 2, .int .i64 0] 26) = W3 at HT HB HZ3 hA ⊢
  have d0 : W3.cell? ⟨w.heap.size + 1 + 1, 0, none⟩ = some (.int .i64 18) := hA 0
  have d1 : W3.cell? ⟨w.heap.size + 1 + 1, 1, none⟩ = some (.string ⟨#[84]⟩) := hA 1
  have d2 : W3.cell? ⟨w.heap.size + 1 + 1, 2, none⟩ = some (.int .u64 0) := hA 2
  have d3 : W3.cell? ⟨w.heap.size + 1 + 1, 3, none⟩ = some (.int .u64 0) := hA 3
  have d4 : W3.cell? ⟨w.heap.size + 1 + 1, 4, none⟩ = some (.string ⟨#[]⟩) := hA 4
  have d5 : W3.cell? ⟨w.heap.size + 1 + 1, 5, none⟩ = some (.slice (some ⟨w.heap.size, 0, none⟩) 2 2) := hA 5
  have d6 : W3.cell? ⟨w.heap.size + 1 + 1, 6, none⟩ = some (.slice (some ⟨w.heap.size + 1, 0, none⟩) 2 2) := hA 6
  have d7 : W3.cell? ⟨w.heap.size + 1 + 1, 7, none⟩ = some (.int .i64 0) := hA 7
  clear hA hz2
  have HP : Hid (IsD (W3.alloc (.cells #[.int .i64 18, .string ⟨#[84]⟩, .int .u64 0, .int .u64 0, .string ⟨#[]⟩, .slice (some ⟨w.heap.size, 0, none⟩) 2 2, .slice (some ⟨w.heap.size + 1, 0, none⟩) 2 2, .int .i64 0] 26)) (aggD dP none 0 (some ⟨W3.heap.size, 0, none⟩) 1) dP) := by
    have h := cell_of_heap' (heap_alloc_new W3 (.cells #[.int .i64 18, .string ⟨#[84]⟩, .int .u64 0, .int .u64 0, .string ⟨#[]⟩, .slice (some ⟨w.heap.size, 0, none⟩) 2 2, .slice (some ⟨w.heap.size + 1, 0, none⟩) 2 2, .int .i64 0] 26))
    exact Lib.hid (isD_P _ _ _ _ (HT.out.later (Below.new _)) ⟨h 0, h 1, h 2, h 3, h 4, h 5, h 6, h 7⟩)
  have HB4 := Lib.hid (HB.out.push (.cells #[.int .i64 18, .string ⟨#[84]⟩, .int .u64 0, .int .u64 0, .string ⟨#[]⟩, .slice (some ⟨w.heap.size, 0, none⟩) 2 2, .slice (some ⟨w.heap.size + 1, 0, none⟩) 2 2, .int .i64 0] 26))
  have HBx : Hid (Below W3.heap.size W3 (W3.alloc (.cells #[.int .i64 18, .string ⟨#[84]⟩, .int .u64 0, .int .u64 0, .string ⟨#[]⟩, .slice (some ⟨w.heap.size, 0, none⟩) 2 2, .slice (some ⟨w.heap.size + 1, 0, none⟩) 2 2, .int .i64 0] 26))) := Lib.hid (Below.new _)
  go_wp2_with fail
  refine (show Calls Tryz.prog 18 _ _ (BuildIs _ vP) from build_is err_P mk_P HP.out).mono ?_
  rintro e w4 ⟨hb, t1, y1, rfl, hv1⟩
  have HB5 := Lib.hid (HB4.out.next hb)
  have HT5 := Lib.hid (HT.out.later (HBx.out.next hb))
  have d0 := cell_below (HBx.out.next hb) d0
  have d1 := cell_below (HBx.out.next hb) d1
  have d2 := cell_below (HBx.out.next hb) d2
  have d3 := cell_below (HBx.out.next hb) d3
  have d4 := cell_below (HBx.out.next hb) d4
  have d5 := cell_below (HBx.out.next hb) d5
  have d6 := cell_below (HBx.out.next hb) d6
  have d7 := cell_below (HBx.out.next hb) d7
  have HV1 := Lib.hid hv1
  clear hb hv1 HP HB4 HBx HT HB
  go_wp2_with fail
  refine (show Calls Tryz.prog 18 _ _ (BuildIs _ vT) from build_is err_T mk_T HT5.out).mono ?_
  rintro e w5 ⟨hb, t2, y2, rfl, hv2⟩
  have HB6 := Lib.hid (HB5.out.next hb)
  have HV1 := Lib.hid (HV1.out.later hb)
  have HV2 := Lib.hid hv2
  clear hb hv2 HT5 HB5 d0 d1 d2 d3 d4 d5 d6 d7
  go_wp2_with fail
  refine (bare12_any 118 _).mono ?_
  rintro e w6 ⟨rfl, hb⟩
  have HB7 := Lib.hid (HB6.out.next hb)
  have HV1 := Lib.hid (HV1.out.later hb)
  have HV2 := Lib.hid (HV2.out.later hb)
  clear hb HB6
  go_upto_region 6 with fail
  have hA := cell_of_heap' (heap_alloc_new w6 (.cells #[.bool false, .bool false, .bool true, .bool false, .bool false, .int .i64 (-1), .int .i64 (-1), .int .i32 118] 33))
  have HB := Lib.hid (HB7.out.push (.cells #[.bool false, .bool false, .bool true, .bool false, .bool false, .int .i64 (-1), .int .i64 (-1), .int .i32 118] 33))
  have HV1 := Lib.hid (HV1.out.later (Below.new (.cells #[.bool false, .bool false, .bool true, .bool false, .bool false, .int .i64 (-1), .int .i64 (-1), .int .i32 118] 33)))
  have HV2 := Lib.hid (HV2.out.later (Below.new (.cells #[.bool false, .bool false, .bool true, .bool false, .bool false, .int .i64 (-1), .int .i64 (-1), .int .i32 118] 33)))
  generalize w6.alloc (.cells #[.bool false, .bool false, .bool true, .bool false, .bool false, .int .i64 (-1), .int .i64 (-1), .int .i32 118] 33) = W6 at HB HV1 HV2 hA ⊢
  have c0 : W6.cell? ⟨w6.heap.size, 0, none⟩ = some (.bool false) := hA 0
  have c1 : W6.cell? ⟨w6.heap.size, 1, none⟩ = some (.bool false) := hA 1
  have c2 : W6.cell? ⟨w6.heap.size, 2, none⟩ = some (.bool true) := hA 2
  have c3 : W6.cell? ⟨w6.heap.size, 3, none⟩ = some (.bool false) := hA 3
  have c4 : W6.cell? ⟨w6.heap.size, 4, none⟩ = some (.bool false) := hA 4
  have c5 : W6.cell? ⟨w6.heap.size, 5, none⟩ = some (.int .i64 (-1)) := hA 5
  have c6 : W6.cell? ⟨w6.heap.size, 6, none⟩ = some (.int .i64 (-1)) := hA 6
  have c7 : W6.cell? ⟨w6.heap.size, 7, none⟩ = some (.int .i32 118) := hA 7
  clear hA
  have HS1 : Hid (∀ W, Below W6.heap.size W6 W → Calls Tryz.prog 10 #[.iface t1 y1, .agg #[.bool false, .bool false, .bool false, .bool false, .bool false, .int .i64 (-1), .int .i64 (-1), .int .i32 118], .nilFunc] W (Ret W (.string ⟨#[38, 123, 49, 32, 120, 125]⟩))) := Lib.hid fun W hW => show_1 W _ (HV1.out.later hW)
  have HS2 : Hid (∀ W, Below W6.heap.size W6 W → Calls Tryz.prog 10 #[.iface t2 y2, .agg #[.bool false, .bool false, .bool true, .bool false, .bool false, .int .i64 (-1), .int .i64 (-1), .int .i32 118], .nilFunc] W (Ret W (.string ⟨#[84, 123, 65, 58, 49, 44, 32, 66, 58, 34, 120, 34, 125]⟩))) := Lib.hid fun W hW => show_2 W _ (HV2.out.later hW)
  have HBR := Lib.hid (bare12_any 118)
  have HBD := Lib.hid bad_0
  have HQ := Lib.hid (Below.refl W6.heap.size W6)
  go_wp2_with fail
  refine (HBR.out _).mono ?_
  rintro e wa ⟨rfl, hwa⟩
  have c0 := cell_below hwa c0
  have c1 := cell_below hwa c1
  have c2 := cell_below hwa c2
  have c3 := cell_below hwa c3
  have c4 := cell_below hwa c4
  have c5 := cell_below hwa c5
  have c6 := cell_below hwa c6
  have c7 := cell_below hwa c7
  have HQ := Lib.hid (HQ.out.next hwa)
  clear hwa
  go_wp2_with fail
  refine (HS1.out _ HQ.out).mono ?_
  rintro e wb ⟨rfl, hwa⟩
  have c0 := cell_below hwa c0
  have c1 := cell_below hwa c1
  have c2 := cell_below hwa c2
  have c3 := cell_below hwa c3
  have c4 := cell_below hwa c4
  have c5 := cell_below hwa c5
  have c6 := cell_below hwa c6
  have c7 := cell_below hwa c7
  have HQ := Lib.hid (HQ.out.next hwa)
  clear hwa
  go_wp2_with fail
  refine (HS2.out _ HQ.out).mono ?_
  rintro e wc ⟨rfl, hwa⟩
  have c0 := cell_below hwa c0
  have c1 := cell_below hwa c1
  have c2 := cell_below hwa c2
  have c3 := cell_below hwa c3
  have c4 := cell_below hwa c4
  have c5 := cell_below hwa c5
  have c6 := cell_below hwa c6
  have c7 := cell_below hwa c7
  have HQ := Lib.hid (HQ.out.next hwa)
  clear hwa
  go_wp2_with fail
  refine (HBD.out _).mono ?_
  rintro e wd ⟨rfl, hwa⟩
  have c0 := cell_below hwa c0
  have c1 := cell_below hwa c1
  have c2 := cell_below hwa c2
  have c3 := cell_below hwa c3
  have c4 := cell_below hwa c4
  have c5 := cell_below hwa c5
  have c6 := cell_below hwa c6
  have c7 := cell_below hwa c7
  have HQ := Lib.hid (HQ.out.next hwa)
  clear hwa
  have HE := Lib.hid (HB.out.next HQ.out)
  clear c0 c1 c2 c3 c4 c5 c6 c7
  go_wp2_with fail
  go_ret
  exact ⟨rfl, HE.out⟩
end Go.Proofs.YtkpfeodffhfejaaGreatDoor

/- The law TreeTypes: by T the name of the type is written, and nobody is asked. Condition: the argument is a descriptor. -/
namespace Go.Proofs.YtkpfeodffhfejaaGreatDoor
set_option linter.unusedVariables false
set_option linter.unusedSimpArgs false
set_option maxRecDepth 1000000
open Go.RowKit

/-- What is known of a built value's type. -/
structure Fine (x : V) : Prop where
  k : 0 ≤ x.base.kind ∧ x.base.kind ≤ 22
  s : (typeV x).size ≤ 140737488355328
theorem names_size : ∀ k : Fin 23, (kindNames.getD k.val ⟨#[]⟩).size ≤ 20 := by decide +kernel
theorem rng_name {x : V} (h : VR x) : x.base.name.size ≤ 140737488355328 := by
  cases h with
  | nil => exact Nat.zero_le _
  | leaf l h => cases l <;> first | exact h.1.2.2 | exact h.2.2
  | great t b addr names l hb ha hn hl => exact hb.2.2
theorem fine_of {x : V} (hk : 0 ≤ x.base.kind ∧ x.base.kind ≤ 22) (hr : VR x) : Fine x := by
  refine ⟨hk, ?_⟩
  unfold typeV
  split
  · have := names_size ⟨x.base.kind.toNat, by omega⟩
    exact Nat.le_trans this (by decide)
  · exact rng_name hr
theorem fine_nil : Fine .nil := fine_of ⟨by decide, by decide⟩ .nil
theorem fine_built {d : D} {x : V} (hr : DR d) (he : errD d = 0) (hx : mkV d = some x) : Fine x := by
  have hf := built_facts hr he hx
  obtain ⟨_, hk, _, _⟩ := err_zero he
  rw [allD_eq, Bool.and_eq_true] at hk
  have hk1 : 0 ≤ d.kind ∧ d.kind ≤ 22 := by simpa [kindB] using hk.1
  have e := mkV_kind hk1.1 hx
  exact fine_of (by rw [e]; exact hk1) hf.2
/-- Built's answer, open. -/
def BuiltIs (w : World) (e : Ending) (w' : World) : Prop :=
  Below w.heap.size w w' ∧ ∃ v k0 ty b0 i0 tx a5 n5 c5 a6 n6 c6 h0 x, e = .returned (.tuple #[v, .agg #[.int .i64 k0, .string ty, .int .u64 b0, .int .u64 i0, .string tx, .slice a5 n5 c5, .slice a6 n6 c6, .int .i64 h0]]) ∧
    IsD w' (.agg #[.int .i64 k0, .string ty, .int .u64 b0, .int .u64 i0, .string tx, .slice a5 n5 c5, .slice a6 n6 c6, .int .i64 h0]) (rawV x) ∧ IsV w' v x ∧ Fine x ∧ (v = .nilIface ∧ x = .nil ∨ (∃ t y, v = .iface t y) ∧ ∃ d, errD d = 0 ∧ mkV d = some x ∧ wholeD d < 400)
theorem built_is {w : World} {v : Value} {d : D} (h : IsD w v d) : Calls Tryz.prog 9 #[v] w (BuiltIs w) := by
  have hr := h.rng
  refine (built_any h).mono ?_
  rintro e w' ⟨h1, v, k0, ty, b0, i0, tx, a5, n5, c5, a6, n6, c6, h0, x, rfl, hD, hx⟩
  refine ⟨h1, v, k0, ty, b0, i0, tx, a5, n5, c5, a6, n6, c6, h0, x, rfl, hD, ?_⟩
  rcases hx with ⟨rfl, rfl⟩ | ⟨h2, h3, h4, h5, h6⟩
  · exact ⟨.nil0, fine_nil, .inl ⟨rfl, rfl⟩⟩
  · exact ⟨h6.isV, fine_built hr h4 h5, .inr ⟨h2, d, h4, h5, h3⟩⟩
set_option maxHeartbeats 4000000 in
theorem types_any {d : D} {w : World} {v : Value} (h : IsD w v d) : Calls Tryz.prog 3 #[v] w (Ret w (.bool true)) := by
  have HD := Lib.hid h
  obtain ⟨a5, c5, a6, c6, rfl, hk, hb, hi, ht, hx, hn, hp⟩ := h.open
  clear hp hn hb hi hk ht hx h
  unfold aggD at HD ⊢
  have HB0 := Lib.hid (Below.new (w := w) (.cells #[.int .i64 d.kind, .string d.type, .int .u64 d.bits, .int .u64 d.imag, .string d.text, .slice a5 d.names.length c5, .slice a6 d.parts.length c6, .int .i64 d.hook] 26))
  have HD := Lib.hid (HD.out.later HB0.out)
  go_enter Tryz.func3, Tryz.ntmps3
  go_wp2_with fail
  refine (built_is HD.out).mono ?_
  rintro e w1 ⟨hb, v, k0, ty, b0, i0, tx, a5, n5, c5, a6, n6, c6, h0, x, rfl, hR, hV, hF, _⟩
  have HB1 := Lib.hid (HB0.out.next hb)
  have HR := Lib.hid hR
  have HV := Lib.hid hV
  have HF := Lib.hid hF
  clear hb hR hV hF HD HB0
  go_upto_region 3 with fail
  have hb12 : Below (w1.alloc (.cells #[.int .i64 k0, .string ty, .int .u64 b0, .int .u64 i0, .string tx, .slice a5 n5 c5, .slice a6 n6 c6, .int .i64 h0] 26)).heap.size (w1.alloc (.cells #[.int .i64 k0, .string ty, .int .u64 b0, .int .u64 i0, .string tx, .slice a5 n5 c5, .slice a6 n6 c6, .int .i64 h0] 26)) ((w1.alloc (.cells #[.int .i64 k0, .string ty, .int .u64 b0, .int .u64 i0, .string tx, .slice a5 n5 c5, .slice a6 n6 c6, .int .i64 h0] 26)).alloc (.cells #[.int .i64 0] 3)) := Below.new _
  have hA : ∀ j v, (w1.alloc (.cells #[.int .i64 k0, .string ty, .int .u64 b0, .int .u64 i0, .string tx, .slice a5 n5 c5, .slice a6 n6 c6, .int .i64 h0] 26)).cell? ⟨w1.heap.size, j, none⟩ = some v → ((w1.alloc (.cells #[.int .i64 k0, .string ty, .int .u64 b0, .int .u64 i0, .string tx, .slice a5 n5 c5, .slice a6 n6 c6, .int .i64 h0] 26)).alloc (.cells #[.int .i64 0] 3)).cell? ⟨w1.heap.size, j, none⟩ = some v := fun j v h => cell_below hb12 h
  have hA1 := cell_of_heap' (heap_alloc_new w1 (.cells #[.int .i64 k0, .string ty, .int .u64 b0, .int .u64 i0, .string tx, .slice a5 n5 c5, .slice a6 n6 c6, .int .i64 h0] 26))
  have hZ := cell_of_heap' (heap_alloc_new (w1.alloc (.cells #[.int .i64 k0, .string ty, .int .u64 b0, .int .u64 i0, .string tx, .slice a5 n5 c5, .slice a6 n6 c6, .int .i64 h0] 26)) (.cells #[.int .i64 0] 3)) 0
  have hsz : (w1.alloc (.cells #[.int .i64 k0, .string ty, .int .u64 b0, .int .u64 i0, .string tx, .slice a5 n5 c5, .slice a6 n6 c6, .int .i64 h0] 26)).heap.size = w1.heap.size + 1 := by simp
  rw [hsz] at hZ
  have HW : Hid (Below w1.heap.size w1 ((w1.alloc (.cells #[.int .i64 k0, .string ty, .int .u64 b0, .int .u64 i0, .string tx, .slice a5 n5 c5, .slice a6 n6 c6, .int .i64 h0] 26)).alloc (.cells #[.int .i64 0] 3))) := Lib.hid ((Below.new _).push _)
  have hA := fun j v h => hA j v ((hA1 j).trans h)
  generalize (w1.alloc (.cells #[.int .i64 k0, .string ty, .int .u64 b0, .int .u64 i0, .string tx, .slice a5 n5 c5, .slice a6 n6 c6, .int .i64 h0] 26)).alloc (.cells #[.int .i64 0] 3) = W2 at hA hZ HW ⊢
  clear hA1 hb12 hsz
  have z0 : W2.cell? ⟨w1.heap.size + 1, 0, none⟩ = some (.int .i64 0) := hZ
  have e0 : W2.cell? ⟨w1.heap.size, 0, none⟩ = some (.int .i64 k0) := hA 0 _ rfl
  have e1 : W2.cell? ⟨w1.heap.size, 1, none⟩ = some (.string ty) := hA 1 _ rfl
  have e2 : W2.cell? ⟨w1.heap.size, 2, none⟩ = some (.int .u64 b0) := hA 2 _ rfl
  have e3 : W2.cell? ⟨w1.heap.size, 3, none⟩ = some (.int .u64 i0) := hA 3 _ rfl
  have e4 : W2.cell? ⟨w1.heap.size, 4, none⟩ = some (.string tx) := hA 4 _ rfl
  have e5 : W2.cell? ⟨w1.heap.size, 5, none⟩ = some (.slice a5 n5 c5) := hA 5 _ rfl
  have e6 : W2.cell? ⟨w1.heap.size, 6, none⟩ = some (.slice a6 n6 c6) := hA 6 _ rfl
  have e7 : W2.cell? ⟨w1.heap.size, 7, none⟩ = some (.int .i64 h0) := hA 7 _ rfl
  clear hA hZ
  have HV := Lib.hid (HV.out.later HW.out)
  have HR := Lib.hid (HR.out.later HW.out)
  have HBW := Lib.hid (HB1.out.next HW.out)
  have HB2 : Hid (∀ W k, Below W2.heap.size W2 W → Calls Tryz.prog 10 #[v, .agg #[.bool false, .bool false, .bool false, .bool false, .bool false, .int .i64 (-1), .int .i64 (-1), .int .i32 84], k] W (Ret W (.string (typeV x)))) := Lib.hid fun W k hW => show_T k (HV.out.later hW) HF.out.k HF.out.s
  have HTY : Hid (∀ W, Below W2.heap.size W2 W → Calls Tryz.prog 13 #[v] W (Ret W (.string (typeV x)))) := Lib.hid fun W hW => Type_any (HV.out.later hW) HF.out.k
  have HRT : Hid (∀ W, Below W2.heap.size W2 W → Calls Tryz.prog 14 #[.agg #[.int .i64 k0, .string ty, .int .u64 b0, .int .u64 i0, .string tx, .slice a5 n5 c5, .slice a6 n6 c6, .int .i64 h0]] W (Ret W (.string (typeV x)))) := Lib.hid fun W hW => by
    have := refType_any (HR.out.later hW) (by rw [rawV_kind]; exact HF.out.k.1) (by rw [rawV_kind]; exact HF.out.k.2)
    rw [type_raw] at this
    exact this
  obtain ⟨T, hT⟩ : ∃ T, typeV x = T := ⟨_, rfl⟩
  rw [hT] at HB2 HTY HRT
  clear hT HW HB1 HV HR HF
  have HQ := Lib.hid (Below.refl W2.heap.size W2)
  go_wp2_with fail
  refine (bare12_any 84 _).mono ?_
  rintro e wa ⟨rfl, hwa⟩
  have e0 := cell_below hwa e0
  have e1 := cell_below hwa e1
  have e2 := cell_below hwa e2
  have e3 := cell_below hwa e3
  have e4 := cell_below hwa e4
  have e5 := cell_below hwa e5
  have e6 := cell_below hwa e6
  have e7 := cell_below hwa e7
  have z0 := cell_below hwa z0
  have HQ := Lib.hid (HQ.out.next hwa)
  clear hwa
  go_wp2_with fail
  refine (HB2.out _ _ HQ.out).mono ?_
  rintro e wb ⟨rfl, hwa⟩
  have e0 := cell_below hwa e0
  have e1 := cell_below hwa e1
  have e2 := cell_below hwa e2
  have e3 := cell_below hwa e3
  have e4 := cell_below hwa e4
  have e5 := cell_below hwa e5
  have e6 := cell_below hwa e6
  have e7 := cell_below hwa e7
  have z0 := cell_below hwa z0
  have HQ := Lib.hid (HQ.out.next hwa)
  clear hwa
  go_wp2_with fail
  refine (HTY.out _ HQ.out).mono ?_
  rintro e wc ⟨rfl, hwa⟩
  have e0 := cell_below hwa e0
  have e1 := cell_below hwa e1
  have e2 := cell_below hwa e2
  have e3 := cell_below hwa e3
  have e4 := cell_below hwa e4
  have e5 := cell_below hwa e5
  have e6 := cell_below hwa e6
  have e7 := cell_below hwa e7
  have z0 := cell_below hwa z0
  have HQ := Lib.hid (HQ.out.next hwa)
  clear hwa
  go_wp2_with fail
  refine (HRT.out _ HQ.out).mono ?_
  rintro e wd ⟨rfl, hwa⟩
  have e0 := cell_below hwa e0
  have e1 := cell_below hwa e1
  have e2 := cell_below hwa e2
  have e3 := cell_below hwa e3
  have e4 := cell_below hwa e4
  have e5 := cell_below hwa e5
  have e6 := cell_below hwa e6
  have e7 := cell_below hwa e7
  have z0 := cell_below hwa z0
  have HQ := Lib.hid (HQ.out.next hwa)
  clear hwa
  go_wp2_with fail
  refine (lives_any _).mono ?_
  rintro e we ⟨rfl, hwa⟩
  have e0 := cell_below hwa e0
  have e1 := cell_below hwa e1
  have e2 := cell_below hwa e2
  have e3 := cell_below hwa e3
  have e4 := cell_below hwa e4
  have e5 := cell_below hwa e5
  have e6 := cell_below hwa e6
  have e7 := cell_below hwa e7
  have z0 := cell_below hwa z0
  have HQ := Lib.hid (HQ.out.next hwa)
  clear hwa
  have HE := Lib.hid (HBW.out.next HQ.out)
  clear e0 e1 e2 e3 e4 e5 e6 e7 z0
  go_wp2_with fail
  go_ret
  exact ⟨rfl, HE.out⟩
end Go.Proofs.YtkpfeodffhfejaaGreatDoor
