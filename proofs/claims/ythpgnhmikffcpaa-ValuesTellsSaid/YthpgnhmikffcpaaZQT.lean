/- Its type, hook, size, depth and kind are its descriptor's: the law's walk. No condition but that the argument is a descriptor. -/
import Derived.Test.YthpgnhmikffcpaaZQO
import Derived.Test.YthpgnhmikffcpaaZQS
namespace Go.Proofs.Ythpgnhmikffcpaa
set_option linter.unusedVariables false
set_option linter.unusedSimpArgs false
open Go.RowKit

theorem rawV_hook (x : V) : (rawV x).hook = x.base.hook := by
  cases x with
  | nil => rfl
  | leaf l => cases l <;> rfl
  | great g b n nm l => rfl
theorem agg_facts {w : World} {k0x b0x i0x h0x : Int} {tyx txx : ByteArray} {a5x a6x : Option Addr} {n5x c5x n6x c6x : Nat} {d : D} (h : IsD w (.agg #[.int .i64 k0x, .string tyx, .int .u64 b0x, .int .u64 i0x, .string txx, .slice a5x n5x c5x, .slice a6x n6x c6x, .int .i64 h0x]) d) : k0x = d.kind ∧ h0x = d.hook := by
  obtain ⟨a5, c5, a6, c6, e, _⟩ := h.open
  unfold aggD at e
  simp only [Value.agg.injEq, Array.mk.injEq, List.cons.injEq, Value.int.injEq, true_and, and_true] at e
  exact ⟨e.1, e.2.2.2.2.2.2.2⟩
set_option maxRecDepth 100000 in
set_option maxHeartbeats 16000000 in
theorem tells_any {d : D} {w : World} {v0 : Value} (h : IsD w v0 d) : Calls Try.prog 11 #[v0] w fun e w' => e = .returned (.bool true) ∧ Below w.heap.size w w' := by
  have HD := Lib.hid h
  have HR := Lib.hid h.rng
  obtain ⟨a5, c5, a6, c6, rfl, _⟩ := h.open
  clear h
  unfold aggD at HD ⊢
  go_enter Try.func11, Try.ntmps11
  go_wp2_with fail
  have HB0 := Lib.hid (Below.new (w := w) (.cells #[.int .i64 d.kind, .string d.type, .int .u64 d.bits, .int .u64 d.imag, .string d.text, .slice a5 d.names.length c5, .slice a6 d.parts.length c6, .int .i64 d.hook] 26))
  generalize w.alloc (.cells #[.int .i64 d.kind, .string d.type, .int .u64 d.bits, .int .u64 d.imag, .string d.text, .slice a5 d.names.length c5, .slice a6 d.parts.length c6, .int .i64 d.hook] 26) = w0 at HB0 ⊢
  refine (built_any (HD.out.later HB0.out)).mono ?_
  rintro e w1 ⟨hB1, v, ok, k0x, tyx, b0x, i0x, txx, a5x, n5x, c5x, a6x, n6x, c6x, h0x, du, rfl, hdu, hvs, hok⟩
  have HB1 := Lib.hid hB1
  have HDU := Lib.hid hdu
  have HVS := Lib.hid hvs
  have HOK := Lib.hid hok
  clear hB1 hdu hvs hok
  cases ok with
  | false =>
    go_wp2_with fail
    refine (lives_any _).mono ?_
    rintro e wl ⟨rfl, hBl⟩
    have HBl := Lib.hid (((HB0.out.next HB1.out).push _).next hBl)
    clear hBl
    go_wp2_with fail
    go_ret
    exact ⟨rfl, HBl.out⟩
  | true =>
    obtain ⟨_, he, x, hx, hvf, rfl⟩ := HOK.out rfl
    have HFx := Lib.hid (built_facts HR.out he hx)
    have HKd := Lib.hid (built_kind he hx)
    have HSz := Lib.hid (built_size he hx)
    have HVX := Lib.hid hvf.isV
    have hag := agg_facts HDU.out
    rw [rawV_kind, rawV_hook] at hag
    obtain ⟨hk0, hh0⟩ := hag
    have HK0 := Lib.hid hk0
    have HH0 := Lib.hid hh0
    clear he hx hvf HOK hk0 hh0
    go_upto_region 4 with fail
    have hb1n : Below w1.heap.size w1 (w1.alloc (.cells #[.int .i64 k0x, .string tyx, .int .u64 b0x, .int .u64 i0x, .string txx, .slice a5x n5x c5x, .slice a6x n6x c6x, .int .i64 h0x] 26)) := Below.new _
    have HBg := Lib.hid (Blk.of (heap_alloc_new w1 (.cells #[.int .i64 k0x, .string tyx, .int .u64 b0x, .int .u64 i0x, .string txx, .slice a5x n5x c5x, .slice a6x n6x c6x, .int .i64 h0x] 26)))
    have HBW3 := Lib.hid ((HB0.out.next HB1.out).next hb1n)
    have HV3 := Lib.hid (HVX.out.later hb1n)
    have HD3 := Lib.hid (HDU.out.later hb1n)
    generalize w1.alloc (.cells #[.int .i64 k0x, .string tyx, .int .u64 b0x, .int .u64 i0x, .string txx, .slice a5x n5x c5x, .slice a6x n6x c6x, .int .i64 h0x] 26) = w3 at HBg HBW3 HV3 HD3 hb1n ⊢
    clear hb1n
    have K0 : w3.cell? ⟨w1.heap.size, 0, none⟩ = some (.int .i64 k0x) ∧ w3.cell? ⟨w1.heap.size, 1, none⟩ = some (.string tyx) ∧ w3.cell? ⟨w1.heap.size, 2, none⟩ = some (.int .u64 b0x) ∧ w3.cell? ⟨w1.heap.size, 3, none⟩ = some (.int .u64 i0x) ∧ w3.cell? ⟨w1.heap.size, 4, none⟩ = some (.string txx) ∧ w3.cell? ⟨w1.heap.size, 5, none⟩ = some (.slice a5x n5x c5x) ∧ w3.cell? ⟨w1.heap.size, 6, none⟩ = some (.slice a6x n6x c6x) ∧ w3.cell? ⟨w1.heap.size, 7, none⟩ = some (.int .i64 h0x) := ⟨HBg.out.c0, HBg.out.c1, HBg.out.c2, HBg.out.c3, HBg.out.c4, HBg.out.c5, HBg.out.c6, HBg.out.c7⟩
    obtain ⟨z0, z1, z2, z3, z4, z5, z6, z7⟩ := K0
    have HC25 : Hid (∀ W, Below w3.heap.size w3 W → Calls Try.prog 25 #[v] W fun e w' => e = .returned (.string (typeV x)) ∧ Below W.heap.size W w') :=
      fun W hW => Type_any (HV3.out.later hW) HKd.out
    have HC27 : Hid (∀ W, Below w3.heap.size w3 W → Calls Try.prog 27 #[.agg #[.int .i64 k0x, .string tyx, .int .u64 b0x, .int .u64 i0x, .string txx, .slice a5x n5x c5x, .slice a6x n6x c6x, .int .i64 h0x]] W fun e w' => e = .returned (.string (typeV x)) ∧ Below W.heap.size W w') := by
      intro W hW
      refine (refType_any (HD3.out.later hW) (by rw [rawV_kind]; exact HKd.out.1) (by rw [rawV_kind]; exact HKd.out.2)).mono fun e w' h => ?_
      rw [type_raw] at h
      exact h
    have HC28 : Hid (∀ W, Below w3.heap.size w3 W → Calls Try.prog 28 #[v] W fun e w' => e = .returned (.int .i64 h0x) ∧ Below W.heap.size W w') := by
      intro W hW
      rw [HH0.out]
      exact Hook_any (HV3.out.later hW)
    have HC26 : Hid (∀ W, Below w3.heap.size w3 W → Calls Try.prog 26 #[v] W fun e w' => e = .returned (.int .i64 (sizeV x : Int)) ∧ Below W.heap.size W w') :=
      fun W hW => size_any x HSz.out W _ (HV3.out.later hW)
    have HC29 : Hid (∀ W, Below w3.heap.size w3 W → Calls Try.prog 29 #[.agg #[.int .i64 k0x, .string tyx, .int .u64 b0x, .int .u64 i0x, .string txx, .slice a5x n5x c5x, .slice a6x n6x c6x, .int .i64 h0x]] W fun e w' => e = .returned (.int .i64 (sizeV x : Int)) ∧ Below W.heap.size W w') := by
      intro W hW
      rw [← whole_raw x]
      exact refSize_any _ W _ (HD3.out.later hW) (by rw [whole_raw x]; exact HSz.out)
    have HC30 : Hid (∀ W, Below w3.heap.size w3 W → Calls Try.prog 30 #[v] W fun e w' => e = .returned (.int .i64 (deepV x : Int)) ∧ Below W.heap.size W w') :=
      fun W hW => deep_any x (Nat.le_trans (deep_size x) HSz.out) W _ (HV3.out.later hW)
    have HC31 : Hid (∀ W, Below w3.heap.size w3 W → Calls Try.prog 31 #[.agg #[.int .i64 k0x, .string tyx, .int .u64 b0x, .int .u64 i0x, .string txx, .slice a5x n5x c5x, .slice a6x n6x c6x, .int .i64 h0x]] W fun e w' => e = .returned (.int .i64 (deepV x : Int)) ∧ Below W.heap.size W w') := by
      intro W hW
      rw [← deep_raw x]
      exact refDeep_any _ W _ (HD3.out.later hW) (by rw [deep_raw x]; exact Nat.le_trans (deep_size x) HSz.out)
    have HC13 : Hid (∀ W, Calls Try.prog 13 #[] W fun e w' => e = .returned (.bool true) ∧ Below W.heap.size W w') := fun W => lives_any W
    have HBW : Below w3.heap.size w3 w3.drew := (Below.refl _ _).drew
    obtain ⟨ts, hts⟩ : ∃ s, typeV x = s := ⟨_, rfl⟩
    obtain ⟨sz, hsz⟩ : ∃ s, (sizeV x : Int) = s := ⟨_, rfl⟩
    obtain ⟨dp, hdp⟩ : ∃ s, (deepV x : Int) = s := ⟨_, rfl⟩
    rw [hts] at HC25 HC27
    rw [hsz] at HC26 HC29
    rw [hdp] at HC30 HC31
    clear hts hsz hdp
    have hss : (sz == sz) = true := by simp
    have hdd : (dp == dp) = true := by simp
    have hhh : (h0x == h0x) = true := by simp
    rcases HVS.out with rfl | ⟨t, y, rfl⟩
    · obtain rfl : k0x = 0 := by
        rw [HK0.out]
        have hnil := HVX.out
        generalize hvn : Value.nilIface = vn at hnil
        cases hnil with
        | nil0 => rfl
        | nil => cases hvn
        | leaf l => cases l <;> cases hvn
        | _ => cases hvn
      refine late_begin [] (fun _ => True) (fun w' => w'.cell? ⟨w1.heap.size, 0, none⟩ = some (.int .i64 0) ∧ w'.cell? ⟨w1.heap.size, 1, none⟩ = some (.string tyx) ∧ w'.cell? ⟨w1.heap.size, 2, none⟩ = some (.int .u64 b0x) ∧ w'.cell? ⟨w1.heap.size, 3, none⟩ = some (.int .u64 i0x) ∧ w'.cell? ⟨w1.heap.size, 4, none⟩ = some (.string txx) ∧ w'.cell? ⟨w1.heap.size, 5, none⟩ = some (.slice a5x n5x c5x) ∧ w'.cell? ⟨w1.heap.size, 6, none⟩ = some (.slice a6x n6x c6x) ∧ w'.cell? ⟨w1.heap.size, 7, none⟩ = some (.int .i64 h0x)) (by kernel_rfl) ?_
      refine late_take (i := 0) (.nilIface) false rfl (by kernel_rfl) (by kernel_rfl) (by kernel_rfl) (by kernel_rfl) (fun h => by cases h) (fun _ _ _ h => h) (by rfl) (fun W hS hT => ?_) (fun _ => trivial) ⟨z0, z1, z2, z3, z4, z5, z6, z7⟩ (fun h => by cases h) ?_
      · first | (go_simp; done) | (go_simp; with_reducible rfl) | rfl
      simp only [Act.put, List.getElem_toArray, List.getElem_cons_zero, List.getElem_cons_succ, List.setIfInBounds_toArray, List.set_cons_zero, List.set_cons_succ]
      refine late_take (i := 2) (.agg #[.int .i64 0, .string tyx, .int .u64 b0x, .int .u64 i0x, .string txx, .slice a5x n5x c5x, .slice a6x n6x c6x, .int .i64 h0x]) false rfl (by kernel_rfl) (by kernel_rfl) (by kernel_rfl) (by kernel_rfl) (fun h => by cases h) (fun _ _ _ h => h) (by rfl) (fun W hS hT => ?_) (fun _ => trivial) ⟨z0, z1, z2, z3, z4, z5, z6, z7⟩ (fun h => by cases h) ?_
      · (obtain ⟨x0, x1, x2, x3, x4, x5, x6, x7⟩ := hT; first | (go_simp; done) | (go_simp; with_reducible rfl))
      simp only [Act.put, List.getElem_toArray, List.getElem_cons_zero, List.getElem_cons_succ, List.setIfInBounds_toArray, List.set_cons_zero, List.set_cons_succ]
      refine late_one 1 rfl (by kernel_rfl) (fun K hK => ?_)
      try simp only [List.getElem_toArray, List.getElem_cons_zero, List.getElem_cons_succ]
      rw [if_pos (by rfl)]
      go_simp
      refine (HC25.out _ HBW).mono ?_
      rintro e wa ⟨rfl, hbN⟩
      (try go_simp)
      have z0 := cell_below hbN z0
      have z1 := cell_below hbN z1
      have z2 := cell_below hbN z2
      have z3 := cell_below hbN z3
      have z4 := cell_below hbN z4
      have z5 := cell_below hbN z5
      have z6 := cell_below hbN z6
      have z7 := cell_below hbN z7
      have HBW := HBW.next hbN
      refine hK _ _ (fun _ => trivial) ⟨z0, z1, z2, z3, z4, z5, z6, z7⟩ ?_
      clear hK K hbN
      try simp only [Act.put, List.getElem_toArray, List.getElem_cons_zero, List.getElem_cons_succ, List.setIfInBounds_toArray, List.set_cons_zero, List.set_cons_succ]
      refine late_one 3 rfl (by kernel_rfl) (fun K hK => ?_)
      try simp only [List.getElem_toArray, List.getElem_cons_zero, List.getElem_cons_succ]
      rw [if_pos (by rfl)]
      go_simp
      refine (HC27.out _ HBW).mono ?_
      rintro e wb ⟨rfl, hbN⟩
      (try go_simp)
      have z0 := cell_below hbN z0
      have z1 := cell_below hbN z1
      have z2 := cell_below hbN z2
      have z3 := cell_below hbN z3
      have z4 := cell_below hbN z4
      have z5 := cell_below hbN z5
      have z6 := cell_below hbN z6
      have z7 := cell_below hbN z7
      have HBW := HBW.next hbN
      refine hK _ _ (fun _ => trivial) ⟨z0, z1, z2, z3, z4, z5, z6, z7⟩ ?_
      clear hK K hbN
      try simp only [Act.put, List.getElem_toArray, List.getElem_cons_zero, List.getElem_cons_succ, List.setIfInBounds_toArray, List.set_cons_zero, List.set_cons_succ]
      refine late_take (i := 4) (.bool true) false rfl (by kernel_rfl) (by kernel_rfl) (by kernel_rfl) (by kernel_rfl) (fun h => by cases h) (fun _ _ _ h => h) (by rfl) (fun W hS hT => ?_) (fun _ => trivial) ⟨z0, z1, z2, z3, z4, z5, z6, z7⟩ (fun h => by cases h) ?_
      · first | (go_simp; done) | (go_simp; with_reducible rfl) | rfl
      simp only [Act.put, List.getElem_toArray, List.getElem_cons_zero, List.getElem_cons_succ, List.setIfInBounds_toArray, List.set_cons_zero, List.set_cons_succ]
      refine late_take (i := 5) (.bool true) false rfl (by kernel_rfl) (by kernel_rfl) (by kernel_rfl) (by kernel_rfl) (fun h => by cases h) (fun _ _ _ h => h) (by rfl) (fun W hS hT => ?_) (fun _ => trivial) ⟨z0, z1, z2, z3, z4, z5, z6, z7⟩ (fun h => by cases h) ?_
      · first | (go_simp; done) | (go_simp; with_reducible rfl) | rfl
      simp only [Act.put, List.getElem_toArray, List.getElem_cons_zero, List.getElem_cons_succ, List.setIfInBounds_toArray, List.set_cons_zero, List.set_cons_succ]
      refine late_take (i := 6) (.nilIface) false rfl (by kernel_rfl) (by kernel_rfl) (by kernel_rfl) (by kernel_rfl) (fun h => by cases h) (fun _ _ _ h => h) (by rfl) (fun W hS hT => ?_) (fun _ => trivial) ⟨z0, z1, z2, z3, z4, z5, z6, z7⟩ (fun h => by cases h) ?_
      · first | (go_simp; done) | (go_simp; with_reducible rfl) | rfl
      simp only [Act.put, List.getElem_toArray, List.getElem_cons_zero, List.getElem_cons_succ, List.setIfInBounds_toArray, List.set_cons_zero, List.set_cons_succ]
      refine late_take (i := 8) (.pointer (some ⟨w1.heap.size, 7, none⟩)) false rfl (by kernel_rfl) (by kernel_rfl) (by kernel_rfl) (by kernel_rfl) (fun h => by cases h) (fun _ _ _ h => h) (by rfl) (fun W hS hT => ?_) (fun _ => trivial) ⟨z0, z1, z2, z3, z4, z5, z6, z7⟩ (fun h => by cases h) ?_
      · first | (go_simp; done) | (go_simp; with_reducible rfl) | rfl
      simp only [Act.put, List.getElem_toArray, List.getElem_cons_zero, List.getElem_cons_succ, List.setIfInBounds_toArray, List.set_cons_zero, List.set_cons_succ]
      refine late_take (i := 9) (.int .i64 h0x) false rfl (by kernel_rfl) (by kernel_rfl) (by kernel_rfl) (by kernel_rfl) (fun h => by cases h) (fun _ _ _ h => h) (by rfl) (fun W hS hT => ?_) (fun _ => trivial) ⟨z0, z1, z2, z3, z4, z5, z6, z7⟩ (fun h => by cases h) ?_
      · (obtain ⟨x0, x1, x2, x3, x4, x5, x6, x7⟩ := hT; first | (go_simp; done) | (go_simp; with_reducible rfl))
      simp only [Act.put, List.getElem_toArray, List.getElem_cons_zero, List.getElem_cons_succ, List.setIfInBounds_toArray, List.set_cons_zero, List.set_cons_succ]
      refine late_one 7 rfl (by kernel_rfl) (fun K hK => ?_)
      try simp only [List.getElem_toArray, List.getElem_cons_zero, List.getElem_cons_succ]
      rw [if_pos (by rfl)]
      go_simp
      refine (HC28.out _ HBW).mono ?_
      rintro e wc ⟨rfl, hbN⟩
      (try go_simp)
      have z0 := cell_below hbN z0
      have z1 := cell_below hbN z1
      have z2 := cell_below hbN z2
      have z3 := cell_below hbN z3
      have z4 := cell_below hbN z4
      have z5 := cell_below hbN z5
      have z6 := cell_below hbN z6
      have z7 := cell_below hbN z7
      have HBW := HBW.next hbN
      refine hK _ _ (fun _ => trivial) ⟨z0, z1, z2, z3, z4, z5, z6, z7⟩ ?_
      clear hK K hbN
      try simp only [Act.put, List.getElem_toArray, List.getElem_cons_zero, List.getElem_cons_succ, List.setIfInBounds_toArray, List.set_cons_zero, List.set_cons_succ]
      refine late_take (i := 10) (.bool true) false rfl (by kernel_rfl) (by kernel_rfl) (by kernel_rfl) (by kernel_rfl) (fun h => by cases h) (fun _ _ _ h => h) (by rfl) (fun W hS hT => ?_) (fun _ => trivial) ⟨z0, z1, z2, z3, z4, z5, z6, z7⟩ (fun h => by cases h) ?_
      · first | (go_simp; done) | (go_simp; with_reducible rfl) | rfl
      simp only [Act.put, List.getElem_toArray, List.getElem_cons_zero, List.getElem_cons_succ, List.setIfInBounds_toArray, List.set_cons_zero, List.set_cons_succ]
      refine late_take (i := 11) (.bool true) false rfl (by kernel_rfl) (by kernel_rfl) (by kernel_rfl) (by kernel_rfl) (fun h => by cases h) (fun _ _ _ h => h) (by rfl) (fun W hS hT => ?_) (fun _ => trivial) ⟨z0, z1, z2, z3, z4, z5, z6, z7⟩ (fun h => by cases h) ?_
      · first | (go_simp; done) | (go_simp; with_reducible rfl) | rfl
      simp only [Act.put, List.getElem_toArray, List.getElem_cons_zero, List.getElem_cons_succ, List.setIfInBounds_toArray, List.set_cons_zero, List.set_cons_succ]
      refine late_take (i := 12) (.bool true) false rfl (by kernel_rfl) (by kernel_rfl) (by kernel_rfl) (by kernel_rfl) (fun h => by cases h) (fun _ _ _ h => h) (by rfl) (fun W hS hT => ?_) (fun _ => trivial) ⟨z0, z1, z2, z3, z4, z5, z6, z7⟩ (fun h => by cases h) ?_
      · first | (go_simp; done) | (go_simp; with_reducible rfl) | rfl
      simp only [Act.put, List.getElem_toArray, List.getElem_cons_zero, List.getElem_cons_succ, List.setIfInBounds_toArray, List.set_cons_zero, List.set_cons_succ]
      refine late_take (i := 13) (.nilIface) false rfl (by kernel_rfl) (by kernel_rfl) (by kernel_rfl) (by kernel_rfl) (fun h => by cases h) (fun _ _ _ h => h) (by rfl) (fun W hS hT => ?_) (fun _ => trivial) ⟨z0, z1, z2, z3, z4, z5, z6, z7⟩ (fun h => by cases h) ?_
      · first | (go_simp; done) | (go_simp; with_reducible rfl) | rfl
      simp only [Act.put, List.getElem_toArray, List.getElem_cons_zero, List.getElem_cons_succ, List.setIfInBounds_toArray, List.set_cons_zero, List.set_cons_succ]
      refine late_take (i := 15) (.agg #[.int .i64 0, .string tyx, .int .u64 b0x, .int .u64 i0x, .string txx, .slice a5x n5x c5x, .slice a6x n6x c6x, .int .i64 h0x]) false rfl (by kernel_rfl) (by kernel_rfl) (by kernel_rfl) (by kernel_rfl) (fun h => by cases h) (fun _ _ _ h => h) (by rfl) (fun W hS hT => ?_) (fun _ => trivial) ⟨z0, z1, z2, z3, z4, z5, z6, z7⟩ (fun h => by cases h) ?_
      · (obtain ⟨x0, x1, x2, x3, x4, x5, x6, x7⟩ := hT; first | (go_simp; done) | (go_simp; with_reducible rfl))
      simp only [Act.put, List.getElem_toArray, List.getElem_cons_zero, List.getElem_cons_succ, List.setIfInBounds_toArray, List.set_cons_zero, List.set_cons_succ]
      refine late_one 14 rfl (by kernel_rfl) (fun K hK => ?_)
      try simp only [List.getElem_toArray, List.getElem_cons_zero, List.getElem_cons_succ]
      rw [if_pos (by rfl)]
      go_simp
      refine (HC26.out _ HBW).mono ?_
      rintro e wd ⟨rfl, hbN⟩
      (try go_simp)
      have z0 := cell_below hbN z0
      have z1 := cell_below hbN z1
      have z2 := cell_below hbN z2
      have z3 := cell_below hbN z3
      have z4 := cell_below hbN z4
      have z5 := cell_below hbN z5
      have z6 := cell_below hbN z6
      have z7 := cell_below hbN z7
      have HBW := HBW.next hbN
      refine hK _ _ (fun _ => trivial) ⟨z0, z1, z2, z3, z4, z5, z6, z7⟩ ?_
      clear hK K hbN
      try simp only [Act.put, List.getElem_toArray, List.getElem_cons_zero, List.getElem_cons_succ, List.setIfInBounds_toArray, List.set_cons_zero, List.set_cons_succ]
      refine late_one 16 rfl (by kernel_rfl) (fun K hK => ?_)
      try simp only [List.getElem_toArray, List.getElem_cons_zero, List.getElem_cons_succ]
      rw [if_pos (by rfl)]
      go_simp
      refine (HC29.out _ HBW).mono ?_
      rintro e we ⟨rfl, hbN⟩
      (try go_simp)
      have z0 := cell_below hbN z0
      have z1 := cell_below hbN z1
      have z2 := cell_below hbN z2
      have z3 := cell_below hbN z3
      have z4 := cell_below hbN z4
      have z5 := cell_below hbN z5
      have z6 := cell_below hbN z6
      have z7 := cell_below hbN z7
      have HBW := HBW.next hbN
      refine hK _ _ (fun _ => trivial) ⟨z0, z1, z2, z3, z4, z5, z6, z7⟩ ?_
      clear hK K hbN
      try simp only [Act.put, List.getElem_toArray, List.getElem_cons_zero, List.getElem_cons_succ, List.setIfInBounds_toArray, List.set_cons_zero, List.set_cons_succ]
      refine late_take (i := 17) (.bool true) false rfl (by kernel_rfl) (by kernel_rfl) (by kernel_rfl) (by kernel_rfl) (fun h => by cases h) (fun _ _ _ h => h) (by rfl) (fun W hS hT => ?_) (fun _ => trivial) ⟨z0, z1, z2, z3, z4, z5, z6, z7⟩ (fun h => by cases h) ?_
      · first | (go_simp; done) | (go_simp; with_reducible rfl) | rfl
      simp only [Act.put, List.getElem_toArray, List.getElem_cons_zero, List.getElem_cons_succ, List.setIfInBounds_toArray, List.set_cons_zero, List.set_cons_succ]
      refine late_take (i := 18) (.bool true) false rfl (by kernel_rfl) (by kernel_rfl) (by kernel_rfl) (by kernel_rfl) (fun h => by cases h) (fun _ _ _ h => h) (by rfl) (fun W hS hT => ?_) (fun _ => trivial) ⟨z0, z1, z2, z3, z4, z5, z6, z7⟩ (fun h => by cases h) ?_
      · first | (go_simp; done) | (go_simp; with_reducible rfl) | rfl
      simp only [Act.put, List.getElem_toArray, List.getElem_cons_zero, List.getElem_cons_succ, List.setIfInBounds_toArray, List.set_cons_zero, List.set_cons_succ]
      refine late_take (i := 19) (.bool true) false rfl (by kernel_rfl) (by kernel_rfl) (by kernel_rfl) (by kernel_rfl) (fun h => by cases h) (fun _ _ _ h => h) (by rfl) (fun W hS hT => ?_) (fun _ => trivial) ⟨z0, z1, z2, z3, z4, z5, z6, z7⟩ (fun h => by cases h) ?_
      · first | (go_simp; done) | (go_simp; with_reducible rfl) | rfl
      simp only [Act.put, List.getElem_toArray, List.getElem_cons_zero, List.getElem_cons_succ, List.setIfInBounds_toArray, List.set_cons_zero, List.set_cons_succ]
      refine late_take (i := 20) (.nilIface) false rfl (by kernel_rfl) (by kernel_rfl) (by kernel_rfl) (by kernel_rfl) (fun h => by cases h) (fun _ _ _ h => h) (by rfl) (fun W hS hT => ?_) (fun _ => trivial) ⟨z0, z1, z2, z3, z4, z5, z6, z7⟩ (fun h => by cases h) ?_
      · first | (go_simp; done) | (go_simp; with_reducible rfl) | rfl
      simp only [Act.put, List.getElem_toArray, List.getElem_cons_zero, List.getElem_cons_succ, List.setIfInBounds_toArray, List.set_cons_zero, List.set_cons_succ]
      refine late_take (i := 22) (.agg #[.int .i64 0, .string tyx, .int .u64 b0x, .int .u64 i0x, .string txx, .slice a5x n5x c5x, .slice a6x n6x c6x, .int .i64 h0x]) false rfl (by kernel_rfl) (by kernel_rfl) (by kernel_rfl) (by kernel_rfl) (fun h => by cases h) (fun _ _ _ h => h) (by rfl) (fun W hS hT => ?_) (fun _ => trivial) ⟨z0, z1, z2, z3, z4, z5, z6, z7⟩ (fun h => by cases h) ?_
      · (obtain ⟨x0, x1, x2, x3, x4, x5, x6, x7⟩ := hT; first | (go_simp; done) | (go_simp; with_reducible rfl))
      simp only [Act.put, List.getElem_toArray, List.getElem_cons_zero, List.getElem_cons_succ, List.setIfInBounds_toArray, List.set_cons_zero, List.set_cons_succ]
      refine late_one 21 rfl (by kernel_rfl) (fun K hK => ?_)
      try simp only [List.getElem_toArray, List.getElem_cons_zero, List.getElem_cons_succ]
      rw [if_pos (by rfl)]
      go_simp
      refine (HC30.out _ HBW).mono ?_
      rintro e wf ⟨rfl, hbN⟩
      (try go_simp)
      have z0 := cell_below hbN z0
      have z1 := cell_below hbN z1
      have z2 := cell_below hbN z2
      have z3 := cell_below hbN z3
      have z4 := cell_below hbN z4
      have z5 := cell_below hbN z5
      have z6 := cell_below hbN z6
      have z7 := cell_below hbN z7
      have HBW := HBW.next hbN
      refine hK _ _ (fun _ => trivial) ⟨z0, z1, z2, z3, z4, z5, z6, z7⟩ ?_
      clear hK K hbN
      try simp only [Act.put, List.getElem_toArray, List.getElem_cons_zero, List.getElem_cons_succ, List.setIfInBounds_toArray, List.set_cons_zero, List.set_cons_succ]
      refine late_one 23 rfl (by kernel_rfl) (fun K hK => ?_)
      try simp only [List.getElem_toArray, List.getElem_cons_zero, List.getElem_cons_succ]
      rw [if_pos (by rfl)]
      go_simp
      refine (HC31.out _ HBW).mono ?_
      rintro e wg ⟨rfl, hbN⟩
      (try go_simp)
      have z0 := cell_below hbN z0
      have z1 := cell_below hbN z1
      have z2 := cell_below hbN z2
      have z3 := cell_below hbN z3
      have z4 := cell_below hbN z4
      have z5 := cell_below hbN z5
      have z6 := cell_below hbN z6
      have z7 := cell_below hbN z7
      have HBW := HBW.next hbN
      refine hK _ _ (fun _ => trivial) ⟨z0, z1, z2, z3, z4, z5, z6, z7⟩ ?_
      clear hK K hbN
      try simp only [Act.put, List.getElem_toArray, List.getElem_cons_zero, List.getElem_cons_succ, List.setIfInBounds_toArray, List.set_cons_zero, List.set_cons_succ]
      refine late_take (i := 24) (.bool true) false rfl (by kernel_rfl) (by kernel_rfl) (by kernel_rfl) (by kernel_rfl) (fun h => by cases h) (fun _ _ _ h => h) (by rfl) (fun W hS hT => ?_) (fun _ => trivial) ⟨z0, z1, z2, z3, z4, z5, z6, z7⟩ (fun h => by cases h) ?_
      · first | (go_simp; done) | (go_simp; with_reducible rfl) | rfl
      simp only [Act.put, List.getElem_toArray, List.getElem_cons_zero, List.getElem_cons_succ, List.setIfInBounds_toArray, List.set_cons_zero, List.set_cons_succ]
      refine late_take (i := 25) (.bool true) false rfl (by kernel_rfl) (by kernel_rfl) (by kernel_rfl) (by kernel_rfl) (fun h => by cases h) (fun _ _ _ h => h) (by rfl) (fun W hS hT => ?_) (fun _ => trivial) ⟨z0, z1, z2, z3, z4, z5, z6, z7⟩ (fun h => by cases h) ?_
      · first | (go_simp; done) | (go_simp; with_reducible rfl) | rfl
      simp only [Act.put, List.getElem_toArray, List.getElem_cons_zero, List.getElem_cons_succ, List.setIfInBounds_toArray, List.set_cons_zero, List.set_cons_succ]
      refine late_take (i := 26) (.bool true) false rfl (by kernel_rfl) (by kernel_rfl) (by kernel_rfl) (by kernel_rfl) (fun h => by cases h) (fun _ _ _ h => h) (by rfl) (fun W hS hT => ?_) (fun _ => trivial) ⟨z0, z1, z2, z3, z4, z5, z6, z7⟩ (fun h => by cases h) ?_
      · first | (go_simp; done) | (go_simp; with_reducible rfl) | rfl
      simp only [Act.put, List.getElem_toArray, List.getElem_cons_zero, List.getElem_cons_succ, List.setIfInBounds_toArray, List.set_cons_zero, List.set_cons_succ]
      refine late_take (i := 27) (.nilIface) false rfl (by kernel_rfl) (by kernel_rfl) (by kernel_rfl) (by kernel_rfl) (fun h => by cases h) (fun _ _ _ h => h) (by rfl) (fun W hS hT => ?_) (fun _ => trivial) ⟨z0, z1, z2, z3, z4, z5, z6, z7⟩ (fun h => by cases h) ?_
      · first | (go_simp; done) | (go_simp; with_reducible rfl) | rfl
      simp only [Act.put, List.getElem_toArray, List.getElem_cons_zero, List.getElem_cons_succ, List.setIfInBounds_toArray, List.set_cons_zero, List.set_cons_succ]
      refine late_take (i := 28) (.bool true) false rfl (by kernel_rfl) (by kernel_rfl) (by kernel_rfl) (by kernel_rfl) (fun h => by cases h) (fun _ _ _ h => h) (by rfl) (fun W hS hT => ?_) (fun _ => trivial) ⟨z0, z1, z2, z3, z4, z5, z6, z7⟩ (fun h => by cases h) ?_
      · first | (go_simp; done) | (go_simp; with_reducible rfl) | rfl
      simp only [Act.put, List.getElem_toArray, List.getElem_cons_zero, List.getElem_cons_succ, List.setIfInBounds_toArray, List.set_cons_zero, List.set_cons_succ]
      refine late_take (i := 29) (.bool true) false rfl (by kernel_rfl) (by kernel_rfl) (by kernel_rfl) (by kernel_rfl) (fun h => by cases h) (fun _ _ _ h => h) (by rfl) (fun W hS hT => ?_) (fun _ => trivial) ⟨z0, z1, z2, z3, z4, z5, z6, z7⟩ (fun h => by cases h) ?_
      · first | (go_simp; done) | (go_simp; with_reducible rfl) | rfl
      simp only [Act.put, List.getElem_toArray, List.getElem_cons_zero, List.getElem_cons_succ, List.setIfInBounds_toArray, List.set_cons_zero, List.set_cons_succ]
      refine late_take (i := 30) (.pointer (some ⟨w1.heap.size, 0, none⟩)) false rfl (by kernel_rfl) (by kernel_rfl) (by kernel_rfl) (by kernel_rfl) (fun h => by cases h) (fun _ _ _ h => h) (by rfl) (fun W hS hT => ?_) (fun _ => trivial) ⟨z0, z1, z2, z3, z4, z5, z6, z7⟩ (fun h => by cases h) ?_
      · first | (go_simp; done) | (go_simp; with_reducible rfl) | rfl
      simp only [Act.put, List.getElem_toArray, List.getElem_cons_zero, List.getElem_cons_succ, List.setIfInBounds_toArray, List.set_cons_zero, List.set_cons_succ]
      refine late_take (i := 31) (.int .i64 0) false rfl (by kernel_rfl) (by kernel_rfl) (by kernel_rfl) (by kernel_rfl) (fun h => by cases h) (fun _ _ _ h => h) (by rfl) (fun W hS hT => ?_) (fun _ => trivial) ⟨z0, z1, z2, z3, z4, z5, z6, z7⟩ (fun h => by cases h) ?_
      · (obtain ⟨x0, x1, x2, x3, x4, x5, x6, x7⟩ := hT; first | (go_simp; done) | (go_simp; with_reducible rfl))
      simp only [Act.put, List.getElem_toArray, List.getElem_cons_zero, List.getElem_cons_succ, List.setIfInBounds_toArray, List.set_cons_zero, List.set_cons_succ]
      refine late_take (i := 32) (.bool true) false rfl (by kernel_rfl) (by kernel_rfl) (by kernel_rfl) (by kernel_rfl) (fun h => by cases h) (fun _ _ _ h => h) (by rfl) (fun W hS hT => ?_) (fun _ => trivial) ⟨z0, z1, z2, z3, z4, z5, z6, z7⟩ (fun h => by cases h) ?_
      · first | (go_simp; done) | (go_simp; with_reducible rfl) | rfl
      simp only [Act.put, List.getElem_toArray, List.getElem_cons_zero, List.getElem_cons_succ, List.setIfInBounds_toArray, List.set_cons_zero, List.set_cons_succ]
      refine late_take (i := 33) (.bool true) false rfl (by kernel_rfl) (by kernel_rfl) (by kernel_rfl) (by kernel_rfl) (fun h => by cases h) (fun _ _ _ h => h) (by rfl) (fun W hS hT => ?_) (fun _ => trivial) ⟨z0, z1, z2, z3, z4, z5, z6, z7⟩ (fun h => by cases h) ?_
      · first | (go_simp; done) | (go_simp; with_reducible rfl) | rfl
      simp only [Act.put, List.getElem_toArray, List.getElem_cons_zero, List.getElem_cons_succ, List.setIfInBounds_toArray, List.set_cons_zero, List.set_cons_succ]
      refine late_take (i := 34) (.bool true) false rfl (by kernel_rfl) (by kernel_rfl) (by kernel_rfl) (by kernel_rfl) (fun h => by cases h) (fun _ _ _ h => h) (by rfl) (fun W hS hT => ?_) (fun _ => trivial) ⟨z0, z1, z2, z3, z4, z5, z6, z7⟩ (fun h => by cases h) ?_
      · first | (go_simp; done) | (go_simp; with_reducible rfl) | rfl
      simp only [Act.put, List.getElem_toArray, List.getElem_cons_zero, List.getElem_cons_succ, List.setIfInBounds_toArray, List.set_cons_zero, List.set_cons_succ]
      refine late_skip (i := 35) rfl (by kernel_rfl) (by kernel_rfl) (by kernel_rfl) (by kernel_rfl) (fun _ _ _ h => h) (by rfl) (fun _ => trivial) ⟨z0, z1, z2, z3, z4, z5, z6, z7⟩ ?_
      simp only [Act.put, List.getElem_toArray, List.getElem_cons_zero, List.getElem_cons_succ, List.setIfInBounds_toArray, List.set_cons_zero, List.set_cons_succ]
      refine late_skip (i := 36) rfl (by kernel_rfl) (by kernel_rfl) (by kernel_rfl) (by kernel_rfl) (fun _ _ _ h => h) (by rfl) (fun _ => trivial) ⟨z0, z1, z2, z3, z4, z5, z6, z7⟩ ?_
      simp only [Act.put, List.getElem_toArray, List.getElem_cons_zero, List.getElem_cons_succ, List.setIfInBounds_toArray, List.set_cons_zero, List.set_cons_succ]
      refine late_skip (i := 37) rfl (by kernel_rfl) (by kernel_rfl) (by kernel_rfl) (by kernel_rfl) (fun _ _ _ h => h) (by rfl) (fun _ => trivial) ⟨z0, z1, z2, z3, z4, z5, z6, z7⟩ ?_
      simp only [Act.put, List.getElem_toArray, List.getElem_cons_zero, List.getElem_cons_succ, List.setIfInBounds_toArray, List.set_cons_zero, List.set_cons_succ]
      refine late_skip (i := 38) rfl (by kernel_rfl) (by kernel_rfl) (by kernel_rfl) (by kernel_rfl) (fun _ _ _ h => h) (by rfl) (fun _ => trivial) ⟨z0, z1, z2, z3, z4, z5, z6, z7⟩ ?_
      simp only [Act.put, List.getElem_toArray, List.getElem_cons_zero, List.getElem_cons_succ, List.setIfInBounds_toArray, List.set_cons_zero, List.set_cons_succ]
      refine late_skip (i := 39) rfl (by kernel_rfl) (by kernel_rfl) (by kernel_rfl) (by kernel_rfl) (fun _ _ _ h => h) (by rfl) (fun _ => trivial) ⟨z0, z1, z2, z3, z4, z5, z6, z7⟩ ?_
      simp only [Act.put, List.getElem_toArray, List.getElem_cons_zero, List.getElem_cons_succ, List.setIfInBounds_toArray, List.set_cons_zero, List.set_cons_succ]
      refine late_skip (i := 40) rfl (by kernel_rfl) (by kernel_rfl) (by kernel_rfl) (by kernel_rfl) (fun _ _ _ h => h) (by rfl) (fun _ => trivial) ⟨z0, z1, z2, z3, z4, z5, z6, z7⟩ ?_
      simp only [Act.put, List.getElem_toArray, List.getElem_cons_zero, List.getElem_cons_succ, List.setIfInBounds_toArray, List.set_cons_zero, List.set_cons_succ]
      refine late_skip (i := 41) rfl (by kernel_rfl) (by kernel_rfl) (by kernel_rfl) (by kernel_rfl) (fun _ _ _ h => h) (by rfl) (fun _ => trivial) ⟨z0, z1, z2, z3, z4, z5, z6, z7⟩ ?_
      simp only [Act.put, List.getElem_toArray, List.getElem_cons_zero, List.getElem_cons_succ, List.setIfInBounds_toArray, List.set_cons_zero, List.set_cons_succ]
      refine late_skip (i := 42) rfl (by kernel_rfl) (by kernel_rfl) (by kernel_rfl) (by kernel_rfl) (fun _ _ _ h => h) (by rfl) (fun _ => trivial) ⟨z0, z1, z2, z3, z4, z5, z6, z7⟩ ?_
      simp only [Act.put, List.getElem_toArray, List.getElem_cons_zero, List.getElem_cons_succ, List.setIfInBounds_toArray, List.set_cons_zero, List.set_cons_succ]
      refine late_skip (i := 43) rfl (by kernel_rfl) (by kernel_rfl) (by kernel_rfl) (by kernel_rfl) (fun _ _ _ h => h) (by rfl) (fun _ => trivial) ⟨z0, z1, z2, z3, z4, z5, z6, z7⟩ ?_
      simp only [Act.put, List.getElem_toArray, List.getElem_cons_zero, List.getElem_cons_succ, List.setIfInBounds_toArray, List.set_cons_zero, List.set_cons_succ]
      refine late_take (i := 44) (.bool true) false rfl (by kernel_rfl) (by kernel_rfl) (by kernel_rfl) (by kernel_rfl) (fun h => by cases h) (fun _ _ _ h => h) (by rfl) (fun W hS hT => ?_) (fun _ => trivial) ⟨z0, z1, z2, z3, z4, z5, z6, z7⟩ (fun h => by cases h) ?_
      · first | (go_simp; done) | (go_simp; with_reducible rfl) | rfl
      simp only [Act.put, List.getElem_toArray, List.getElem_cons_zero, List.getElem_cons_succ, List.setIfInBounds_toArray, List.set_cons_zero, List.set_cons_succ]
      refine late_take (i := 45) (.bool true) false rfl (by kernel_rfl) (by kernel_rfl) (by kernel_rfl) (by kernel_rfl) (fun h => by cases h) (fun _ _ _ h => h) (by rfl) (fun W hS hT => ?_) (fun _ => trivial) ⟨z0, z1, z2, z3, z4, z5, z6, z7⟩ (fun h => by cases h) ?_
      · first | (go_simp; done) | (go_simp; with_reducible rfl) | rfl
      simp only [Act.put, List.getElem_toArray, List.getElem_cons_zero, List.getElem_cons_succ, List.setIfInBounds_toArray, List.set_cons_zero, List.set_cons_succ]
      refine late_take (i := 46) (.bool true) false rfl (by kernel_rfl) (by kernel_rfl) (by kernel_rfl) (by kernel_rfl) (fun h => by cases h) (fun _ _ _ h => h) (by rfl) (fun W hS hT => ?_) (fun _ => trivial) ⟨z0, z1, z2, z3, z4, z5, z6, z7⟩ (fun h => by cases h) ?_
      · first | (go_simp; done) | (go_simp; with_reducible rfl) | rfl
      simp only [Act.put, List.getElem_toArray, List.getElem_cons_zero, List.getElem_cons_succ, List.setIfInBounds_toArray, List.set_cons_zero, List.set_cons_succ]
      refine late_one 47 rfl (by kernel_rfl) (fun K hK => ?_)
      try simp only [List.getElem_toArray, List.getElem_cons_zero, List.getElem_cons_succ]
      rw [if_pos (by rfl)]
      go_simp
      refine (HC13.out _).mono ?_
      rintro e wh ⟨rfl, hbN⟩
      (try go_simp)
      have z0 := cell_below hbN z0
      have z1 := cell_below hbN z1
      have z2 := cell_below hbN z2
      have z3 := cell_below hbN z3
      have z4 := cell_below hbN z4
      have z5 := cell_below hbN z5
      have z6 := cell_below hbN z6
      have z7 := cell_below hbN z7
      have HBW := HBW.next hbN
      refine hK _ _ (fun _ => trivial) ⟨z0, z1, z2, z3, z4, z5, z6, z7⟩ ?_
      clear hK K hbN
      try simp only [Act.put, List.getElem_toArray, List.getElem_cons_zero, List.getElem_cons_succ, List.setIfInBounds_toArray, List.set_cons_zero, List.set_cons_succ]
      refine late_take (i := 48) (.bool true) false rfl (by kernel_rfl) (by kernel_rfl) (by kernel_rfl) (by kernel_rfl) (fun h => by cases h) (fun _ _ _ h => h) (by rfl) (fun W hS hT => ?_) (fun _ => trivial) ⟨z0, z1, z2, z3, z4, z5, z6, z7⟩ (fun h => by cases h) ?_
      · first | (go_simp; done) | (go_simp; with_reducible rfl) | rfl
      simp only [Act.put, List.getElem_toArray, List.getElem_cons_zero, List.getElem_cons_succ, List.setIfInBounds_toArray, List.set_cons_zero, List.set_cons_succ]
      refine late_take (i := 49) (.bool true) false rfl (by kernel_rfl) (by kernel_rfl) (by kernel_rfl) (by kernel_rfl) (fun h => by cases h) (fun _ _ _ h => h) (by rfl) (fun W hS hT => ?_) (fun _ => trivial) ⟨z0, z1, z2, z3, z4, z5, z6, z7⟩ (fun h => by cases h) ?_
      · first | (go_simp; done) | (go_simp; with_reducible rfl) | rfl
      simp only [Act.put, List.getElem_toArray, List.getElem_cons_zero, List.getElem_cons_succ, List.setIfInBounds_toArray, List.set_cons_zero, List.set_cons_succ]
      refine late_done (by kernel_rfl) ?_ _
      have HBF := Lib.hid (HBW3.out.next HBW)
      go_wp2_with fail
      go_ret
      exact ⟨rfl, HBF.out⟩
    · have HKO := kind_of HVX.out
      rw [← HK0.out] at HKO
      obtain ⟨fk, rk, hm, hcf, hkc⟩ := HKO
      have HCF := Lib.hid hcf
      have HM := Lib.hid hm
      have HKC := Lib.hid hkc
      clear hm hkc hcf
      have hkk : (k0x == k0x) = true := by simp
      refine late_begin [] (fun _ => True) (fun w' => w'.cell? ⟨w1.heap.size, 0, none⟩ = some (.int .i64 k0x) ∧ w'.cell? ⟨w1.heap.size, 1, none⟩ = some (.string tyx) ∧ w'.cell? ⟨w1.heap.size, 2, none⟩ = some (.int .u64 b0x) ∧ w'.cell? ⟨w1.heap.size, 3, none⟩ = some (.int .u64 i0x) ∧ w'.cell? ⟨w1.heap.size, 4, none⟩ = some (.string txx) ∧ w'.cell? ⟨w1.heap.size, 5, none⟩ = some (.slice a5x n5x c5x) ∧ w'.cell? ⟨w1.heap.size, 6, none⟩ = some (.slice a6x n6x c6x) ∧ w'.cell? ⟨w1.heap.size, 7, none⟩ = some (.int .i64 h0x)) (by kernel_rfl) ?_
      refine late_take (i := 0) (.iface t y) false rfl (by kernel_rfl) (by kernel_rfl) (by kernel_rfl) (by kernel_rfl) (fun h => by cases h) (fun _ _ _ h => h) (by rfl) (fun W hS hT => ?_) (fun _ => trivial) ⟨z0, z1, z2, z3, z4, z5, z6, z7⟩ (fun h => by cases h) ?_
      · first | (go_simp; done) | (go_simp; with_reducible rfl) | rfl
      simp only [Act.put, List.getElem_toArray, List.getElem_cons_zero, List.getElem_cons_succ, List.setIfInBounds_toArray, List.set_cons_zero, List.set_cons_succ]
      refine late_take (i := 2) (.agg #[.int .i64 k0x, .string tyx, .int .u64 b0x, .int .u64 i0x, .string txx, .slice a5x n5x c5x, .slice a6x n6x c6x, .int .i64 h0x]) false rfl (by kernel_rfl) (by kernel_rfl) (by kernel_rfl) (by kernel_rfl) (fun h => by cases h) (fun _ _ _ h => h) (by rfl) (fun W hS hT => ?_) (fun _ => trivial) ⟨z0, z1, z2, z3, z4, z5, z6, z7⟩ (fun h => by cases h) ?_
      · (obtain ⟨x0, x1, x2, x3, x4, x5, x6, x7⟩ := hT; first | (go_simp; done) | (go_simp; with_reducible rfl))
      simp only [Act.put, List.getElem_toArray, List.getElem_cons_zero, List.getElem_cons_succ, List.setIfInBounds_toArray, List.set_cons_zero, List.set_cons_succ]
      refine late_one 1 rfl (by kernel_rfl) (fun K hK => ?_)
      try simp only [List.getElem_toArray, List.getElem_cons_zero, List.getElem_cons_succ]
      rw [if_pos (by rfl)]
      go_simp
      refine (HC25.out _ HBW).mono ?_
      rintro e wa ⟨rfl, hbN⟩
      (try go_simp)
      have z0 := cell_below hbN z0
      have z1 := cell_below hbN z1
      have z2 := cell_below hbN z2
      have z3 := cell_below hbN z3
      have z4 := cell_below hbN z4
      have z5 := cell_below hbN z5
      have z6 := cell_below hbN z6
      have z7 := cell_below hbN z7
      have HBW := HBW.next hbN
      refine hK _ _ (fun _ => trivial) ⟨z0, z1, z2, z3, z4, z5, z6, z7⟩ ?_
      clear hK K hbN
      try simp only [Act.put, List.getElem_toArray, List.getElem_cons_zero, List.getElem_cons_succ, List.setIfInBounds_toArray, List.set_cons_zero, List.set_cons_succ]
      refine late_one 3 rfl (by kernel_rfl) (fun K hK => ?_)
      try simp only [List.getElem_toArray, List.getElem_cons_zero, List.getElem_cons_succ]
      rw [if_pos (by rfl)]
      go_simp
      refine (HC27.out _ HBW).mono ?_
      rintro e wb ⟨rfl, hbN⟩
      (try go_simp)
      have z0 := cell_below hbN z0
      have z1 := cell_below hbN z1
      have z2 := cell_below hbN z2
      have z3 := cell_below hbN z3
      have z4 := cell_below hbN z4
      have z5 := cell_below hbN z5
      have z6 := cell_below hbN z6
      have z7 := cell_below hbN z7
      have HBW := HBW.next hbN
      refine hK _ _ (fun _ => trivial) ⟨z0, z1, z2, z3, z4, z5, z6, z7⟩ ?_
      clear hK K hbN
      try simp only [Act.put, List.getElem_toArray, List.getElem_cons_zero, List.getElem_cons_succ, List.setIfInBounds_toArray, List.set_cons_zero, List.set_cons_succ]
      refine late_take (i := 4) (.bool true) false rfl (by kernel_rfl) (by kernel_rfl) (by kernel_rfl) (by kernel_rfl) (fun h => by cases h) (fun _ _ _ h => h) (by rfl) (fun W hS hT => ?_) (fun _ => trivial) ⟨z0, z1, z2, z3, z4, z5, z6, z7⟩ (fun h => by cases h) ?_
      · first | (go_simp; done) | (go_simp; with_reducible rfl) | rfl
      simp only [Act.put, List.getElem_toArray, List.getElem_cons_zero, List.getElem_cons_succ, List.setIfInBounds_toArray, List.set_cons_zero, List.set_cons_succ]
      refine late_take (i := 5) (.bool true) false rfl (by kernel_rfl) (by kernel_rfl) (by kernel_rfl) (by kernel_rfl) (fun h => by cases h) (fun _ _ _ h => h) (by rfl) (fun W hS hT => ?_) (fun _ => trivial) ⟨z0, z1, z2, z3, z4, z5, z6, z7⟩ (fun h => by cases h) ?_
      · first | (go_simp; done) | (go_simp; with_reducible rfl) | rfl
      simp only [Act.put, List.getElem_toArray, List.getElem_cons_zero, List.getElem_cons_succ, List.setIfInBounds_toArray, List.set_cons_zero, List.set_cons_succ]
      refine late_take (i := 6) (.iface t y) false rfl (by kernel_rfl) (by kernel_rfl) (by kernel_rfl) (by kernel_rfl) (fun h => by cases h) (fun _ _ _ h => h) (by rfl) (fun W hS hT => ?_) (fun _ => trivial) ⟨z0, z1, z2, z3, z4, z5, z6, z7⟩ (fun h => by cases h) ?_
      · first | (go_simp; done) | (go_simp; with_reducible rfl) | rfl
      simp only [Act.put, List.getElem_toArray, List.getElem_cons_zero, List.getElem_cons_succ, List.setIfInBounds_toArray, List.set_cons_zero, List.set_cons_succ]
      refine late_take (i := 8) (.pointer (some ⟨w1.heap.size, 7, none⟩)) false rfl (by kernel_rfl) (by kernel_rfl) (by kernel_rfl) (by kernel_rfl) (fun h => by cases h) (fun _ _ _ h => h) (by rfl) (fun W hS hT => ?_) (fun _ => trivial) ⟨z0, z1, z2, z3, z4, z5, z6, z7⟩ (fun h => by cases h) ?_
      · first | (go_simp; done) | (go_simp; with_reducible rfl) | rfl
      simp only [Act.put, List.getElem_toArray, List.getElem_cons_zero, List.getElem_cons_succ, List.setIfInBounds_toArray, List.set_cons_zero, List.set_cons_succ]
      refine late_take (i := 9) (.int .i64 h0x) false rfl (by kernel_rfl) (by kernel_rfl) (by kernel_rfl) (by kernel_rfl) (fun h => by cases h) (fun _ _ _ h => h) (by rfl) (fun W hS hT => ?_) (fun _ => trivial) ⟨z0, z1, z2, z3, z4, z5, z6, z7⟩ (fun h => by cases h) ?_
      · (obtain ⟨x0, x1, x2, x3, x4, x5, x6, x7⟩ := hT; first | (go_simp; done) | (go_simp; with_reducible rfl))
      simp only [Act.put, List.getElem_toArray, List.getElem_cons_zero, List.getElem_cons_succ, List.setIfInBounds_toArray, List.set_cons_zero, List.set_cons_succ]
      refine late_one 7 rfl (by kernel_rfl) (fun K hK => ?_)
      try simp only [List.getElem_toArray, List.getElem_cons_zero, List.getElem_cons_succ]
      rw [if_pos (by rfl)]
      go_simp
      refine (HC28.out _ HBW).mono ?_
      rintro e wc ⟨rfl, hbN⟩
      (try go_simp)
      have z0 := cell_below hbN z0
      have z1 := cell_below hbN z1
      have z2 := cell_below hbN z2
      have z3 := cell_below hbN z3
      have z4 := cell_below hbN z4
      have z5 := cell_below hbN z5
      have z6 := cell_below hbN z6
      have z7 := cell_below hbN z7
      have HBW := HBW.next hbN
      refine hK _ _ (fun _ => trivial) ⟨z0, z1, z2, z3, z4, z5, z6, z7⟩ ?_
      clear hK K hbN
      try simp only [Act.put, List.getElem_toArray, List.getElem_cons_zero, List.getElem_cons_succ, List.setIfInBounds_toArray, List.set_cons_zero, List.set_cons_succ]
      refine late_take (i := 10) (.bool true) false rfl (by kernel_rfl) (by kernel_rfl) (by kernel_rfl) (by kernel_rfl) (fun h => by cases h) (fun _ _ _ h => h) (by rfl) (fun W hS hT => ?_) (fun _ => trivial) ⟨z0, z1, z2, z3, z4, z5, z6, z7⟩ (fun h => by cases h) ?_
      · first | (go_simp; done) | (go_simp; with_reducible rfl) | rfl
      simp only [Act.put, List.getElem_toArray, List.getElem_cons_zero, List.getElem_cons_succ, List.setIfInBounds_toArray, List.set_cons_zero, List.set_cons_succ]
      refine late_take (i := 11) (.bool true) false rfl (by kernel_rfl) (by kernel_rfl) (by kernel_rfl) (by kernel_rfl) (fun h => by cases h) (fun _ _ _ h => h) (by rfl) (fun W hS hT => ?_) (fun _ => trivial) ⟨z0, z1, z2, z3, z4, z5, z6, z7⟩ (fun h => by cases h) ?_
      · first | (go_simp; done) | (go_simp; with_reducible rfl) | rfl
      simp only [Act.put, List.getElem_toArray, List.getElem_cons_zero, List.getElem_cons_succ, List.setIfInBounds_toArray, List.set_cons_zero, List.set_cons_succ]
      refine late_take (i := 12) (.bool true) false rfl (by kernel_rfl) (by kernel_rfl) (by kernel_rfl) (by kernel_rfl) (fun h => by cases h) (fun _ _ _ h => h) (by rfl) (fun W hS hT => ?_) (fun _ => trivial) ⟨z0, z1, z2, z3, z4, z5, z6, z7⟩ (fun h => by cases h) ?_
      · first | (go_simp; done) | (go_simp; with_reducible rfl) | rfl
      simp only [Act.put, List.getElem_toArray, List.getElem_cons_zero, List.getElem_cons_succ, List.setIfInBounds_toArray, List.set_cons_zero, List.set_cons_succ]
      refine late_take (i := 13) (.iface t y) false rfl (by kernel_rfl) (by kernel_rfl) (by kernel_rfl) (by kernel_rfl) (fun h => by cases h) (fun _ _ _ h => h) (by rfl) (fun W hS hT => ?_) (fun _ => trivial) ⟨z0, z1, z2, z3, z4, z5, z6, z7⟩ (fun h => by cases h) ?_
      · first | (go_simp; done) | (go_simp; with_reducible rfl) | rfl
      simp only [Act.put, List.getElem_toArray, List.getElem_cons_zero, List.getElem_cons_succ, List.setIfInBounds_toArray, List.set_cons_zero, List.set_cons_succ]
      refine late_take (i := 15) (.agg #[.int .i64 k0x, .string tyx, .int .u64 b0x, .int .u64 i0x, .string txx, .slice a5x n5x c5x, .slice a6x n6x c6x, .int .i64 h0x]) false rfl (by kernel_rfl) (by kernel_rfl) (by kernel_rfl) (by kernel_rfl) (fun h => by cases h) (fun _ _ _ h => h) (by rfl) (fun W hS hT => ?_) (fun _ => trivial) ⟨z0, z1, z2, z3, z4, z5, z6, z7⟩ (fun h => by cases h) ?_
      · (obtain ⟨x0, x1, x2, x3, x4, x5, x6, x7⟩ := hT; first | (go_simp; done) | (go_simp; with_reducible rfl))
      simp only [Act.put, List.getElem_toArray, List.getElem_cons_zero, List.getElem_cons_succ, List.setIfInBounds_toArray, List.set_cons_zero, List.set_cons_succ]
      refine late_one 14 rfl (by kernel_rfl) (fun K hK => ?_)
      try simp only [List.getElem_toArray, List.getElem_cons_zero, List.getElem_cons_succ]
      rw [if_pos (by rfl)]
      go_simp
      refine (HC26.out _ HBW).mono ?_
      rintro e wd ⟨rfl, hbN⟩
      (try go_simp)
      have z0 := cell_below hbN z0
      have z1 := cell_below hbN z1
      have z2 := cell_below hbN z2
      have z3 := cell_below hbN z3
      have z4 := cell_below hbN z4
      have z5 := cell_below hbN z5
      have z6 := cell_below hbN z6
      have z7 := cell_below hbN z7
      have HBW := HBW.next hbN
      refine hK _ _ (fun _ => trivial) ⟨z0, z1, z2, z3, z4, z5, z6, z7⟩ ?_
      clear hK K hbN
      try simp only [Act.put, List.getElem_toArray, List.getElem_cons_zero, List.getElem_cons_succ, List.setIfInBounds_toArray, List.set_cons_zero, List.set_cons_succ]
      refine late_one 16 rfl (by kernel_rfl) (fun K hK => ?_)
      try simp only [List.getElem_toArray, List.getElem_cons_zero, List.getElem_cons_succ]
      rw [if_pos (by rfl)]
      go_simp
      refine (HC29.out _ HBW).mono ?_
      rintro e we ⟨rfl, hbN⟩
      (try go_simp)
      have z0 := cell_below hbN z0
      have z1 := cell_below hbN z1
      have z2 := cell_below hbN z2
      have z3 := cell_below hbN z3
      have z4 := cell_below hbN z4
      have z5 := cell_below hbN z5
      have z6 := cell_below hbN z6
      have z7 := cell_below hbN z7
      have HBW := HBW.next hbN
      refine hK _ _ (fun _ => trivial) ⟨z0, z1, z2, z3, z4, z5, z6, z7⟩ ?_
      clear hK K hbN
      try simp only [Act.put, List.getElem_toArray, List.getElem_cons_zero, List.getElem_cons_succ, List.setIfInBounds_toArray, List.set_cons_zero, List.set_cons_succ]
      refine late_take (i := 17) (.bool true) false rfl (by kernel_rfl) (by kernel_rfl) (by kernel_rfl) (by kernel_rfl) (fun h => by cases h) (fun _ _ _ h => h) (by rfl) (fun W hS hT => ?_) (fun _ => trivial) ⟨z0, z1, z2, z3, z4, z5, z6, z7⟩ (fun h => by cases h) ?_
      · first | (go_simp; done) | (go_simp; with_reducible rfl) | rfl
      simp only [Act.put, List.getElem_toArray, List.getElem_cons_zero, List.getElem_cons_succ, List.setIfInBounds_toArray, List.set_cons_zero, List.set_cons_succ]
      refine late_take (i := 18) (.bool true) false rfl (by kernel_rfl) (by kernel_rfl) (by kernel_rfl) (by kernel_rfl) (fun h => by cases h) (fun _ _ _ h => h) (by rfl) (fun W hS hT => ?_) (fun _ => trivial) ⟨z0, z1, z2, z3, z4, z5, z6, z7⟩ (fun h => by cases h) ?_
      · first | (go_simp; done) | (go_simp; with_reducible rfl) | rfl
      simp only [Act.put, List.getElem_toArray, List.getElem_cons_zero, List.getElem_cons_succ, List.setIfInBounds_toArray, List.set_cons_zero, List.set_cons_succ]
      refine late_take (i := 19) (.bool true) false rfl (by kernel_rfl) (by kernel_rfl) (by kernel_rfl) (by kernel_rfl) (fun h => by cases h) (fun _ _ _ h => h) (by rfl) (fun W hS hT => ?_) (fun _ => trivial) ⟨z0, z1, z2, z3, z4, z5, z6, z7⟩ (fun h => by cases h) ?_
      · first | (go_simp; done) | (go_simp; with_reducible rfl) | rfl
      simp only [Act.put, List.getElem_toArray, List.getElem_cons_zero, List.getElem_cons_succ, List.setIfInBounds_toArray, List.set_cons_zero, List.set_cons_succ]
      refine late_take (i := 20) (.iface t y) false rfl (by kernel_rfl) (by kernel_rfl) (by kernel_rfl) (by kernel_rfl) (fun h => by cases h) (fun _ _ _ h => h) (by rfl) (fun W hS hT => ?_) (fun _ => trivial) ⟨z0, z1, z2, z3, z4, z5, z6, z7⟩ (fun h => by cases h) ?_
      · first | (go_simp; done) | (go_simp; with_reducible rfl) | rfl
      simp only [Act.put, List.getElem_toArray, List.getElem_cons_zero, List.getElem_cons_succ, List.setIfInBounds_toArray, List.set_cons_zero, List.set_cons_succ]
      refine late_take (i := 22) (.agg #[.int .i64 k0x, .string tyx, .int .u64 b0x, .int .u64 i0x, .string txx, .slice a5x n5x c5x, .slice a6x n6x c6x, .int .i64 h0x]) false rfl (by kernel_rfl) (by kernel_rfl) (by kernel_rfl) (by kernel_rfl) (fun h => by cases h) (fun _ _ _ h => h) (by rfl) (fun W hS hT => ?_) (fun _ => trivial) ⟨z0, z1, z2, z3, z4, z5, z6, z7⟩ (fun h => by cases h) ?_
      · (obtain ⟨x0, x1, x2, x3, x4, x5, x6, x7⟩ := hT; first | (go_simp; done) | (go_simp; with_reducible rfl))
      simp only [Act.put, List.getElem_toArray, List.getElem_cons_zero, List.getElem_cons_succ, List.setIfInBounds_toArray, List.set_cons_zero, List.set_cons_succ]
      refine late_one 21 rfl (by kernel_rfl) (fun K hK => ?_)
      try simp only [List.getElem_toArray, List.getElem_cons_zero, List.getElem_cons_succ]
      rw [if_pos (by rfl)]
      go_simp
      refine (HC30.out _ HBW).mono ?_
      rintro e wf ⟨rfl, hbN⟩
      (try go_simp)
      have z0 := cell_below hbN z0
      have z1 := cell_below hbN z1
      have z2 := cell_below hbN z2
      have z3 := cell_below hbN z3
      have z4 := cell_below hbN z4
      have z5 := cell_below hbN z5
      have z6 := cell_below hbN z6
      have z7 := cell_below hbN z7
      have HBW := HBW.next hbN
      refine hK _ _ (fun _ => trivial) ⟨z0, z1, z2, z3, z4, z5, z6, z7⟩ ?_
      clear hK K hbN
      try simp only [Act.put, List.getElem_toArray, List.getElem_cons_zero, List.getElem_cons_succ, List.setIfInBounds_toArray, List.set_cons_zero, List.set_cons_succ]
      refine late_one 23 rfl (by kernel_rfl) (fun K hK => ?_)
      try simp only [List.getElem_toArray, List.getElem_cons_zero, List.getElem_cons_succ]
      rw [if_pos (by rfl)]
      go_simp
      refine (HC31.out _ HBW).mono ?_
      rintro e wg ⟨rfl, hbN⟩
      (try go_simp)
      have z0 := cell_below hbN z0
      have z1 := cell_below hbN z1
      have z2 := cell_below hbN z2
      have z3 := cell_below hbN z3
      have z4 := cell_below hbN z4
      have z5 := cell_below hbN z5
      have z6 := cell_below hbN z6
      have z7 := cell_below hbN z7
      have HBW := HBW.next hbN
      refine hK _ _ (fun _ => trivial) ⟨z0, z1, z2, z3, z4, z5, z6, z7⟩ ?_
      clear hK K hbN
      try simp only [Act.put, List.getElem_toArray, List.getElem_cons_zero, List.getElem_cons_succ, List.setIfInBounds_toArray, List.set_cons_zero, List.set_cons_succ]
      refine late_take (i := 24) (.bool true) false rfl (by kernel_rfl) (by kernel_rfl) (by kernel_rfl) (by kernel_rfl) (fun h => by cases h) (fun _ _ _ h => h) (by rfl) (fun W hS hT => ?_) (fun _ => trivial) ⟨z0, z1, z2, z3, z4, z5, z6, z7⟩ (fun h => by cases h) ?_
      · first | (go_simp; done) | (go_simp; with_reducible rfl) | rfl
      simp only [Act.put, List.getElem_toArray, List.getElem_cons_zero, List.getElem_cons_succ, List.setIfInBounds_toArray, List.set_cons_zero, List.set_cons_succ]
      refine late_take (i := 25) (.bool true) false rfl (by kernel_rfl) (by kernel_rfl) (by kernel_rfl) (by kernel_rfl) (fun h => by cases h) (fun _ _ _ h => h) (by rfl) (fun W hS hT => ?_) (fun _ => trivial) ⟨z0, z1, z2, z3, z4, z5, z6, z7⟩ (fun h => by cases h) ?_
      · first | (go_simp; done) | (go_simp; with_reducible rfl) | rfl
      simp only [Act.put, List.getElem_toArray, List.getElem_cons_zero, List.getElem_cons_succ, List.setIfInBounds_toArray, List.set_cons_zero, List.set_cons_succ]
      refine late_take (i := 26) (.bool true) false rfl (by kernel_rfl) (by kernel_rfl) (by kernel_rfl) (by kernel_rfl) (fun h => by cases h) (fun _ _ _ h => h) (by rfl) (fun W hS hT => ?_) (fun _ => trivial) ⟨z0, z1, z2, z3, z4, z5, z6, z7⟩ (fun h => by cases h) ?_
      · first | (go_simp; done) | (go_simp; with_reducible rfl) | rfl
      simp only [Act.put, List.getElem_toArray, List.getElem_cons_zero, List.getElem_cons_succ, List.setIfInBounds_toArray, List.set_cons_zero, List.set_cons_succ]
      refine late_take (i := 27) (.iface t y) false rfl (by kernel_rfl) (by kernel_rfl) (by kernel_rfl) (by kernel_rfl) (fun h => by cases h) (fun _ _ _ h => h) (by rfl) (fun W hS hT => ?_) (fun _ => trivial) ⟨z0, z1, z2, z3, z4, z5, z6, z7⟩ (fun h => by cases h) ?_
      · first | (go_simp; done) | (go_simp; with_reducible rfl) | rfl
      simp only [Act.put, List.getElem_toArray, List.getElem_cons_zero, List.getElem_cons_succ, List.setIfInBounds_toArray, List.set_cons_zero, List.set_cons_succ]
      refine late_take (i := 28) (.bool false) false rfl (by kernel_rfl) (by kernel_rfl) (by kernel_rfl) (by kernel_rfl) (fun h => by cases h) (fun _ _ _ h => h) (by rfl) (fun W hS hT => ?_) (fun _ => trivial) ⟨z0, z1, z2, z3, z4, z5, z6, z7⟩ (fun h => by cases h) ?_
      · first | (go_simp; done) | (go_simp; with_reducible rfl) | rfl
      simp only [Act.put, List.getElem_toArray, List.getElem_cons_zero, List.getElem_cons_succ, List.setIfInBounds_toArray, List.set_cons_zero, List.set_cons_succ]
      refine late_take (i := 29) (.bool false) false rfl (by kernel_rfl) (by kernel_rfl) (by kernel_rfl) (by kernel_rfl) (fun h => by cases h) (fun _ _ _ h => h) (by rfl) (fun W hS hT => ?_) (fun _ => trivial) ⟨z0, z1, z2, z3, z4, z5, z6, z7⟩ (fun h => by cases h) ?_
      · first | (go_simp; done) | (go_simp; with_reducible rfl) | rfl
      simp only [Act.put, List.getElem_toArray, List.getElem_cons_zero, List.getElem_cons_succ, List.setIfInBounds_toArray, List.set_cons_zero, List.set_cons_succ]
      refine late_skip (i := 30) rfl (by kernel_rfl) (by kernel_rfl) (by kernel_rfl) (by kernel_rfl) (fun _ _ _ h => h) (by rfl) (fun _ => trivial) ⟨z0, z1, z2, z3, z4, z5, z6, z7⟩ ?_
      simp only [Act.put, List.getElem_toArray, List.getElem_cons_zero, List.getElem_cons_succ, List.setIfInBounds_toArray, List.set_cons_zero, List.set_cons_succ]
      refine late_skip (i := 31) rfl (by kernel_rfl) (by kernel_rfl) (by kernel_rfl) (by kernel_rfl) (fun _ _ _ h => h) (by rfl) (fun _ => trivial) ⟨z0, z1, z2, z3, z4, z5, z6, z7⟩ ?_
      simp only [Act.put, List.getElem_toArray, List.getElem_cons_zero, List.getElem_cons_succ, List.setIfInBounds_toArray, List.set_cons_zero, List.set_cons_succ]
      refine late_skip (i := 32) rfl (by kernel_rfl) (by kernel_rfl) (by kernel_rfl) (by kernel_rfl) (fun _ _ _ h => h) (by rfl) (fun _ => trivial) ⟨z0, z1, z2, z3, z4, z5, z6, z7⟩ ?_
      simp only [Act.put, List.getElem_toArray, List.getElem_cons_zero, List.getElem_cons_succ, List.setIfInBounds_toArray, List.set_cons_zero, List.set_cons_succ]
      refine late_take (i := 33) (.bool false) false rfl (by kernel_rfl) (by kernel_rfl) (by kernel_rfl) (by kernel_rfl) (fun h => by cases h) (fun _ _ _ h => h) (by rfl) (fun W hS hT => ?_) (fun _ => trivial) ⟨z0, z1, z2, z3, z4, z5, z6, z7⟩ (fun h => by cases h) ?_
      · first | (go_simp; done) | (go_simp; with_reducible rfl) | rfl
      simp only [Act.put, List.getElem_toArray, List.getElem_cons_zero, List.getElem_cons_succ, List.setIfInBounds_toArray, List.set_cons_zero, List.set_cons_succ]
      refine late_take (i := 34) (.bool false) false rfl (by kernel_rfl) (by kernel_rfl) (by kernel_rfl) (by kernel_rfl) (fun h => by cases h) (fun _ _ _ h => h) (by rfl) (fun W hS hT => ?_) (fun _ => trivial) ⟨z0, z1, z2, z3, z4, z5, z6, z7⟩ (fun h => by cases h) ?_
      · first | (go_simp; done) | (go_simp; with_reducible rfl) | rfl
      simp only [Act.put, List.getElem_toArray, List.getElem_cons_zero, List.getElem_cons_succ, List.setIfInBounds_toArray, List.set_cons_zero, List.set_cons_succ]
      refine late_take (i := 35) (.iface t y) false rfl (by kernel_rfl) (by kernel_rfl) (by kernel_rfl) (by kernel_rfl) (fun h => by cases h) (fun _ _ _ h => h) (by rfl) (fun W hS hT => ?_) (fun _ => trivial) ⟨z0, z1, z2, z3, z4, z5, z6, z7⟩ (fun h => by cases h) ?_
      · first | (go_simp; done) | (go_simp; with_reducible rfl) | rfl
      simp only [Act.put, List.getElem_toArray, List.getElem_cons_zero, List.getElem_cons_succ, List.setIfInBounds_toArray, List.set_cons_zero, List.set_cons_succ]
      refine late_take (i := 36) (.bool true) false rfl (by kernel_rfl) (by kernel_rfl) (by kernel_rfl) (by kernel_rfl) (fun h => by cases h) (fun _ _ _ h => h) (by rfl) (fun W hS hT => ?_) (fun _ => trivial) ⟨z0, z1, z2, z3, z4, z5, z6, z7⟩ (fun h => by cases h) ?_
      · first | (go_simp; done) | (go_simp; with_reducible rfl) | rfl
      simp only [Act.put, List.getElem_toArray, List.getElem_cons_zero, List.getElem_cons_succ, List.setIfInBounds_toArray, List.set_cons_zero, List.set_cons_succ]
      refine late_take (i := 37) (.bool true) false rfl (by kernel_rfl) (by kernel_rfl) (by kernel_rfl) (by kernel_rfl) (fun h => by cases h) (fun _ _ _ h => h) (by rfl) (fun W hS hT => ?_) (fun _ => trivial) ⟨z0, z1, z2, z3, z4, z5, z6, z7⟩ (fun h => by cases h) ?_
      · first | (go_simp; done) | (go_simp; with_reducible rfl) | rfl
      simp only [Act.put, List.getElem_toArray, List.getElem_cons_zero, List.getElem_cons_succ, List.setIfInBounds_toArray, List.set_cons_zero, List.set_cons_succ]
      refine late_take (i := 38) (.iface t y) false rfl (by kernel_rfl) (by kernel_rfl) (by kernel_rfl) (by kernel_rfl) (fun h => by cases h) (fun _ _ _ h => h) (by rfl) (fun W hS hT => ?_) (fun _ => trivial) ⟨z0, z1, z2, z3, z4, z5, z6, z7⟩ (fun h => by cases h) ?_
      · first | (go_simp; done) | (go_simp; with_reducible rfl) | rfl
      simp only [Act.put, List.getElem_toArray, List.getElem_cons_zero, List.getElem_cons_succ, List.setIfInBounds_toArray, List.set_cons_zero, List.set_cons_succ]
      refine late_take (i := 40) (.pointer (some ⟨w1.heap.size, 0, none⟩)) false rfl (by kernel_rfl) (by kernel_rfl) (by kernel_rfl) (by kernel_rfl) (fun h => by cases h) (fun _ _ _ h => h) (by rfl) (fun W hS hT => ?_) (fun _ => trivial) ⟨z0, z1, z2, z3, z4, z5, z6, z7⟩ (fun h => by cases h) ?_
      · first | (go_simp; done) | (go_simp; with_reducible rfl) | rfl
      simp only [Act.put, List.getElem_toArray, List.getElem_cons_zero, List.getElem_cons_succ, List.setIfInBounds_toArray, List.set_cons_zero, List.set_cons_succ]
      refine late_take (i := 41) (.int .i64 k0x) false rfl (by kernel_rfl) (by kernel_rfl) (by kernel_rfl) (by kernel_rfl) (fun h => by cases h) (fun _ _ _ h => h) (by rfl) (fun W hS hT => ?_) (fun _ => trivial) ⟨z0, z1, z2, z3, z4, z5, z6, z7⟩ (fun h => by cases h) ?_
      · (obtain ⟨x0, x1, x2, x3, x4, x5, x6, x7⟩ := hT; first | (go_simp; done) | (go_simp; with_reducible rfl))
      simp only [Act.put, List.getElem_toArray, List.getElem_cons_zero, List.getElem_cons_succ, List.setIfInBounds_toArray, List.set_cons_zero, List.set_cons_succ]
      refine late_one 39 rfl (by kernel_rfl) (fun K hK => ?_)
      try simp only [List.getElem_toArray, List.getElem_cons_zero, List.getElem_cons_succ]
      rw [if_pos (by rfl)]
      go_simp
      (try rw [HM.out]); (try go_simp); rw [HCF.out]; (try go_simp)
      refine (HKC.out _).mono ?_
      rintro e wi ⟨rfl, hbN⟩
      (try go_simp)
      have z0 := cell_below hbN z0
      have z1 := cell_below hbN z1
      have z2 := cell_below hbN z2
      have z3 := cell_below hbN z3
      have z4 := cell_below hbN z4
      have z5 := cell_below hbN z5
      have z6 := cell_below hbN z6
      have z7 := cell_below hbN z7
      have HBW := HBW.next hbN
      refine hK _ _ (fun _ => trivial) ⟨z0, z1, z2, z3, z4, z5, z6, z7⟩ ?_
      clear hK K hbN
      try simp only [Act.put, List.getElem_toArray, List.getElem_cons_zero, List.getElem_cons_succ, List.setIfInBounds_toArray, List.set_cons_zero, List.set_cons_succ]
      refine late_take (i := 42) (.bool true) false rfl (by kernel_rfl) (by kernel_rfl) (by kernel_rfl) (by kernel_rfl) (fun h => by cases h) (fun _ _ _ h => h) (by rfl) (fun W hS hT => ?_) (fun _ => trivial) ⟨z0, z1, z2, z3, z4, z5, z6, z7⟩ (fun h => by cases h) ?_
      · first | (go_simp; done) | (go_simp; with_reducible rfl) | rfl
      simp only [Act.put, List.getElem_toArray, List.getElem_cons_zero, List.getElem_cons_succ, List.setIfInBounds_toArray, List.set_cons_zero, List.set_cons_succ]
      refine late_take (i := 43) (.bool true) false rfl (by kernel_rfl) (by kernel_rfl) (by kernel_rfl) (by kernel_rfl) (fun h => by cases h) (fun _ _ _ h => h) (by rfl) (fun W hS hT => ?_) (fun _ => trivial) ⟨z0, z1, z2, z3, z4, z5, z6, z7⟩ (fun h => by cases h) ?_
      · first | (go_simp; done) | (go_simp; with_reducible rfl) | rfl
      simp only [Act.put, List.getElem_toArray, List.getElem_cons_zero, List.getElem_cons_succ, List.setIfInBounds_toArray, List.set_cons_zero, List.set_cons_succ]
      refine late_take (i := 44) (.bool true) false rfl (by kernel_rfl) (by kernel_rfl) (by kernel_rfl) (by kernel_rfl) (fun h => by cases h) (fun _ _ _ h => h) (by rfl) (fun W hS hT => ?_) (fun _ => trivial) ⟨z0, z1, z2, z3, z4, z5, z6, z7⟩ (fun h => by cases h) ?_
      · first | (go_simp; done) | (go_simp; with_reducible rfl) | rfl
      simp only [Act.put, List.getElem_toArray, List.getElem_cons_zero, List.getElem_cons_succ, List.setIfInBounds_toArray, List.set_cons_zero, List.set_cons_succ]
      refine late_take (i := 45) (.bool true) false rfl (by kernel_rfl) (by kernel_rfl) (by kernel_rfl) (by kernel_rfl) (fun h => by cases h) (fun _ _ _ h => h) (by rfl) (fun W hS hT => ?_) (fun _ => trivial) ⟨z0, z1, z2, z3, z4, z5, z6, z7⟩ (fun h => by cases h) ?_
      · first | (go_simp; done) | (go_simp; with_reducible rfl) | rfl
      simp only [Act.put, List.getElem_toArray, List.getElem_cons_zero, List.getElem_cons_succ, List.setIfInBounds_toArray, List.set_cons_zero, List.set_cons_succ]
      refine late_take (i := 46) (.bool true) false rfl (by kernel_rfl) (by kernel_rfl) (by kernel_rfl) (by kernel_rfl) (fun h => by cases h) (fun _ _ _ h => h) (by rfl) (fun W hS hT => ?_) (fun _ => trivial) ⟨z0, z1, z2, z3, z4, z5, z6, z7⟩ (fun h => by cases h) ?_
      · first | (go_simp; done) | (go_simp; with_reducible rfl) | rfl
      simp only [Act.put, List.getElem_toArray, List.getElem_cons_zero, List.getElem_cons_succ, List.setIfInBounds_toArray, List.set_cons_zero, List.set_cons_succ]
      refine late_one 47 rfl (by kernel_rfl) (fun K hK => ?_)
      try simp only [List.getElem_toArray, List.getElem_cons_zero, List.getElem_cons_succ]
      rw [if_pos (by rfl)]
      go_simp
      refine (HC13.out _).mono ?_
      rintro e wh ⟨rfl, hbN⟩
      (try go_simp)
      have z0 := cell_below hbN z0
      have z1 := cell_below hbN z1
      have z2 := cell_below hbN z2
      have z3 := cell_below hbN z3
      have z4 := cell_below hbN z4
      have z5 := cell_below hbN z5
      have z6 := cell_below hbN z6
      have z7 := cell_below hbN z7
      have HBW := HBW.next hbN
      refine hK _ _ (fun _ => trivial) ⟨z0, z1, z2, z3, z4, z5, z6, z7⟩ ?_
      clear hK K hbN
      try simp only [Act.put, List.getElem_toArray, List.getElem_cons_zero, List.getElem_cons_succ, List.setIfInBounds_toArray, List.set_cons_zero, List.set_cons_succ]
      refine late_take (i := 48) (.bool true) false rfl (by kernel_rfl) (by kernel_rfl) (by kernel_rfl) (by kernel_rfl) (fun h => by cases h) (fun _ _ _ h => h) (by rfl) (fun W hS hT => ?_) (fun _ => trivial) ⟨z0, z1, z2, z3, z4, z5, z6, z7⟩ (fun h => by cases h) ?_
      · first | (go_simp; done) | (go_simp; with_reducible rfl) | rfl
      simp only [Act.put, List.getElem_toArray, List.getElem_cons_zero, List.getElem_cons_succ, List.setIfInBounds_toArray, List.set_cons_zero, List.set_cons_succ]
      refine late_take (i := 49) (.bool true) false rfl (by kernel_rfl) (by kernel_rfl) (by kernel_rfl) (by kernel_rfl) (fun h => by cases h) (fun _ _ _ h => h) (by rfl) (fun W hS hT => ?_) (fun _ => trivial) ⟨z0, z1, z2, z3, z4, z5, z6, z7⟩ (fun h => by cases h) ?_
      · first | (go_simp; done) | (go_simp; with_reducible rfl) | rfl
      simp only [Act.put, List.getElem_toArray, List.getElem_cons_zero, List.getElem_cons_succ, List.setIfInBounds_toArray, List.set_cons_zero, List.set_cons_succ]
      refine late_done (by kernel_rfl) ?_ _
      have HBF := Lib.hid (HBW3.out.next HBW)
      go_wp2_with fail
      go_ret
      exact ⟨rfl, HBF.out⟩
end Go.Proofs.Ythpgnhmikffcpaa
