/- A value's descriptor is built as the same value: the law's walk. No condition but that the argument is a descriptor. -/
import Derived.Test.YthpgnhmikffcpaaZQN
import Derived.Test.YthpgnhmikffcpaaZQL
namespace Go.Proofs.Ythpgnhmikffcpaa
set_option linter.unusedVariables false
set_option linter.unusedSimpArgs false
open Go.RowKit

theorem built_kind {d : D} {x : V} (h : errD d = 0) (hx : mkV d = some x) : 0 ≤ x.base.kind ∧ x.base.kind ≤ 22 := by
  obtain ⟨_, hk, _, _⟩ := err_zero h
  rw [allD_eq, Bool.and_eq_true] at hk
  have hk1 : 0 ≤ d.kind ∧ d.kind ≤ 22 := by simpa [kindB] using hk.1
  rw [mkV_kind hk1.1 hx]
  exact hk1
theorem built_size {d : D} {x : V} (h : errD d = 0) (hx : mkV d = some x) : sizeV x ≤ 1000 := by
  obtain ⟨h1, hk, hf, _⟩ := err_zero h
  have h2 := mk_size d hk hf x hx
  rw [errD_is] at h
  by_cases c : 64 < sizeD d ∨ 1024 < textD d
  · rw [if_pos c] at h; cases h
  · omega
set_option maxRecDepth 100000 in
set_option maxHeartbeats 8000000 in
theorem back_any {d : D} {w : World} {v0 : Value} (h : IsD w v0 d) : Calls Try.prog 10 #[v0] w fun e w' => e = .returned (.bool true) ∧ Below w.heap.size w w' := by
  have HD := Lib.hid h
  have HR := Lib.hid h.rng
  obtain ⟨a5, c5, a6, c6, rfl, _⟩ := h.open
  clear h
  unfold aggD at HD ⊢
  go_enter Try.func10, Try.ntmps10
  go_wp2_with fail
  have HB0 := Lib.hid (Below.new (w := w) (.cells #[.int .i64 d.kind, .string d.type, .int .u64 d.bits, .int .u64 d.imag, .string d.text, .slice a5 d.names.length c5, .slice a6 d.parts.length c6, .int .i64 d.hook] 26))
  generalize w.alloc (.cells #[.int .i64 d.kind, .string d.type, .int .u64 d.bits, .int .u64 d.imag, .string d.text, .slice a5 d.names.length c5, .slice a6 d.parts.length c6, .int .i64 d.hook] 26) = w0 at HB0 ⊢
  refine (built_any (HD.out.later HB0.out)).mono ?_
  rintro e w1 ⟨hB1, v, ok, k0x, tyx, b0x, i0x, txx, a5x, n5x, c5x, a6x, n6x, c6x, h0x, du, rfl, hdu, hvs, hok⟩
  have HB1 := Lib.hid hB1
  have HOK := Lib.hid hok
  clear hB1 hdu hvs hok
  cases ok with
  | false =>
    go_wp2_with fail
    refine (lives_any _).mono ?_
    rintro e wl ⟨rfl, hBl⟩
    have HBl := Lib.hid (((HB0.out.next HB1.out).push _).next hBl)
    clear hBl
    go_wp2_with fail
    go_ret
    exact ⟨rfl, HBl.out⟩
  | true =>
    obtain ⟨_, he, x, hx, hvf, rfl⟩ := HOK.out rfl
    have HFx := Lib.hid (built_facts HR.out he hx)
    have HKd := Lib.hid (built_kind he hx)
    have HSz := Lib.hid (built_size he hx)
    have HAg := Lib.hid (again he hx)
    have HVX := Lib.hid hvf.isV
    clear he hx hvf HOK
    go_upto_region 4 with fail
    have hb1n : Below w1.heap.size w1 (w1.alloc (.cells #[.int .i64 k0x, .string tyx, .int .u64 b0x, .int .u64 i0x, .string txx, .slice a5x n5x c5x, .slice a6x n6x c6x, .int .i64 h0x] 26)) := Below.new _
    have HB1n := Lib.hid hb1n
    have HBW := Lib.hid ((HB0.out.next HB1.out).next hb1n)
    generalize w1.alloc (.cells #[.int .i64 k0x, .string tyx, .int .u64 b0x, .int .u64 i0x, .string txx, .slice a5x n5x c5x, .slice a6x n6x c6x, .int .i64 h0x] 26) = W1 at HB1n hb1n HBW ⊢
    clear hb1n
    go_wp2_with fail
    refine (Raw_at HFx.out.2 (HVX.out.later HB1n.out)).mono ?_
    rintro e w2 ⟨hB2, g5, g5', g6, g6', rfl, hdg⟩
    have HDG := Lib.hid hdg.isD
    have HB2 := Lib.hid hB2
    clear hdg hB2
    obtain ⟨r, hr⟩ : ∃ r, rawV x = r := ⟨_, rfl⟩
    rw [hr] at HDG HAg ⊢
    have HRr := Lib.hid hr
    clear hr
    unfold aggD at HDG ⊢
    go_upto_region 5 with fail
    have hb2n : Below w2.heap.size w2 (w2.alloc (.cells #[.int .i64 r.kind, .string r.type, .int .u64 r.bits, .int .u64 r.imag, .string r.text, .slice g5 r.names.length g5', .slice g6 r.parts.length g6', .int .i64 r.hook] 26)) := Below.new _
    have HBg := Lib.hid (Blk.of (heap_alloc_new w2 (.cells #[.int .i64 r.kind, .string r.type, .int .u64 r.bits, .int .u64 r.imag, .string r.text, .slice g5 r.names.length g5', .slice g6 r.parts.length g6', .int .i64 r.hook] 26)))
    have HB2n := Lib.hid hb2n
    have HBW2 := Lib.hid ((HBW.out.next HB2.out).next hb2n)
    have HDG2 := Lib.hid (HDG.out.later hb2n)
    have HVX2 := Lib.hid (((HVX.out.later HB1n.out).later HB2.out).later hb2n)
    generalize w2.alloc (.cells #[.int .i64 r.kind, .string r.type, .int .u64 r.bits, .int .u64 r.imag, .string r.text, .slice g5 r.names.length g5', .slice g6 r.parts.length g6', .int .i64 r.hook] 26) = W2 at HBg HB2n hb2n HBW2 HDG2 HVX2 ⊢
    clear hb2n
    have K0 : W2.cell? ⟨w2.heap.size, 0, none⟩ = some (.int .i64 r.kind) ∧ W2.cell? ⟨w2.heap.size, 1, none⟩ = some (.string r.type) ∧ W2.cell? ⟨w2.heap.size, 2, none⟩ = some (.int .u64 r.bits) ∧ W2.cell? ⟨w2.heap.size, 3, none⟩ = some (.int .u64 r.imag) ∧ W2.cell? ⟨w2.heap.size, 4, none⟩ = some (.string r.text) ∧ W2.cell? ⟨w2.heap.size, 5, none⟩ = some (.slice g5 r.names.length g5') ∧ W2.cell? ⟨w2.heap.size, 6, none⟩ = some (.slice g6 r.parts.length g6') ∧ W2.cell? ⟨w2.heap.size, 7, none⟩ = some (.int .i64 r.hook) := ⟨HBg.out.c0, HBg.out.c1, HBg.out.c2, HBg.out.c3, HBg.out.c4, HBg.out.c5, HBg.out.c6, HBg.out.c7⟩
    obtain ⟨z0, z1, z2, z3, z4, z5, z6, z7⟩ := K0
    go_wp2_with fail
    refine (build_any HDG2.out).mono ?_
    rintro e w3 ⟨hB3, _, hgood⟩
    obtain ⟨t', y', x', hx', rfl, hvf⟩ := hgood HAg.out.1
    obtain rfl : x = x' := by
      have := HAg.out.2
      rw [hx'] at this
      injection this with this
      exact this.symm
    have HV3 := Lib.hid hvf.isV
    have HVX3 := Lib.hid (HVX2.out.later hB3)
    have HDG3 := Lib.hid (HDG2.out.later hB3)
    have z0 := cell_below hB3 z0
    have z1 := cell_below hB3 z1
    have z2 := cell_below hB3 z2
    have z3 := cell_below hB3 z3
    have z4 := cell_below hB3 z4
    have z5 := cell_below hB3 z5
    have z6 := cell_below hB3 z6
    have z7 := cell_below hB3 z7
    have HBW3 := Lib.hid (HBW2.out.next hB3)
    clear hgood hx' hvf hB3
    go_upto_region 6 with fail
    have HC17 : Hid (∀ W, Below w3.heap.size w3 W → Calls Try.prog 17 #[.iface t' y'] W (RawAt W r)) := by
      intro W hW
      rw [← HRr.out]
      exact Raw_at HFx.out.2 (HV3.out.later hW)
    have HC16 : Hid (∀ (W : World) (va : Value), Below w3.heap.size w3 W → IsD W va r → Calls Try.prog 16 #[va, .agg #[.int .i64 r.kind, .string r.type, .int .u64 r.bits, .int .u64 r.imag, .string r.text, .slice g5 r.names.length g5', .slice g6 r.parts.length g6', .int .i64 r.hook]] W fun e w' => e = .returned (.bool true) ∧ Below W.heap.size W w') := by
      intro W va hW hva
      refine (same_any r r W va _ hva (HDG3.out.later hW)).mono fun e w' h => ?_
      rw [← sameD_true (d := r) rfl]
      exact h
    have HC25 : Hid (∀ W, Below w3.heap.size w3 W → Calls Try.prog 25 #[.iface t' y'] W fun e w' => e = .returned (.string (typeV x)) ∧ Below W.heap.size W w') :=
      fun W hW => Type_any (HV3.out.later hW) HKd.out
    have HC25' : Hid (∀ W, Below w3.heap.size w3 W → Calls Try.prog 25 #[v] W fun e w' => e = .returned (.string (typeV x)) ∧ Below W.heap.size W w') :=
      fun W hW => Type_any (HVX3.out.later hW) HKd.out
    have HC26 : Hid (∀ W, Below w3.heap.size w3 W → Calls Try.prog 26 #[.iface t' y'] W fun e w' => e = .returned (.int .i64 (sizeV x : Int)) ∧ Below W.heap.size W w') :=
      fun W hW => size_any x HSz.out W _ (HV3.out.later hW)
    have HC26' : Hid (∀ W, Below w3.heap.size w3 W → Calls Try.prog 26 #[v] W fun e w' => e = .returned (.int .i64 (sizeV x : Int)) ∧ Below W.heap.size W w') :=
      fun W hW => size_any x HSz.out W _ (HVX3.out.later hW)
    have HC13 : Hid (∀ W, Calls Try.prog 13 #[] W fun e w' => e = .returned (.bool true) ∧ Below W.heap.size W w') := fun W => lives_any W
    have HBW : Below w3.heap.size w3 w3.drew := (Below.refl _ _).drew
    obtain ⟨ts, hts⟩ : ∃ s, typeV x = s := ⟨_, rfl⟩
    obtain ⟨sz, hsz⟩ : ∃ s, (sizeV x : Int) = s := ⟨_, rfl⟩
    rw [hts] at HC25 HC25'
    rw [hsz] at HC26 HC26'
    clear hts hsz
    have hss : (sz == sz) = true := by simp
    refine late_begin [] (fun _ => True) (fun w' => w'.cell? ⟨w2.heap.size, 0, none⟩ = some (.int .i64 r.kind) ∧ w'.cell? ⟨w2.heap.size, 1, none⟩ = some (.string r.type) ∧ w'.cell? ⟨w2.heap.size, 2, none⟩ = some (.int .u64 r.bits) ∧ w'.cell? ⟨w2.heap.size, 3, none⟩ = some (.int .u64 r.imag) ∧ w'.cell? ⟨w2.heap.size, 4, none⟩ = some (.string r.text) ∧ w'.cell? ⟨w2.heap.size, 5, none⟩ = some (.slice g5 r.names.length g5') ∧ w'.cell? ⟨w2.heap.size, 6, none⟩ = some (.slice g6 r.parts.length g6') ∧ w'.cell? ⟨w2.heap.size, 7, none⟩ = some (.int .i64 r.hook)) (by kernel_rfl) ?_
    refine late_take (i := 0) (.int .i64 0) false rfl (by kernel_rfl) (by kernel_rfl) (by kernel_rfl) (by kernel_rfl) (fun h => by cases h) (fun _ _ _ h => h) (by rfl) (fun W hS hT => ?_) (fun _ => trivial) ⟨z0, z1, z2, z3, z4, z5, z6, z7⟩ (fun h => by cases h) ?_
    · first | (go_simp; done) | (go_simp; with_reducible rfl) | rfl
    simp only [Act.put, List.getElem_toArray, List.getElem_cons_zero, List.getElem_cons_succ, List.setIfInBounds_toArray, List.set_cons_zero, List.set_cons_succ]
    refine late_take (i := 1) (.bool true) false rfl (by kernel_rfl) (by kernel_rfl) (by kernel_rfl) (by kernel_rfl) (fun h => by cases h) (fun _ _ _ h => h) (by rfl) (fun W hS hT => ?_) (fun _ => trivial) ⟨z0, z1, z2, z3, z4, z5, z6, z7⟩ (fun h => by cases h) ?_
    · first | (go_simp; done) | (go_simp; with_reducible rfl) | rfl
    simp only [Act.put, List.getElem_toArray, List.getElem_cons_zero, List.getElem_cons_succ, List.setIfInBounds_toArray, List.set_cons_zero, List.set_cons_succ]
    refine late_take (i := 2) (.bool true) false rfl (by kernel_rfl) (by kernel_rfl) (by kernel_rfl) (by kernel_rfl) (fun h => by cases h) (fun _ _ _ h => h) (by rfl) (fun W hS hT => ?_) (fun _ => trivial) ⟨z0, z1, z2, z3, z4, z5, z6, z7⟩ (fun h => by cases h) ?_
    · first | (go_simp; done) | (go_simp; with_reducible rfl) | rfl
    simp only [Act.put, List.getElem_toArray, List.getElem_cons_zero, List.getElem_cons_succ, List.setIfInBounds_toArray, List.set_cons_zero, List.set_cons_succ]
    refine late_take (i := 3) (.iface t' y') false rfl (by kernel_rfl) (by kernel_rfl) (by kernel_rfl) (by kernel_rfl) (fun h => by cases h) (fun _ _ _ h => h) (by rfl) (fun W hS hT => ?_) (fun _ => trivial) ⟨z0, z1, z2, z3, z4, z5, z6, z7⟩ (fun h => by cases h) ?_
    · first | (go_simp; done) | (go_simp; with_reducible rfl) | rfl
    simp only [Act.put, List.getElem_toArray, List.getElem_cons_zero, List.getElem_cons_succ, List.setIfInBounds_toArray, List.set_cons_zero, List.set_cons_succ]
    refine late_take (i := 5) (.agg #[.int .i64 r.kind, .string r.type, .int .u64 r.bits, .int .u64 r.imag, .string r.text, .slice g5 r.names.length g5', .slice g6 r.parts.length g6', .int .i64 r.hook]) false rfl (by kernel_rfl) (by kernel_rfl) (by kernel_rfl) (by kernel_rfl) (fun h => by cases h) (fun _ _ _ h => h) (by rfl) (fun W hS hT => ?_) (fun _ => trivial) ⟨z0, z1, z2, z3, z4, z5, z6, z7⟩ (fun h => by cases h) ?_
    · (obtain ⟨x0, x1, x2, x3, x4, x5, x6, x7⟩ := hT; first | (go_simp; done) | (go_simp; with_reducible rfl))
    simp only [Act.put, List.getElem_toArray, List.getElem_cons_zero, List.getElem_cons_succ, List.setIfInBounds_toArray, List.set_cons_zero, List.set_cons_succ]
    refine late_one 4 rfl (by kernel_rfl) (fun K hK => ?_)
    try simp only [List.getElem_toArray, List.getElem_cons_zero, List.getElem_cons_succ]
    rw [if_pos (by rfl)]
    go_simp
    refine (HC17.out _ HBW).mono ?_
    rintro e wa ⟨hbN, f5, f5', f6, f6', rfl, hdf⟩
    (try go_simp)
    have z0 := cell_below hbN z0
    have z1 := cell_below hbN z1
    have z2 := cell_below hbN z2
    have z3 := cell_below hbN z3
    have z4 := cell_below hbN z4
    have z5 := cell_below hbN z5
    have z6 := cell_below hbN z6
    have z7 := cell_below hbN z7
    have HBW := HBW.next hbN
    have HDR := Lib.hid hdf.isD
    clear hdf
    refine hK _ _ (fun _ => trivial) ⟨z0, z1, z2, z3, z4, z5, z6, z7⟩ ?_
    clear hK K hbN
    try simp only [Act.put, List.getElem_toArray, List.getElem_cons_zero, List.getElem_cons_succ, List.setIfInBounds_toArray, List.set_cons_zero, List.set_cons_succ]
    refine late_one 6 rfl (by kernel_rfl) (fun K hK => ?_)
    try simp only [List.getElem_toArray, List.getElem_cons_zero, List.getElem_cons_succ]
    rw [if_pos (by rfl)]
    go_simp
    refine (HC16.out _ _ HBW HDR.out).mono ?_
    rintro e wb ⟨rfl, hbN⟩
    (try go_simp)
    have z0 := cell_below hbN z0
    have z1 := cell_below hbN z1
    have z2 := cell_below hbN z2
    have z3 := cell_below hbN z3
    have z4 := cell_below hbN z4
    have z5 := cell_below hbN z5
    have z6 := cell_below hbN z6
    have z7 := cell_below hbN z7
    have HBW := HBW.next hbN
    refine hK _ _ (fun _ => trivial) ⟨z0, z1, z2, z3, z4, z5, z6, z7⟩ ?_
    clear hK K hbN
    try simp only [Act.put, List.getElem_toArray, List.getElem_cons_zero, List.getElem_cons_succ, List.setIfInBounds_toArray, List.set_cons_zero, List.set_cons_succ]
    refine late_take (i := 7) (.bool true) false rfl (by kernel_rfl) (by kernel_rfl) (by kernel_rfl) (by kernel_rfl) (fun h => by cases h) (fun _ _ _ h => h) (by rfl) (fun W hS hT => ?_) (fun _ => trivial) ⟨z0, z1, z2, z3, z4, z5, z6, z7⟩ (fun h => by cases h) ?_
    · first | (go_simp; done) | (go_simp; with_reducible rfl) | rfl
    simp only [Act.put, List.getElem_toArray, List.getElem_cons_zero, List.getElem_cons_succ, List.setIfInBounds_toArray, List.set_cons_zero, List.set_cons_succ]
    refine late_take (i := 8) (.bool true) false rfl (by kernel_rfl) (by kernel_rfl) (by kernel_rfl) (by kernel_rfl) (fun h => by cases h) (fun _ _ _ h => h) (by rfl) (fun W hS hT => ?_) (fun _ => trivial) ⟨z0, z1, z2, z3, z4, z5, z6, z7⟩ (fun h => by cases h) ?_
    · first | (go_simp; done) | (go_simp; with_reducible rfl) | rfl
    simp only [Act.put, List.getElem_toArray, List.getElem_cons_zero, List.getElem_cons_succ, List.setIfInBounds_toArray, List.set_cons_zero, List.set_cons_succ]
    refine late_take (i := 9) (.iface t' y') false rfl (by kernel_rfl) (by kernel_rfl) (by kernel_rfl) (by kernel_rfl) (fun h => by cases h) (fun _ _ _ h => h) (by rfl) (fun W hS hT => ?_) (fun _ => trivial) ⟨z0, z1, z2, z3, z4, z5, z6, z7⟩ (fun h => by cases h) ?_
    · first | (go_simp; done) | (go_simp; with_reducible rfl) | rfl
    simp only [Act.put, List.getElem_toArray, List.getElem_cons_zero, List.getElem_cons_succ, List.setIfInBounds_toArray, List.set_cons_zero, List.set_cons_succ]
    refine late_take (i := 11) (v) false rfl (by kernel_rfl) (by kernel_rfl) (by kernel_rfl) (by kernel_rfl) (fun h => by cases h) (fun _ _ _ h => h) (by rfl) (fun W hS hT => ?_) (fun _ => trivial) ⟨z0, z1, z2, z3, z4, z5, z6, z7⟩ (fun h => by cases h) ?_
    · first | (go_simp; done) | (go_simp; with_reducible rfl) | rfl
    simp only [Act.put, List.getElem_toArray, List.getElem_cons_zero, List.getElem_cons_succ, List.setIfInBounds_toArray, List.set_cons_zero, List.set_cons_succ]
    refine late_one 10 rfl (by kernel_rfl) (fun K hK => ?_)
    try simp only [List.getElem_toArray, List.getElem_cons_zero, List.getElem_cons_succ]
    rw [if_pos (by rfl)]
    go_simp
    refine (HC25.out _ HBW).mono ?_
    rintro e wc ⟨rfl, hbN⟩
    (try go_simp)
    have z0 := cell_below hbN z0
    have z1 := cell_below hbN z1
    have z2 := cell_below hbN z2
    have z3 := cell_below hbN z3
    have z4 := cell_below hbN z4
    have z5 := cell_below hbN z5
    have z6 := cell_below hbN z6
    have z7 := cell_below hbN z7
    have HBW := HBW.next hbN
    refine hK _ _ (fun _ => trivial) ⟨z0, z1, z2, z3, z4, z5, z6, z7⟩ ?_
    clear hK K hbN
    try simp only [Act.put, List.getElem_toArray, List.getElem_cons_zero, List.getElem_cons_succ, List.setIfInBounds_toArray, List.set_cons_zero, List.set_cons_succ]
    refine late_one 12 rfl (by kernel_rfl) (fun K hK => ?_)
    try simp only [List.getElem_toArray, List.getElem_cons_zero, List.getElem_cons_succ]
    rw [if_pos (by rfl)]
    go_simp
    refine (HC25'.out _ HBW).mono ?_
    rintro e wd ⟨rfl, hbN⟩
    (try go_simp)
    have z0 := cell_below hbN z0
    have z1 := cell_below hbN z1
    have z2 := cell_below hbN z2
    have z3 := cell_below hbN z3
    have z4 := cell_below hbN z4
    have z5 := cell_below hbN z5
    have z6 := cell_below hbN z6
    have z7 := cell_below hbN z7
    have HBW := HBW.next hbN
    refine hK _ _ (fun _ => trivial) ⟨z0, z1, z2, z3, z4, z5, z6, z7⟩ ?_
    clear hK K hbN
    try simp only [Act.put, List.getElem_toArray, List.getElem_cons_zero, List.getElem_cons_succ, List.setIfInBounds_toArray, List.set_cons_zero, List.set_cons_succ]
    refine late_take (i := 13) (.bool true) false rfl (by kernel_rfl) (by kernel_rfl) (by kernel_rfl) (by kernel_rfl) (fun h => by cases h) (fun _ _ _ h => h) (by rfl) (fun W hS hT => ?_) (fun _ => trivial) ⟨z0, z1, z2, z3, z4, z5, z6, z7⟩ (fun h => by cases h) ?_
    · first | (go_simp; done) | (go_simp; with_reducible rfl) | rfl
    simp only [Act.put, List.getElem_toArray, List.getElem_cons_zero, List.getElem_cons_succ, List.setIfInBounds_toArray, List.set_cons_zero, List.set_cons_succ]
    refine late_take (i := 14) (.bool true) false rfl (by kernel_rfl) (by kernel_rfl) (by kernel_rfl) (by kernel_rfl) (fun h => by cases h) (fun _ _ _ h => h) (by rfl) (fun W hS hT => ?_) (fun _ => trivial) ⟨z0, z1, z2, z3, z4, z5, z6, z7⟩ (fun h => by cases h) ?_
    · first | (go_simp; done) | (go_simp; with_reducible rfl) | rfl
    simp only [Act.put, List.getElem_toArray, List.getElem_cons_zero, List.getElem_cons_succ, List.setIfInBounds_toArray, List.set_cons_zero, List.set_cons_succ]
    refine late_take (i := 15) (.bool true) false rfl (by kernel_rfl) (by kernel_rfl) (by kernel_rfl) (by kernel_rfl) (fun h => by cases h) (fun _ _ _ h => h) (by rfl) (fun W hS hT => ?_) (fun _ => trivial) ⟨z0, z1, z2, z3, z4, z5, z6, z7⟩ (fun h => by cases h) ?_
    · first | (go_simp; done) | (go_simp; with_reducible rfl) | rfl
    simp only [Act.put, List.getElem_toArray, List.getElem_cons_zero, List.getElem_cons_succ, List.setIfInBounds_toArray, List.set_cons_zero, List.set_cons_succ]
    refine late_take (i := 16) (.iface t' y') false rfl (by kernel_rfl) (by kernel_rfl) (by kernel_rfl) (by kernel_rfl) (fun h => by cases h) (fun _ _ _ h => h) (by rfl) (fun W hS hT => ?_) (fun _ => trivial) ⟨z0, z1, z2, z3, z4, z5, z6, z7⟩ (fun h => by cases h) ?_
    · first | (go_simp; done) | (go_simp; with_reducible rfl) | rfl
    simp only [Act.put, List.getElem_toArray, List.getElem_cons_zero, List.getElem_cons_succ, List.setIfInBounds_toArray, List.set_cons_zero, List.set_cons_succ]
    refine late_take (i := 18) (v) false rfl (by kernel_rfl) (by kernel_rfl) (by kernel_rfl) (by kernel_rfl) (fun h => by cases h) (fun _ _ _ h => h) (by rfl) (fun W hS hT => ?_) (fun _ => trivial) ⟨z0, z1, z2, z3, z4, z5, z6, z7⟩ (fun h => by cases h) ?_
    · first | (go_simp; done) | (go_simp; with_reducible rfl) | rfl
    simp only [Act.put, List.getElem_toArray, List.getElem_cons_zero, List.getElem_cons_succ, List.setIfInBounds_toArray, List.set_cons_zero, List.set_cons_succ]
    refine late_one 17 rfl (by kernel_rfl) (fun K hK => ?_)
    try simp only [List.getElem_toArray, List.getElem_cons_zero, List.getElem_cons_succ]
    rw [if_pos (by rfl)]
    go_simp
    refine (HC26.out _ HBW).mono ?_
    rintro e we ⟨rfl, hbN⟩
    (try go_simp)
    have z0 := cell_below hbN z0
    have z1 := cell_below hbN z1
    have z2 := cell_below hbN z2
    have z3 := cell_below hbN z3
    have z4 := cell_below hbN z4
    have z5 := cell_below hbN z5
    have z6 := cell_below hbN z6
    have z7 := cell_below hbN z7
    have HBW := HBW.next hbN
    refine hK _ _ (fun _ => trivial) ⟨z0, z1, z2, z3, z4, z5, z6, z7⟩ ?_
    clear hK K hbN
    try simp only [Act.put, List.getElem_toArray, List.getElem_cons_zero, List.getElem_cons_succ, List.setIfInBounds_toArray, List.set_cons_zero, List.set_cons_succ]
    refine late_one 19 rfl (by kernel_rfl) (fun K hK => ?_)
    try simp only [List.getElem_toArray, List.getElem_cons_zero, List.getElem_cons_succ]
    rw [if_pos (by rfl)]
    go_simp
    refine (HC26'.out _ HBW).mono ?_
    rintro e wf ⟨rfl, hbN⟩
    (try go_simp)
    have z0 := cell_below hbN z0
    have z1 := cell_below hbN z1
    have z2 := cell_below hbN z2
    have z3 := cell_below hbN z3
    have z4 := cell_below hbN z4
    have z5 := cell_below hbN z5
    have z6 := cell_below hbN z6
    have z7 := cell_below hbN z7
    have HBW := HBW.next hbN
    refine hK _ _ (fun _ => trivial) ⟨z0, z1, z2, z3, z4, z5, z6, z7⟩ ?_
    clear hK K hbN
    try simp only [Act.put, List.getElem_toArray, List.getElem_cons_zero, List.getElem_cons_succ, List.setIfInBounds_toArray, List.set_cons_zero, List.set_cons_succ]
    refine late_take (i := 20) (.bool true) false rfl (by kernel_rfl) (by kernel_rfl) (by kernel_rfl) (by kernel_rfl) (fun h => by cases h) (fun _ _ _ h => h) (by rfl) (fun W hS hT => ?_) (fun _ => trivial) ⟨z0, z1, z2, z3, z4, z5, z6, z7⟩ (fun h => by cases h) ?_
    · first | (go_simp; done) | (go_simp; with_reducible rfl) | rfl
    simp only [Act.put, List.getElem_toArray, List.getElem_cons_zero, List.getElem_cons_succ, List.setIfInBounds_toArray, List.set_cons_zero, List.set_cons_succ]
    refine late_take (i := 21) (.bool true) false rfl (by kernel_rfl) (by kernel_rfl) (by kernel_rfl) (by kernel_rfl) (fun h => by cases h) (fun _ _ _ h => h) (by rfl) (fun W hS hT => ?_) (fun _ => trivial) ⟨z0, z1, z2, z3, z4, z5, z6, z7⟩ (fun h => by cases h) ?_
    · first | (go_simp; done) | (go_simp; with_reducible rfl) | rfl
    simp only [Act.put, List.getElem_toArray, List.getElem_cons_zero, List.getElem_cons_succ, List.setIfInBounds_toArray, List.set_cons_zero, List.set_cons_succ]
    refine late_take (i := 22) (.bool true) false rfl (by kernel_rfl) (by kernel_rfl) (by kernel_rfl) (by kernel_rfl) (fun h => by cases h) (fun _ _ _ h => h) (by rfl) (fun W hS hT => ?_) (fun _ => trivial) ⟨z0, z1, z2, z3, z4, z5, z6, z7⟩ (fun h => by cases h) ?_
    · first | (go_simp; done) | (go_simp; with_reducible rfl) | rfl
    simp only [Act.put, List.getElem_toArray, List.getElem_cons_zero, List.getElem_cons_succ, List.setIfInBounds_toArray, List.set_cons_zero, List.set_cons_succ]
    refine late_one 23 rfl (by kernel_rfl) (fun K hK => ?_)
    try simp only [List.getElem_toArray, List.getElem_cons_zero, List.getElem_cons_succ]
    rw [if_pos (by rfl)]
    go_simp
    refine (HC13.out _).mono ?_
    rintro e wg ⟨rfl, hbN⟩
    (try go_simp)
    have z0 := cell_below hbN z0
    have z1 := cell_below hbN z1
    have z2 := cell_below hbN z2
    have z3 := cell_below hbN z3
    have z4 := cell_below hbN z4
    have z5 := cell_below hbN z5
    have z6 := cell_below hbN z6
    have z7 := cell_below hbN z7
    have HBW := HBW.next hbN
    refine hK _ _ (fun _ => trivial) ⟨z0, z1, z2, z3, z4, z5, z6, z7⟩ ?_
    clear hK K hbN
    try simp only [Act.put, List.getElem_toArray, List.getElem_cons_zero, List.getElem_cons_succ, List.setIfInBounds_toArray, List.set_cons_zero, List.set_cons_succ]
    refine late_take (i := 24) (.bool true) false rfl (by kernel_rfl) (by kernel_rfl) (by kernel_rfl) (by kernel_rfl) (fun h => by cases h) (fun _ _ _ h => h) (by rfl) (fun W hS hT => ?_) (fun _ => trivial) ⟨z0, z1, z2, z3, z4, z5, z6, z7⟩ (fun h => by cases h) ?_
    · first | (go_simp; done) | (go_simp; with_reducible rfl) | rfl
    simp only [Act.put, List.getElem_toArray, List.getElem_cons_zero, List.getElem_cons_succ, List.setIfInBounds_toArray, List.set_cons_zero, List.set_cons_succ]
    refine late_take (i := 25) (.bool true) false rfl (by kernel_rfl) (by kernel_rfl) (by kernel_rfl) (by kernel_rfl) (fun h => by cases h) (fun _ _ _ h => h) (by rfl) (fun W hS hT => ?_) (fun _ => trivial) ⟨z0, z1, z2, z3, z4, z5, z6, z7⟩ (fun h => by cases h) ?_
    · first | (go_simp; done) | (go_simp; with_reducible rfl) | rfl
    simp only [Act.put, List.getElem_toArray, List.getElem_cons_zero, List.getElem_cons_succ, List.setIfInBounds_toArray, List.set_cons_zero, List.set_cons_succ]
    refine late_done (by kernel_rfl) ?_ _
    have HBF := Lib.hid (HBW3.out.next HBW)
    go_wp2_with fail
    go_ret
    exact ⟨rfl, HBF.out⟩
end Go.Proofs.Ythpgnhmikffcpaa
