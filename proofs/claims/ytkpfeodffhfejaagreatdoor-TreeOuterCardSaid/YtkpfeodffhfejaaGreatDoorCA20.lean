/- Build: any descriptor is built, or refused. Condition: the argument is a descriptor. -/
import Derived.Test.YtkpfeodffhfejaaGreatDoorCA19
namespace Go.Proofs.YtkpfeodffhfejaaGreatDoor
set_option linter.unusedVariables false
set_option maxRecDepth 1000000
set_option linter.unusedSimpArgs false
open Go.RowKit
theorem cell_at_new (w : World) (v : Value) (t : TypeId) (n : Nat) (h : w.heap.size = n) : (w.alloc (.cells #[v] t)).cell? ⟨n, 0, none⟩ = some v := by subst h; simp
theorem froz_at_new (w : World) (v : Value) (t : TypeId) (n : Nat) (h : w.heap.size = n) : (w.alloc (.cells #[v] t)).frozen? ⟨n, 0, none⟩ = false := by subst h; simp
theorem froz_later {w w' : World} (hb : Below w.heap.size w w') {k : Nat} (hk : k < w.heap.size) (h : w.frozen? ⟨k, 0, none⟩ = false) : w'.frozen? ⟨k, 0, none⟩ = false := by rw [hb.frozen (p := ⟨k, 0, none⟩) hk]; exact h

set_option maxHeartbeats 4000000 in
theorem build_small (d : D) (w : World) (v : Value) (h : IsD w v d) (he : errD d = 2) (hc : (countD d 64).1 < 0) : Calls Tryz.prog 18 #[v] w (BuildPost w d) := by
  have HD := Lib.hid h
  obtain ⟨a5, c5, a6, c6, rfl, hk, hb, hi, ht, hx, hn, hp⟩ := h.open
  clear hp hn hb hi hk ht hx h
  unfold aggD at HD ⊢
  have hmf : ∀ (fn : Fn) (first cap : Array Value) (w : World), (Instr.makeFunc fn first cap).run Tryz.prog w = .ok (.func fn first cap) w := fun _ _ _ _ => rfl
  obtain ⟨L, hL⟩ : ∃ L, L = (countD d 64).1 := ⟨_, rfl⟩
  obtain ⟨T, hT⟩ : ∃ T, T = (countD d 64).2 := ⟨_, rfl⟩
  obtain ⟨Q, hQ⟩ : ∃ Q, Q = depthD d := ⟨_, rfl⟩
  have HL := Lib.hid hL
  have HT := Lib.hid hT
  have HQ := Lib.hid hQ
  have hc1 : L < 0 := by rw [hL]; exact hc
  have HE := Lib.hid he
  clear hc he
  clear hL hT hQ
  go_enter_defers Tryz.func18, Tryz.ntmps18
  go_wp2_with fail
  obtain ⟨W0, hW0⟩ : ∃ W0, W0 = ((w.alloc (.cells #[.int .i64 d.kind, .string d.type, .int .u64 d.bits, .int .u64 d.imag, .string d.text, .slice a5 d.names.length c5, .slice a6 d.parts.length c6, .int .i64 d.hook] 26)).alloc (.cells #[.nilIface] 28)).alloc (.cells #[.int .i64 0] 42) := ⟨_, rfl⟩
  rw [← hW0]
  have b0 : Below w.heap.size w W0 := by rw [hW0]; exact ((Below.new _).push _).push _
  have x0 : W0.cell? ⟨w.heap.size, 0, none⟩ = some (.int .i64 d.kind) := by rw [hW0]; exact cell_below (Below.new _) (cell_below (Below.new _) (by simp))
  have x1 : W0.cell? ⟨w.heap.size, 1, none⟩ = some (.string d.type) := by rw [hW0]; exact cell_below (Below.new _) (cell_below (Below.new _) (by simp))
  have x2 : W0.cell? ⟨w.heap.size, 2, none⟩ = some (.int .u64 d.bits) := by rw [hW0]; exact cell_below (Below.new _) (cell_below (Below.new _) (by simp))
  have x3 : W0.cell? ⟨w.heap.size, 3, none⟩ = some (.int .u64 d.imag) := by rw [hW0]; exact cell_below (Below.new _) (cell_below (Below.new _) (by simp))
  have x4 : W0.cell? ⟨w.heap.size, 4, none⟩ = some (.string d.text) := by rw [hW0]; exact cell_below (Below.new _) (cell_below (Below.new _) (by simp))
  have x5 : W0.cell? ⟨w.heap.size, 5, none⟩ = some (.slice a5 d.names.length c5) := by rw [hW0]; exact cell_below (Below.new _) (cell_below (Below.new _) (by simp))
  have x6 : W0.cell? ⟨w.heap.size, 6, none⟩ = some (.slice a6 d.parts.length c6) := by rw [hW0]; exact cell_below (Below.new _) (cell_below (Below.new _) (by simp))
  have x7 : W0.cell? ⟨w.heap.size, 7, none⟩ = some (.int .i64 d.hook) := by rw [hW0]; exact cell_below (Below.new _) (cell_below (Below.new _) (by simp))
  have xp : W0.cell? ⟨w.heap.size + 1, 0, none⟩ = some .nilIface := by rw [hW0]; exact cell_below (Below.new _) (by simp)
  have hz2 : ((w.alloc (.cells #[.int .i64 d.kind, .string d.type, .int .u64 d.bits, .int .u64 d.imag, .string d.text, .slice a5 d.names.length c5, .slice a6 d.parts.length c6, .int .i64 d.hook] 26)).alloc (.cells #[.nilIface] 28)).heap.size = w.heap.size + 2 := by simp
  have xq : W0.cell? ⟨w.heap.size + 2, 0, none⟩ = some (.int .i64 0) := by rw [hW0]; exact cell_at_new _ _ _ _ hz2
  have hz1 : (w.alloc (.cells #[.int .i64 d.kind, .string d.type, .int .u64 d.bits, .int .u64 d.imag, .string d.text, .slice a5 d.names.length c5, .slice a6 d.parts.length c6, .int .i64 d.hook] 26)).heap.size = w.heap.size + 1 := by simp
  have zp : W0.frozen? ⟨w.heap.size + 1, 0, none⟩ = false := by rw [hW0]; exact froz_later (Below.new _) (by simp) (froz_at_new _ _ _ _ hz1)
  have zq : W0.frozen? ⟨w.heap.size + 2, 0, none⟩ = false := by rw [hW0]; exact froz_at_new _ _ _ _ hz2
  have hs0 : w.heap.size + 2 < W0.heap.size := by rw [hW0]; simp
  have HB0 := Lib.hid b0
  clear hW0 b0 hz1 hz2
  refine (countd_any d _ _ 64 (HD.out.later HB0.out) (by omega) (by omega)).mono ?_
  rintro e W1 ⟨rfl, hb1⟩
  rw [← HL.out, ← HT.out]
  have HB1 := Lib.hid (HB0.out.next hb1)
  have hs1 : w.heap.size + 2 < W1.heap.size := by have := hb1.size; omega
  have hfz : ∀ k, W1.frozen? ⟨w.heap.size + k, 0, none⟩ = W0.frozen? ⟨w.heap.size + k, 0, none⟩ ∨ ¬ w.heap.size + k < W0.heap.size := fun k => by
    by_cases hk : w.heap.size + k < W0.heap.size
    · exact .inl (hb1.frozen (p := ⟨w.heap.size + k, 0, none⟩) hk)
    · exact .inr hk
  replace zp : W1.frozen? ⟨w.heap.size + 1, 0, none⟩ = false := by exact (hfz 1).resolve_right (by omega) ▸ zp
  replace zq : W1.frozen? ⟨w.heap.size + 2, 0, none⟩ = false := by exact (hfz 2).resolve_right (by omega) ▸ zq
  replace x0 := cell_below hb1 x0
  replace x1 := cell_below hb1 x1
  replace x2 := cell_below hb1 x2
  replace x3 := cell_below hb1 x3
  replace x4 := cell_below hb1 x4
  replace x5 := cell_below hb1 x5
  replace x6 := cell_below hb1 x6
  replace x7 := cell_below hb1 x7
  replace xp := cell_below hb1 xp
  replace xq := cell_below hb1 xq
  clear hb1 hfz
  go_wp2_with fail
  refine (must_bad 2 _).mono ?_
  rintro e W ⟨rfl, rfl⟩
  go_wp2_with fail
  refine leaves_cons (f := 28) (args := #[.pointer (some ⟨w.heap.size + 1, 0, none⟩), .pointer (some ⟨w.heap.size + 2, 0, none⟩)]) (by simp) (by simp [go_sem]) ?_
  refine (catch_panicking (w.heap.size + 1) (w.heap.size + 2) w.heap.size _ _ 2 [] _ xp xq zp zq (by omega) (by omega) (by omega)).mono ?_
  rintro e u' w'' ⟨rfl, rfl, hbz, hcp, hcq⟩
  have HBZ := Lib.hid (HB1.out.trans hbz)
  clear hbz
  simp [Leaves, settle, results, Tryz.f18, go_sem, hcp, hcq]
  exact ⟨HBZ.out, fun _ => by rw [HE.out], fun h => by rw [HE.out] at h; omega⟩


set_option maxHeartbeats 4000000 in
theorem build_text (d : D) (w : World) (v : Value) (h : IsD w v d) (he : errD d = 2) (hc : 0 ≤ (countD d 64).1) (hc2 : 1024 < (countD d 64).2) : Calls Tryz.prog 18 #[v] w (BuildPost w d) := by
  have HD := Lib.hid h
  obtain ⟨a5, c5, a6, c6, rfl, hk, hb, hi, ht, hx, hn, hp⟩ := h.open
  clear hp hn hb hi hk ht hx h
  unfold aggD at HD ⊢
  have hmf : ∀ (fn : Fn) (first cap : Array Value) (w : World), (Instr.makeFunc fn first cap).run Tryz.prog w = .ok (.func fn first cap) w := fun _ _ _ _ => rfl
  obtain ⟨L, hL⟩ : ∃ L, L = (countD d 64).1 := ⟨_, rfl⟩
  obtain ⟨T, hT⟩ : ∃ T, T = (countD d 64).2 := ⟨_, rfl⟩
  obtain ⟨Q, hQ⟩ : ∃ Q, Q = depthD d := ⟨_, rfl⟩
  have HL := Lib.hid hL
  have HT := Lib.hid hT
  have HQ := Lib.hid hQ
  have hc1 : 0 ≤ L := by rw [hL]; exact hc
  have hct : 1024 < T := by rw [hT]; exact hc2
  have hctd : decide (T ≤ 1024) = false := by simp; omega
  have HE := Lib.hid he
  clear hc hc2 he
  clear hL hT hQ
  go_enter_defers Tryz.func18, Tryz.ntmps18
  go_wp2_with fail
  obtain ⟨W0, hW0⟩ : ∃ W0, W0 = ((w.alloc (.cells #[.int .i64 d.kind, .string d.type, .int .u64 d.bits, .int .u64 d.imag, .string d.text, .slice a5 d.names.length c5, .slice a6 d.parts.length c6, .int .i64 d.hook] 26)).alloc (.cells #[.nilIface] 28)).alloc (.cells #[.int .i64 0] 42) := ⟨_, rfl⟩
  rw [← hW0]
  have b0 : Below w.heap.size w W0 := by rw [hW0]; exact ((Below.new _).push _).push _
  have x0 : W0.cell? ⟨w.heap.size, 0, none⟩ = some (.int .i64 d.kind) := by rw [hW0]; exact cell_below (Below.new _) (cell_below (Below.new _) (by simp))
  have x1 : W0.cell? ⟨w.heap.size, 1, none⟩ = some (.string d.type) := by rw [hW0]; exact cell_below (Below.new _) (cell_below (Below.new _) (by simp))
  have x2 : W0.cell? ⟨w.heap.size, 2, none⟩ = some (.int .u64 d.bits) := by rw [hW0]; exact cell_below (Below.new _) (cell_below (Below.new _) (by simp))
  have x3 : W0.cell? ⟨w.heap.size, 3, none⟩ = some (.int .u64 d.imag) := by rw [hW0]; exact cell_below (Below.new _) (cell_below (Below.new _) (by simp))
  have x4 : W0.cell? ⟨w.heap.size, 4, none⟩ = some (.string d.text) := by rw [hW0]; exact cell_below (Below.new _) (cell_below (Below.new _) (by simp))
  have x5 : W0.cell? ⟨w.heap.size, 5, none⟩ = some (.slice a5 d.names.length c5) := by rw [hW0]; exact cell_below (Below.new _) (cell_below (Below.new _) (by simp))
  have x6 : W0.cell? ⟨w.heap.size, 6, none⟩ = some (.slice a6 d.parts.length c6) := by rw [hW0]; exact cell_below (Below.new _) (cell_below (Below.new _) (by simp))
  have x7 : W0.cell? ⟨w.heap.size, 7, none⟩ = some (.int .i64 d.hook) := by rw [hW0]; exact cell_below (Below.new _) (cell_below (Below.new _) (by simp))
  have xp : W0.cell? ⟨w.heap.size + 1, 0, none⟩ = some .nilIface := by rw [hW0]; exact cell_below (Below.new _) (by simp)
  have hz2 : ((w.alloc (.cells #[.int .i64 d.kind, .string d.type, .int .u64 d.bits, .int .u64 d.imag, .string d.text, .slice a5 d.names.length c5, .slice a6 d.parts.length c6, .int .i64 d.hook] 26)).alloc (.cells #[.nilIface] 28)).heap.size = w.heap.size + 2 := by simp
  have xq : W0.cell? ⟨w.heap.size + 2, 0, none⟩ = some (.int .i64 0) := by rw [hW0]; exact cell_at_new _ _ _ _ hz2
  have hz1 : (w.alloc (.cells #[.int .i64 d.kind, .string d.type, .int .u64 d.bits, .int .u64 d.imag, .string d.text, .slice a5 d.names.length c5, .slice a6 d.parts.length c6, .int .i64 d.hook] 26)).heap.size = w.heap.size + 1 := by simp
  have zp : W0.frozen? ⟨w.heap.size + 1, 0, none⟩ = false := by rw [hW0]; exact froz_later (Below.new _) (by simp) (froz_at_new _ _ _ _ hz1)
  have zq : W0.frozen? ⟨w.heap.size + 2, 0, none⟩ = false := by rw [hW0]; exact froz_at_new _ _ _ _ hz2
  have hs0 : w.heap.size + 2 < W0.heap.size := by rw [hW0]; simp
  have HB0 := Lib.hid b0
  clear hW0 b0 hz1 hz2
  refine (countd_any d _ _ 64 (HD.out.later HB0.out) (by omega) (by omega)).mono ?_
  rintro e W1 ⟨rfl, hb1⟩
  rw [← HL.out, ← HT.out]
  have HB1 := Lib.hid (HB0.out.next hb1)
  have hs1 : w.heap.size + 2 < W1.heap.size := by have := hb1.size; omega
  have hfz : ∀ k, W1.frozen? ⟨w.heap.size + k, 0, none⟩ = W0.frozen? ⟨w.heap.size + k, 0, none⟩ ∨ ¬ w.heap.size + k < W0.heap.size := fun k => by
    by_cases hk : w.heap.size + k < W0.heap.size
    · exact .inl (hb1.frozen (p := ⟨w.heap.size + k, 0, none⟩) hk)
    · exact .inr hk
  replace zp : W1.frozen? ⟨w.heap.size + 1, 0, none⟩ = false := by exact (hfz 1).resolve_right (by omega) ▸ zp
  replace zq : W1.frozen? ⟨w.heap.size + 2, 0, none⟩ = false := by exact (hfz 2).resolve_right (by omega) ▸ zq
  replace x0 := cell_below hb1 x0
  replace x1 := cell_below hb1 x1
  replace x2 := cell_below hb1 x2
  replace x3 := cell_below hb1 x3
  replace x4 := cell_below hb1 x4
  replace x5 := cell_below hb1 x5
  replace x6 := cell_below hb1 x6
  replace x7 := cell_below hb1 x7
  replace xp := cell_below hb1 xp
  replace xq := cell_below hb1 xq
  clear hb1 hfz
  go_wp2_with fail
  refine (must_bad 2 _).mono ?_
  rintro e W ⟨rfl, rfl⟩
  go_wp2_with fail
  refine leaves_cons (f := 28) (args := #[.pointer (some ⟨w.heap.size + 1, 0, none⟩), .pointer (some ⟨w.heap.size + 2, 0, none⟩)]) (by simp) (by simp [go_sem]) ?_
  refine (catch_panicking (w.heap.size + 1) (w.heap.size + 2) w.heap.size _ _ 2 [] _ xp xq zp zq (by omega) (by omega) (by omega)).mono ?_
  rintro e u' w'' ⟨rfl, rfl, hbz, hcp, hcq⟩
  have HBZ := Lib.hid (HB1.out.trans hbz)
  clear hbz
  simp [Leaves, settle, results, Tryz.f18, go_sem, hcp, hcq]
  exact ⟨HBZ.out, fun _ => by rw [HE.out], fun h => by rw [HE.out] at h; omega⟩


set_option maxHeartbeats 4000000 in
theorem build_deep (d : D) (w : World) (v : Value) (h : IsD w v d) (he : errD d = 6) (hc : 0 ≤ (countD d 64).1) (hc2 : (countD d 64).2 ≤ 1024) (hq : 8 < depthD d) (hq2 : depthD d ≤ 1000) : Calls Tryz.prog 18 #[v] w (BuildPost w d) := by
  have HD := Lib.hid h
  obtain ⟨a5, c5, a6, c6, rfl, hk, hb, hi, ht, hx, hn, hp⟩ := h.open
  clear hp hn hb hi hk ht hx h
  unfold aggD at HD ⊢
  have hmf : ∀ (fn : Fn) (first cap : Array Value) (w : World), (Instr.makeFunc fn first cap).run Tryz.prog w = .ok (.func fn first cap) w := fun _ _ _ _ => rfl
  obtain ⟨L, hL⟩ : ∃ L, L = (countD d 64).1 := ⟨_, rfl⟩
  obtain ⟨T, hT⟩ : ∃ T, T = (countD d 64).2 := ⟨_, rfl⟩
  obtain ⟨Q, hQ⟩ : ∃ Q, Q = depthD d := ⟨_, rfl⟩
  have HL := Lib.hid hL
  have HT := Lib.hid hT
  have HQ := Lib.hid hQ
  have hc1 : 0 ≤ L := by rw [hL]; exact hc
  have hct : T ≤ 1024 := by rw [hT]; exact hc2
  have HE := Lib.hid he
  clear hc hc2 he
  have hq1 : (8 : Int) < (Q : Int) := by omega
  have hqd : decide ((Q : Int) ≤ 8) = false := by simp; omega
  have hq2' : Q ≤ 1000 := by omega
  clear hq hq2
  clear hL hT hQ
  go_enter_defers Tryz.func18, Tryz.ntmps18
  go_wp2_with fail
  obtain ⟨W0, hW0⟩ : ∃ W0, W0 = ((w.alloc (.cells #[.int .i64 d.kind, .string d.type, .int .u64 d.bits, .int .u64 d.imag, .string d.text, .slice a5 d.names.length c5, .slice a6 d.parts.length c6, .int .i64 d.hook] 26)).alloc (.cells #[.nilIface] 28)).alloc (.cells #[.int .i64 0] 42) := ⟨_, rfl⟩
  rw [← hW0]
  have b0 : Below w.heap.size w W0 := by rw [hW0]; exact ((Below.new _).push _).push _
  have x0 : W0.cell? ⟨w.heap.size, 0, none⟩ = some (.int .i64 d.kind) := by rw [hW0]; exact cell_below (Below.new _) (cell_below (Below.new _) (by simp))
  have x1 : W0.cell? ⟨w.heap.size, 1, none⟩ = some (.string d.type) := by rw [hW0]; exact cell_below (Below.new _) (cell_below (Below.new _) (by simp))
  have x2 : W0.cell? ⟨w.heap.size, 2, none⟩ = some (.int .u64 d.bits) := by rw [hW0]; exact cell_below (Below.new _) (cell_below (Below.new _) (by simp))
  have x3 : W0.cell? ⟨w.heap.size, 3, none⟩ = some (.int .u64 d.imag) := by rw [hW0]; exact cell_below (Below.new _) (cell_below (Below.new _) (by simp))
  have x4 : W0.cell? ⟨w.heap.size, 4, none⟩ = some (.string d.text) := by rw [hW0]; exact cell_below (Below.new _) (cell_below (Below.new _) (by simp))
  have x5 : W0.cell? ⟨w.heap.size, 5, none⟩ = some (.slice a5 d.names.length c5) := by rw [hW0]; exact cell_below (Below.new _) (cell_below (Below.new _) (by simp))
  have x6 : W0.cell? ⟨w.heap.size, 6, none⟩ = some (.slice a6 d.parts.length c6) := by rw [hW0]; exact cell_below (Below.new _) (cell_below (Below.new _) (by simp))
  have x7 : W0.cell? ⟨w.heap.size, 7, none⟩ = some (.int .i64 d.hook) := by rw [hW0]; exact cell_below (Below.new _) (cell_below (Below.new _) (by simp))
  have xp : W0.cell? ⟨w.heap.size + 1, 0, none⟩ = some .nilIface := by rw [hW0]; exact cell_below (Below.new _) (by simp)
  have hz2 : ((w.alloc (.cells #[.int .i64 d.kind, .string d.type, .int .u64 d.bits, .int .u64 d.imag, .string d.text, .slice a5 d.names.length c5, .slice a6 d.parts.length c6, .int .i64 d.hook] 26)).alloc (.cells #[.nilIface] 28)).heap.size = w.heap.size + 2 := by simp
  have xq : W0.cell? ⟨w.heap.size + 2, 0, none⟩ = some (.int .i64 0) := by rw [hW0]; exact cell_at_new _ _ _ _ hz2
  have hz1 : (w.alloc (.cells #[.int .i64 d.kind, .string d.type, .int .u64 d.bits, .int .u64 d.imag, .string d.text, .slice a5 d.names.length c5, .slice a6 d.parts.length c6, .int .i64 d.hook] 26)).heap.size = w.heap.size + 1 := by simp
  have zp : W0.frozen? ⟨w.heap.size + 1, 0, none⟩ = false := by rw [hW0]; exact froz_later (Below.new _) (by simp) (froz_at_new _ _ _ _ hz1)
  have zq : W0.frozen? ⟨w.heap.size + 2, 0, none⟩ = false := by rw [hW0]; exact froz_at_new _ _ _ _ hz2
  have hs0 : w.heap.size + 2 < W0.heap.size := by rw [hW0]; simp
  have HB0 := Lib.hid b0
  clear hW0 b0 hz1 hz2
  refine (countd_any d _ _ 64 (HD.out.later HB0.out) (by omega) (by omega)).mono ?_
  rintro e W1 ⟨rfl, hb1⟩
  rw [← HL.out, ← HT.out]
  have HB1 := Lib.hid (HB0.out.next hb1)
  have hs1 : w.heap.size + 2 < W1.heap.size := by have := hb1.size; omega
  have hfz : ∀ k, W1.frozen? ⟨w.heap.size + k, 0, none⟩ = W0.frozen? ⟨w.heap.size + k, 0, none⟩ ∨ ¬ w.heap.size + k < W0.heap.size := fun k => by
    by_cases hk : w.heap.size + k < W0.heap.size
    · exact .inl (hb1.frozen (p := ⟨w.heap.size + k, 0, none⟩) hk)
    · exact .inr hk
  replace zp : W1.frozen? ⟨w.heap.size + 1, 0, none⟩ = false := by exact (hfz 1).resolve_right (by omega) ▸ zp
  replace zq : W1.frozen? ⟨w.heap.size + 2, 0, none⟩ = false := by exact (hfz 2).resolve_right (by omega) ▸ zq
  replace x0 := cell_below hb1 x0
  replace x1 := cell_below hb1 x1
  replace x2 := cell_below hb1 x2
  replace x3 := cell_below hb1 x3
  replace x4 := cell_below hb1 x4
  replace x5 := cell_below hb1 x5
  replace x6 := cell_below hb1 x6
  replace x7 := cell_below hb1 x7
  replace xp := cell_below hb1 xp
  replace xq := cell_below hb1 xq
  clear hb1 hfz
  go_wp2_with fail
  refine (must_ok 2 _).mono ?_
  rintro e W ⟨rfl, rfl⟩
  go_wp2_with fail
  refine (depth_any d _ _ (HD.out.later HB1.out) (by rw [← HQ.out]; omega)).mono ?_
  rintro e W2 ⟨rfl, hb2⟩
  rw [← HQ.out]
  have HB2 := Lib.hid (HB1.out.next hb2)
  have hs2 : w.heap.size + 2 < W2.heap.size := by have := hb2.size; omega
  have hfz : ∀ k, W2.frozen? ⟨w.heap.size + k, 0, none⟩ = W1.frozen? ⟨w.heap.size + k, 0, none⟩ ∨ ¬ w.heap.size + k < W1.heap.size := fun k => by
    by_cases hk : w.heap.size + k < W1.heap.size
    · exact .inl (hb2.frozen (p := ⟨w.heap.size + k, 0, none⟩) hk)
    · exact .inr hk
  replace zp : W2.frozen? ⟨w.heap.size + 1, 0, none⟩ = false := by exact (hfz 1).resolve_right (by omega) ▸ zp
  replace zq : W2.frozen? ⟨w.heap.size + 2, 0, none⟩ = false := by exact (hfz 2).resolve_right (by omega) ▸ zq
  replace x0 := cell_below hb2 x0
  replace x1 := cell_below hb2 x1
  replace x2 := cell_below hb2 x2
  replace x3 := cell_below hb2 x3
  replace x4 := cell_below hb2 x4
  replace x5 := cell_below hb2 x5
  replace x6 := cell_below hb2 x6
  replace x7 := cell_below hb2 x7
  replace xp := cell_below hb2 xp
  replace xq := cell_below hb2 xq
  clear hb2 hfz
  go_wp2_with fail
  refine (must_bad 6 _).mono ?_
  rintro e W ⟨rfl, rfl⟩
  go_wp2_with fail
  refine leaves_cons (f := 28) (args := #[.pointer (some ⟨w.heap.size + 1, 0, none⟩), .pointer (some ⟨w.heap.size + 2, 0, none⟩)]) (by simp) (by simp [go_sem]) ?_
  refine (catch_panicking (w.heap.size + 1) (w.heap.size + 2) w.heap.size _ _ 6 [] _ xp xq zp zq (by omega) (by omega) (by omega)).mono ?_
  rintro e u' w'' ⟨rfl, rfl, hbz, hcp, hcq⟩
  have HBZ := Lib.hid (HB2.out.trans hbz)
  clear hbz
  simp [Leaves, settle, results, Tryz.f18, go_sem, hcp, hcq]
  exact ⟨HBZ.out, fun _ => by rw [HE.out], fun h => by rw [HE.out] at h; omega⟩

theorem hcf39 (args : Array Value) (W : World) : Sem.run Tryz.prog (callFunc 33 args) W = .ok (.enter 33 args) W := by kernel_rfl
theorem hcf40 (args : Array Value) (W : World) : Sem.run Tryz.prog (callFunc 34 args) W = .ok (.enter 34 args) W := by kernel_rfl

set_option maxHeartbeats 4000000 in
theorem build_kind (d : D) (w : World) (v : Value) (h : IsD w v d) (he : errD d = 3) (hc : 0 ≤ (countD d 64).1) (hc2 : (countD d 64).2 ≤ 1024) (hq : depthD d ≤ 8) (hkb : allD kindB d = false) : Calls Tryz.prog 18 #[v] w (BuildPost w d) := by
  have HD := Lib.hid h
  obtain ⟨a5, c5, a6, c6, rfl, hk, hb, hi, ht, hx, hn, hp⟩ := h.open
  clear hp hn hb hi hk ht hx h
  unfold aggD at HD ⊢
  have hmf : ∀ (fn : Fn) (first cap : Array Value) (w : World), (Instr.makeFunc fn first cap).run Tryz.prog w = .ok (.func fn first cap) w := fun _ _ _ _ => rfl
  obtain ⟨L, hL⟩ : ∃ L, L = (countD d 64).1 := ⟨_, rfl⟩
  obtain ⟨T, hT⟩ : ∃ T, T = (countD d 64).2 := ⟨_, rfl⟩
  obtain ⟨Q, hQ⟩ : ∃ Q, Q = depthD d := ⟨_, rfl⟩
  have HL := Lib.hid hL
  have HT := Lib.hid hT
  have HQ := Lib.hid hQ
  have hc1 : 0 ≤ L := by rw [hL]; exact hc
  have hct : T ≤ 1024 := by rw [hT]; exact hc2
  have HE := Lib.hid he
  clear hc hc2 he
  have hq1 : (Q : Int) ≤ 8 := by omega
  have hq2' : Q ≤ 1000 := by omega
  clear hq
  have HKB := Lib.hid hkb
  clear hkb
  clear hL hT hQ
  go_enter_defers Tryz.func18, Tryz.ntmps18
  go_wp2_with fail
  obtain ⟨W0, hW0⟩ : ∃ W0, W0 = ((w.alloc (.cells #[.int .i64 d.kind, .string d.type, .int .u64 d.bits, .int .u64 d.imag, .string d.text, .slice a5 d.names.length c5, .slice a6 d.parts.length c6, .int .i64 d.hook] 26)).alloc (.cells #[.nilIface] 28)).alloc (.cells #[.int .i64 0] 42) := ⟨_, rfl⟩
  rw [← hW0]
  have b0 : Below w.heap.size w W0 := by rw [hW0]; exact ((Below.new _).push _).push _
  have x0 : W0.cell? ⟨w.heap.size, 0, none⟩ = some (.int .i64 d.kind) := by rw [hW0]; exact cell_below (Below.new _) (cell_below (Below.new _) (by simp))
  have x1 : W0.cell? ⟨w.heap.size, 1, none⟩ = some (.string d.type) := by rw [hW0]; exact cell_below (Below.new _) (cell_below (Below.new _) (by simp))
  have x2 : W0.cell? ⟨w.heap.size, 2, none⟩ = some (.int .u64 d.bits) := by rw [hW0]; exact cell_below (Below.new _) (cell_below (Below.new _) (by simp))
  have x3 : W0.cell? ⟨w.heap.size, 3, none⟩ = some (.int .u64 d.imag) := by rw [hW0]; exact cell_below (Below.new _) (cell_below (Below.new _) (by simp))
  have x4 : W0.cell? ⟨w.heap.size, 4, none⟩ = some (.string d.text) := by rw [hW0]; exact cell_below (Below.new _) (cell_below (Below.new _) (by simp))
  have x5 : W0.cell? ⟨w.heap.size, 5, none⟩ = some (.slice a5 d.names.length c5) := by rw [hW0]; exact cell_below (Below.new _) (cell_below (Below.new _) (by simp))
  have x6 : W0.cell? ⟨w.heap.size, 6, none⟩ = some (.slice a6 d.parts.length c6) := by rw [hW0]; exact cell_below (Below.new _) (cell_below (Below.new _) (by simp))
  have x7 : W0.cell? ⟨w.heap.size, 7, none⟩ = some (.int .i64 d.hook) := by rw [hW0]; exact cell_below (Below.new _) (cell_below (Below.new _) (by simp))
  have xp : W0.cell? ⟨w.heap.size + 1, 0, none⟩ = some .nilIface := by rw [hW0]; exact cell_below (Below.new _) (by simp)
  have hz2 : ((w.alloc (.cells #[.int .i64 d.kind, .string d.type, .int .u64 d.bits, .int .u64 d.imag, .string d.text, .slice a5 d.names.length c5, .slice a6 d.parts.length c6, .int .i64 d.hook] 26)).alloc (.cells #[.nilIface] 28)).heap.size = w.heap.size + 2 := by simp
  have xq : W0.cell? ⟨w.heap.size + 2, 0, none⟩ = some (.int .i64 0) := by rw [hW0]; exact cell_at_new _ _ _ _ hz2
  have hz1 : (w.alloc (.cells #[.int .i64 d.kind, .string d.type, .int .u64 d.bits, .int .u64 d.imag, .string d.text, .slice a5 d.names.length c5, .slice a6 d.parts.length c6, .int .i64 d.hook] 26)).heap.size = w.heap.size + 1 := by simp
  have zp : W0.frozen? ⟨w.heap.size + 1, 0, none⟩ = false := by rw [hW0]; exact froz_later (Below.new _) (by simp) (froz_at_new _ _ _ _ hz1)
  have zq : W0.frozen? ⟨w.heap.size + 2, 0, none⟩ = false := by rw [hW0]; exact froz_at_new _ _ _ _ hz2
  have hs0 : w.heap.size + 2 < W0.heap.size := by rw [hW0]; simp
  have HB0 := Lib.hid b0
  clear hW0 b0 hz1 hz2
  refine (countd_any d _ _ 64 (HD.out.later HB0.out) (by omega) (by omega)).mono ?_
  rintro e W1 ⟨rfl, hb1⟩
  rw [← HL.out, ← HT.out]
  have HB1 := Lib.hid (HB0.out.next hb1)
  have hs1 : w.heap.size + 2 < W1.heap.size := by have := hb1.size; omega
  have hfz : ∀ k, W1.frozen? ⟨w.heap.size + k, 0, none⟩ = W0.frozen? ⟨w.heap.size + k, 0, none⟩ ∨ ¬ w.heap.size + k < W0.heap.size := fun k => by
    by_cases hk : w.heap.size + k < W0.heap.size
    · exact .inl (hb1.frozen (p := ⟨w.heap.size + k, 0, none⟩) hk)
    · exact .inr hk
  replace zp : W1.frozen? ⟨w.heap.size + 1, 0, none⟩ = false := by exact (hfz 1).resolve_right (by omega) ▸ zp
  replace zq : W1.frozen? ⟨w.heap.size + 2, 0, none⟩ = false := by exact (hfz 2).resolve_right (by omega) ▸ zq
  replace x0 := cell_below hb1 x0
  replace x1 := cell_below hb1 x1
  replace x2 := cell_below hb1 x2
  replace x3 := cell_below hb1 x3
  replace x4 := cell_below hb1 x4
  replace x5 := cell_below hb1 x5
  replace x6 := cell_below hb1 x6
  replace x7 := cell_below hb1 x7
  replace xp := cell_below hb1 xp
  replace xq := cell_below hb1 xq
  clear hb1 hfz
  go_wp2_with fail
  refine (must_ok 2 _).mono ?_
  rintro e W ⟨rfl, rfl⟩
  go_wp2_with fail
  refine (depth_any d _ _ (HD.out.later HB1.out) (by rw [← HQ.out]; omega)).mono ?_
  rintro e W2 ⟨rfl, hb2⟩
  rw [← HQ.out]
  have HB2 := Lib.hid (HB1.out.next hb2)
  have hs2 : w.heap.size + 2 < W2.heap.size := by have := hb2.size; omega
  have hfz : ∀ k, W2.frozen? ⟨w.heap.size + k, 0, none⟩ = W1.frozen? ⟨w.heap.size + k, 0, none⟩ ∨ ¬ w.heap.size + k < W1.heap.size := fun k => by
    by_cases hk : w.heap.size + k < W1.heap.size
    · exact .inl (hb2.frozen (p := ⟨w.heap.size + k, 0, none⟩) hk)
    · exact .inr hk
  replace zp : W2.frozen? ⟨w.heap.size + 1, 0, none⟩ = false := by exact (hfz 1).resolve_right (by omega) ▸ zp
  replace zq : W2.frozen? ⟨w.heap.size + 2, 0, none⟩ = false := by exact (hfz 2).resolve_right (by omega) ▸ zq
  replace x0 := cell_below hb2 x0
  replace x1 := cell_below hb2 x1
  replace x2 := cell_below hb2 x2
  replace x3 := cell_below hb2 x3
  replace x4 := cell_below hb2 x4
  replace x5 := cell_below hb2 x5
  replace x6 := cell_below hb2 x6
  replace x7 := cell_below hb2 x7
  replace xp := cell_below hb2 xp
  replace xq := cell_below hb2 xq
  clear hb2 hfz
  go_wp2_with fail
  refine (must_ok 6 _).mono ?_
  rintro e W ⟨rfl, rfl⟩
  go_wp2_with fail
  refine (each_bad kindB 33 3 hcf39 kind_ok kind_bad d _ _ (HD.out.later HB2.out) HKB.out).mono ?_
  rintro e W3 ⟨rfl, hb3⟩
  have HB3 := Lib.hid (HB2.out.next hb3)
  have hs3 : w.heap.size + 2 < W3.heap.size := by have := hb3.size; omega
  have hfz : ∀ k, W3.frozen? ⟨w.heap.size + k, 0, none⟩ = W2.frozen? ⟨w.heap.size + k, 0, none⟩ ∨ ¬ w.heap.size + k < W2.heap.size := fun k => by
    by_cases hk : w.heap.size + k < W2.heap.size
    · exact .inl (hb3.frozen (p := ⟨w.heap.size + k, 0, none⟩) hk)
    · exact .inr hk
  replace zp : W3.frozen? ⟨w.heap.size + 1, 0, none⟩ = false := by exact (hfz 1).resolve_right (by omega) ▸ zp
  replace zq : W3.frozen? ⟨w.heap.size + 2, 0, none⟩ = false := by exact (hfz 2).resolve_right (by omega) ▸ zq
  replace x0 := cell_below hb3 x0
  replace x1 := cell_below hb3 x1
  replace x2 := cell_below hb3 x2
  replace x3 := cell_below hb3 x3
  replace x4 := cell_below hb3 x4
  replace x5 := cell_below hb3 x5
  replace x6 := cell_below hb3 x6
  replace x7 := cell_below hb3 x7
  replace xp := cell_below hb3 xp
  replace xq := cell_below hb3 xq
  clear hb3 hfz
  go_wp2_with fail
  refine leaves_cons (f := 28) (args := #[.pointer (some ⟨w.heap.size + 1, 0, none⟩), .pointer (some ⟨w.heap.size + 2, 0, none⟩)]) (by simp) (by simp [go_sem]) ?_
  refine (catch_panicking (w.heap.size + 1) (w.heap.size + 2) w.heap.size _ _ 3 [] _ xp xq zp zq (by omega) (by omega) (by omega)).mono ?_
  rintro e u' w'' ⟨rfl, rfl, hbz, hcp, hcq⟩
  have HBZ := Lib.hid (HB3.out.trans hbz)
  clear hbz
  simp [Leaves, settle, results, Tryz.f18, go_sem, hcp, hcq]
  exact ⟨HBZ.out, fun _ => by rw [HE.out], fun h => by rw [HE.out] at h; omega⟩


set_option maxHeartbeats 4000000 in
theorem build_form (d : D) (w : World) (v : Value) (h : IsD w v d) (he : errD d = 4) (hc : 0 ≤ (countD d 64).1) (hc2 : (countD d 64).2 ≤ 1024) (hq : depthD d ≤ 8) (hkb : allD kindB d = true) (hfb : allD formB d = false) : Calls Tryz.prog 18 #[v] w (BuildPost w d) := by
  have HD := Lib.hid h
  obtain ⟨a5, c5, a6, c6, rfl, hk, hb, hi, ht, hx, hn, hp⟩ := h.open
  clear hp hn hb hi hk ht hx h
  unfold aggD at HD ⊢
  have hmf : ∀ (fn : Fn) (first cap : Array Value) (w : World), (Instr.makeFunc fn first cap).run Tryz.prog w = .ok (.func fn first cap) w := fun _ _ _ _ => rfl
  obtain ⟨L, hL⟩ : ∃ L, L = (countD d 64).1 := ⟨_, rfl⟩
  obtain ⟨T, hT⟩ : ∃ T, T = (countD d 64).2 := ⟨_, rfl⟩
  obtain ⟨Q, hQ⟩ : ∃ Q, Q = depthD d := ⟨_, rfl⟩
  have HL := Lib.hid hL
  have HT := Lib.hid hT
  have HQ := Lib.hid hQ
  have hc1 : 0 ≤ L := by rw [hL]; exact hc
  have hct : T ≤ 1024 := by rw [hT]; exact hc2
  have HE := Lib.hid he
  clear hc hc2 he
  have hq1 : (Q : Int) ≤ 8 := by omega
  have hq2' : Q ≤ 1000 := by omega
  clear hq
  have HKB := Lib.hid hkb
  have HFB := Lib.hid hfb
  clear hkb hfb
  clear hL hT hQ
  go_enter_defers Tryz.func18, Tryz.ntmps18
  go_wp2_with fail
  obtain ⟨W0, hW0⟩ : ∃ W0, W0 = ((w.alloc (.cells #[.int .i64 d.kind, .string d.type, .int .u64 d.bits, .int .u64 d.imag, .string d.text, .slice a5 d.names.length c5, .slice a6 d.parts.length c6, .int .i64 d.hook] 26)).alloc (.cells #[.nilIface] 28)).alloc (.cells #[.int .i64 0] 42) := ⟨_, rfl⟩
  rw [← hW0]
  have b0 : Below w.heap.size w W0 := by rw [hW0]; exact ((Below.new _).push _).push _
  have x0 : W0.cell? ⟨w.heap.size, 0, none⟩ = some (.int .i64 d.kind) := by rw [hW0]; exact cell_below (Below.new _) (cell_below (Below.new _) (by simp))
  have x1 : W0.cell? ⟨w.heap.size, 1, none⟩ = some (.string d.type) := by rw [hW0]; exact cell_below (Below.new _) (cell_below (Below.new _) (by simp))
  have x2 : W0.cell? ⟨w.heap.size, 2, none⟩ = some (.int .u64 d.bits) := by rw [hW0]; exact cell_below (Below.new _) (cell_below (Below.new _) (by simp))
  have x3 : W0.cell? ⟨w.heap.size, 3, none⟩ = some (.int .u64 d.imag) := by rw [hW0]; exact cell_below (Below.new _) (cell_below (Below.new _) (by simp))
  have x4 : W0.cell? ⟨w.heap.size, 4, none⟩ = some (.string d.text) := by rw [hW0]; exact cell_below (Below.new _) (cell_below (Below.new _) (by simp))
  have x5 : W0.cell? ⟨w.heap.size, 5, none⟩ = some (.slice a5 d.names.length c5) := by rw [hW0]; exact cell_below (Below.new _) (cell_below (Below.new _) (by simp))
  have x6 : W0.cell? ⟨w.heap.size, 6, none⟩ = some (.slice a6 d.parts.length c6) := by rw [hW0]; exact cell_below (Below.new _) (cell_below (Below.new _) (by simp))
  have x7 : W0.cell? ⟨w.heap.size, 7, none⟩ = some (.int .i64 d.hook) := by rw [hW0]; exact cell_below (Below.new _) (cell_below (Below.new _) (by simp))
  have xp : W0.cell? ⟨w.heap.size + 1, 0, none⟩ = some .nilIface := by rw [hW0]; exact cell_below (Below.new _) (by simp)
  have hz2 : ((w.alloc (.cells #[.int .i64 d.kind, .string d.type, .int .u64 d.bits, .int .u64 d.imag, .string d.text, .slice a5 d.names.length c5, .slice a6 d.parts.length c6, .int .i64 d.hook] 26)).alloc (.cells #[.nilIface] 28)).heap.size = w.heap.size + 2 := by simp
  have xq : W0.cell? ⟨w.heap.size + 2, 0, none⟩ = some (.int .i64 0) := by rw [hW0]; exact cell_at_new _ _ _ _ hz2
  have hz1 : (w.alloc (.cells #[.int .i64 d.kind, .string d.type, .int .u64 d.bits, .int .u64 d.imag, .string d.text, .slice a5 d.names.length c5, .slice a6 d.parts.length c6, .int .i64 d.hook] 26)).heap.size = w.heap.size + 1 := by simp
  have zp : W0.frozen? ⟨w.heap.size + 1, 0, none⟩ = false := by rw [hW0]; exact froz_later (Below.new _) (by simp) (froz_at_new _ _ _ _ hz1)
  have zq : W0.frozen? ⟨w.heap.size + 2, 0, none⟩ = false := by rw [hW0]; exact froz_at_new _ _ _ _ hz2
  have hs0 : w.heap.size + 2 < W0.heap.size := by rw [hW0]; simp
  have HB0 := Lib.hid b0
  clear hW0 b0 hz1 hz2
  refine (countd_any d _ _ 64 (HD.out.later HB0.out) (by omega) (by omega)).mono ?_
  rintro e W1 ⟨rfl, hb1⟩
  rw [← HL.out, ← HT.out]
  have HB1 := Lib.hid (HB0.out.next hb1)
  have hs1 : w.heap.size + 2 < W1.heap.size := by have := hb1.size; omega
  have hfz : ∀ k, W1.frozen? ⟨w.heap.size + k, 0, none⟩ = W0.frozen? ⟨w.heap.size + k, 0, none⟩ ∨ ¬ w.heap.size + k < W0.heap.size := fun k => by
    by_cases hk : w.heap.size + k < W0.heap.size
    · exact .inl (hb1.frozen (p := ⟨w.heap.size + k, 0, none⟩) hk)
    · exact .inr hk
  replace zp : W1.frozen? ⟨w.heap.size + 1, 0, none⟩ = false := by exact (hfz 1).resolve_right (by omega) ▸ zp
  replace zq : W1.frozen? ⟨w.heap.size + 2, 0, none⟩ = false := by exact (hfz 2).resolve_right (by omega) ▸ zq
  replace x0 := cell_below hb1 x0
  replace x1 := cell_below hb1 x1
  replace x2 := cell_below hb1 x2
  replace x3 := cell_below hb1 x3
  replace x4 := cell_below hb1 x4
  replace x5 := cell_below hb1 x5
  replace x6 := cell_below hb1 x6
  replace x7 := cell_below hb1 x7
  replace xp := cell_below hb1 xp
  replace xq := cell_below hb1 xq
  clear hb1 hfz
  go_wp2_with fail
  refine (must_ok 2 _).mono ?_
  rintro e W ⟨rfl, rfl⟩
  go_wp2_with fail
  refine (depth_any d _ _ (HD.out.later HB1.out) (by rw [← HQ.out]; omega)).mono ?_
  rintro e W2 ⟨rfl, hb2⟩
  rw [← HQ.out]
  have HB2 := Lib.hid (HB1.out.next hb2)
  have hs2 : w.heap.size + 2 < W2.heap.size := by have := hb2.size; omega
  have hfz : ∀ k, W2.frozen? ⟨w.heap.size + k, 0, none⟩ = W1.frozen? ⟨w.heap.size + k, 0, none⟩ ∨ ¬ w.heap.size + k < W1.heap.size := fun k => by
    by_cases hk : w.heap.size + k < W1.heap.size
    · exact .inl (hb2.frozen (p := ⟨w.heap.size + k, 0, none⟩) hk)
    · exact .inr hk
  replace zp : W2.frozen? ⟨w.heap.size + 1, 0, none⟩ = false := by exact (hfz 1).resolve_right (by omega) ▸ zp
  replace zq : W2.frozen? ⟨w.heap.size + 2, 0, none⟩ = false := by exact (hfz 2).resolve_right (by omega) ▸ zq
  replace x0 := cell_below hb2 x0
  replace x1 := cell_below hb2 x1
  replace x2 := cell_below hb2 x2
  replace x3 := cell_below hb2 x3
  replace x4 := cell_below hb2 x4
  replace x5 := cell_below hb2 x5
  replace x6 := cell_below hb2 x6
  replace x7 := cell_below hb2 x7
  replace xp := cell_below hb2 xp
  replace xq := cell_below hb2 xq
  clear hb2 hfz
  go_wp2_with fail
  refine (must_ok 6 _).mono ?_
  rintro e W ⟨rfl, rfl⟩
  go_wp2_with fail
  refine (each_ok kindB 33 3 hcf39 kind_ok kind_bad d _ _ (HD.out.later HB2.out) HKB.out).mono ?_
  rintro e W3 ⟨rfl, hb3⟩
  have HB3 := Lib.hid (HB2.out.next hb3)
  have hs3 : w.heap.size + 2 < W3.heap.size := by have := hb3.size; omega
  have hfz : ∀ k, W3.frozen? ⟨w.heap.size + k, 0, none⟩ = W2.frozen? ⟨w.heap.size + k, 0, none⟩ ∨ ¬ w.heap.size + k < W2.heap.size := fun k => by
    by_cases hk : w.heap.size + k < W2.heap.size
    · exact .inl (hb3.frozen (p := ⟨w.heap.size + k, 0, none⟩) hk)
    · exact .inr hk
  replace zp : W3.frozen? ⟨w.heap.size + 1, 0, none⟩ = false := by exact (hfz 1).resolve_right (by omega) ▸ zp
  replace zq : W3.frozen? ⟨w.heap.size + 2, 0, none⟩ = false := by exact (hfz 2).resolve_right (by omega) ▸ zq
  replace x0 := cell_below hb3 x0
  replace x1 := cell_below hb3 x1
  replace x2 := cell_below hb3 x2
  replace x3 := cell_below hb3 x3
  replace x4 := cell_below hb3 x4
  replace x5 := cell_below hb3 x5
  replace x6 := cell_below hb3 x6
  replace x7 := cell_below hb3 x7
  replace xp := cell_below hb3 xp
  replace xq := cell_below hb3 xq
  clear hb3 hfz
  go_wp2_with fail
  refine (each_bad formB 34 4 hcf40 form_ok form_bad d _ _ (HD.out.later HB3.out) HFB.out).mono ?_
  rintro e W4 ⟨rfl, hb4⟩
  have HB4 := Lib.hid (HB3.out.next hb4)
  have hs4 : w.heap.size + 2 < W4.heap.size := by have := hb4.size; omega
  have hfz : ∀ k, W4.frozen? ⟨w.heap.size + k, 0, none⟩ = W3.frozen? ⟨w.heap.size + k, 0, none⟩ ∨ ¬ w.heap.size + k < W3.heap.size := fun k => by
    by_cases hk : w.heap.size + k < W3.heap.size
    · exact .inl (hb4.frozen (p := ⟨w.heap.size + k, 0, none⟩) hk)
    · exact .inr hk
  replace zp : W4.frozen? ⟨w.heap.size + 1, 0, none⟩ = false := by exact (hfz 1).resolve_right (by omega) ▸ zp
  replace zq : W4.frozen? ⟨w.heap.size + 2, 0, none⟩ = false := by exact (hfz 2).resolve_right (by omega) ▸ zq
  replace x0 := cell_below hb4 x0
  replace x1 := cell_below hb4 x1
  replace x2 := cell_below hb4 x2
  replace x3 := cell_below hb4 x3
  replace x4 := cell_below hb4 x4
  replace x5 := cell_below hb4 x5
  replace x6 := cell_below hb4 x6
  replace x7 := cell_below hb4 x7
  replace xp := cell_below hb4 xp
  replace xq := cell_below hb4 xq
  clear hb4 hfz
  go_wp2_with fail
  refine leaves_cons (f := 28) (args := #[.pointer (some ⟨w.heap.size + 1, 0, none⟩), .pointer (some ⟨w.heap.size + 2, 0, none⟩)]) (by simp) (by simp [go_sem]) ?_
  refine (catch_panicking (w.heap.size + 1) (w.heap.size + 2) w.heap.size _ _ 4 [] _ xp xq zp zq (by omega) (by omega) (by omega)).mono ?_
  rintro e u' w'' ⟨rfl, rfl, hbz, hcp, hcq⟩
  have HBZ := Lib.hid (HB4.out.trans hbz)
  clear hbz
  simp [Leaves, settle, results, Tryz.f18, go_sem, hcp, hcq]
  exact ⟨HBZ.out, fun _ => by rw [HE.out], fun h => by rw [HE.out] at h; omega⟩


set_option maxHeartbeats 4000000 in
theorem build_twice (d : D) (w : World) (v : Value) (h : IsD w v d) (he : errD d = 5) (hc : 0 ≤ (countD d 64).1) (hc2 : (countD d 64).2 ≤ 1024) (hq : depthD d ≤ 8) (hkb : allD kindB d = true) (hfb : allD formB d = true) (hg : allD goodB d = true) (hmv : mkV d = none) : Calls Tryz.prog 18 #[v] w (BuildPost w d) := by
  have HD := Lib.hid h
  obtain ⟨a5, c5, a6, c6, rfl, hk, hb, hi, ht, hx, hn, hp⟩ := h.open
  clear hp hn hb hi hk ht hx h
  unfold aggD at HD ⊢
  have hmf : ∀ (fn : Fn) (first cap : Array Value) (w : World), (Instr.makeFunc fn first cap).run Tryz.prog w = .ok (.func fn first cap) w := fun _ _ _ _ => rfl
  obtain ⟨L, hL⟩ : ∃ L, L = (countD d 64).1 := ⟨_, rfl⟩
  obtain ⟨T, hT⟩ : ∃ T, T = (countD d 64).2 := ⟨_, rfl⟩
  obtain ⟨Q, hQ⟩ : ∃ Q, Q = depthD d := ⟨_, rfl⟩
  have HL := Lib.hid hL
  have HT := Lib.hid hT
  have HQ := Lib.hid hQ
  have hc1 : 0 ≤ L := by rw [hL]; exact hc
  have hct : T ≤ 1024 := by rw [hT]; exact hc2
  have HE := Lib.hid he
  clear hc hc2 he
  have hq1 : (Q : Int) ≤ 8 := by omega
  have hq2' : Q ≤ 1000 := by omega
  clear hq
  have HKB := Lib.hid hkb
  have HFB := Lib.hid hfb
  have HG := Lib.hid hg
  have HMV := Lib.hid hmv
  clear hkb hfb hg hmv
  clear hL hT hQ
  go_enter_defers Tryz.func18, Tryz.ntmps18
  go_wp2_with fail
  obtain ⟨W0, hW0⟩ : ∃ W0, W0 = ((w.alloc (.cells #[.int .i64 d.kind, .string d.type, .int .u64 d.bits, .int .u64 d.imag, .string d.text, .slice a5 d.names.length c5, .slice a6 d.parts.length c6, .int .i64 d.hook] 26)).alloc (.cells #[.nilIface] 28)).alloc (.cells #[.int .i64 0] 42) := ⟨_, rfl⟩
  rw [← hW0]
  have b0 : Below w.heap.size w W0 := by rw [hW0]; exact ((Below.new _).push _).push _
  have x0 : W0.cell? ⟨w.heap.size, 0, none⟩ = some (.int .i64 d.kind) := by rw [hW0]; exact cell_below (Below.new _) (cell_below (Below.new _) (by simp))
  have x1 : W0.cell? ⟨w.heap.size, 1, none⟩ = some (.string d.type) := by rw [hW0]; exact cell_below (Below.new _) (cell_below (Below.new _) (by simp))
  have x2 : W0.cell? ⟨w.heap.size, 2, none⟩ = some (.int .u64 d.bits) := by rw [hW0]; exact cell_below (Below.new _) (cell_below (Below.new _) (by simp))
  have x3 : W0.cell? ⟨w.heap.size, 3, none⟩ = some (.int .u64 d.imag) := by rw [hW0]; exact cell_below (Below.new _) (cell_below (Below.new _) (by simp))
  have x4 : W0.cell? ⟨w.heap.size, 4, none⟩ = some (.string d.text) := by rw [hW0]; exact cell_below (Below.new _) (cell_below (Below.new _) (by simp))
  have x5 : W0.cell? ⟨w.heap.size, 5, none⟩ = some (.slice a5 d.names.length c5) := by rw [hW0]; exact cell_below (Below.new _) (cell_below (Below.new _) (by simp))
  have x6 : W0.cell? ⟨w.heap.size, 6, none⟩ = some (.slice a6 d.parts.length c6) := by rw [hW0]; exact cell_below (Below.new _) (cell_below (Below.new _) (by simp))
  have x7 : W0.cell? ⟨w.heap.size, 7, none⟩ = some (.int .i64 d.hook) := by rw [hW0]; exact cell_below (Below.new _) (cell_below (Below.new _) (by simp))
  have xp : W0.cell? ⟨w.heap.size + 1, 0, none⟩ = some .nilIface := by rw [hW0]; exact cell_below (Below.new _) (by simp)
  have hz2 : ((w.alloc (.cells #[.int .i64 d.kind, .string d.type, .int .u64 d.bits, .int .u64 d.imag, .string d.text, .slice a5 d.names.length c5, .slice a6 d.parts.length c6, .int .i64 d.hook] 26)).alloc (.cells #[.nilIface] 28)).heap.size = w.heap.size + 2 := by simp
  have xq : W0.cell? ⟨w.heap.size + 2, 0, none⟩ = some (.int .i64 0) := by rw [hW0]; exact cell_at_new _ _ _ _ hz2
  have hz1 : (w.alloc (.cells #[.int .i64 d.kind, .string d.type, .int .u64 d.bits, .int .u64 d.imag, .string d.text, .slice a5 d.names.length c5, .slice a6 d.parts.length c6, .int .i64 d.hook] 26)).heap.size = w.heap.size + 1 := by simp
  have zp : W0.frozen? ⟨w.heap.size + 1, 0, none⟩ = false := by rw [hW0]; exact froz_later (Below.new _) (by simp) (froz_at_new _ _ _ _ hz1)
  have zq : W0.frozen? ⟨w.heap.size + 2, 0, none⟩ = false := by rw [hW0]; exact froz_at_new _ _ _ _ hz2
  have hs0 : w.heap.size + 2 < W0.heap.size := by rw [hW0]; simp
  have HB0 := Lib.hid b0
  clear hW0 b0 hz1 hz2
  refine (countd_any d _ _ 64 (HD.out.later HB0.out) (by omega) (by omega)).mono ?_
  rintro e W1 ⟨rfl, hb1⟩
  rw [← HL.out, ← HT.out]
  have HB1 := Lib.hid (HB0.out.next hb1)
  have hs1 : w.heap.size + 2 < W1.heap.size := by have := hb1.size; omega
  have hfz : ∀ k, W1.frozen? ⟨w.heap.size + k, 0, none⟩ = W0.frozen? ⟨w.heap.size + k, 0, none⟩ ∨ ¬ w.heap.size + k < W0.heap.size := fun k => by
    by_cases hk : w.heap.size + k < W0.heap.size
    · exact .inl (hb1.frozen (p := ⟨w.heap.size + k, 0, none⟩) hk)
    · exact .inr hk
  replace zp : W1.frozen? ⟨w.heap.size + 1, 0, none⟩ = false := by exact (hfz 1).resolve_right (by omega) ▸ zp
  replace zq : W1.frozen? ⟨w.heap.size + 2, 0, none⟩ = false := by exact (hfz 2).resolve_right (by omega) ▸ zq
  replace x0 := cell_below hb1 x0
  replace x1 := cell_below hb1 x1
  replace x2 := cell_below hb1 x2
  replace x3 := cell_below hb1 x3
  replace x4 := cell_below hb1 x4
  replace x5 := cell_below hb1 x5
  replace x6 := cell_below hb1 x6
  replace x7 := cell_below hb1 x7
  replace xp := cell_below hb1 xp
  replace xq := cell_below hb1 xq
  clear hb1 hfz
  go_wp2_with fail
  refine (must_ok 2 _).mono ?_
  rintro e W ⟨rfl, rfl⟩
  go_wp2_with fail
  refine (depth_any d _ _ (HD.out.later HB1.out) (by rw [← HQ.out]; omega)).mono ?_
  rintro e W2 ⟨rfl, hb2⟩
  rw [← HQ.out]
  have HB2 := Lib.hid (HB1.out.next hb2)
  have hs2 : w.heap.size + 2 < W2.heap.size := by have := hb2.size; omega
  have hfz : ∀ k, W2.frozen? ⟨w.heap.size + k, 0, none⟩ = W1.frozen? ⟨w.heap.size + k, 0, none⟩ ∨ ¬ w.heap.size + k < W1.heap.size := fun k => by
    by_cases hk : w.heap.size + k < W1.heap.size
    · exact .inl (hb2.frozen (p := ⟨w.heap.size + k, 0, none⟩) hk)
    · exact .inr hk
  replace zp : W2.frozen? ⟨w.heap.size + 1, 0, none⟩ = false := by exact (hfz 1).resolve_right (by omega) ▸ zp
  replace zq : W2.frozen? ⟨w.heap.size + 2, 0, none⟩ = false := by exact (hfz 2).resolve_right (by omega) ▸ zq
  replace x0 := cell_below hb2 x0
  replace x1 := cell_below hb2 x1
  replace x2 := cell_below hb2 x2
  replace x3 := cell_below hb2 x3
  replace x4 := cell_below hb2 x4
  replace x5 := cell_below hb2 x5
  replace x6 := cell_below hb2 x6
  replace x7 := cell_below hb2 x7
  replace xp := cell_below hb2 xp
  replace xq := cell_below hb2 xq
  clear hb2 hfz
  go_wp2_with fail
  refine (must_ok 6 _).mono ?_
  rintro e W ⟨rfl, rfl⟩
  go_wp2_with fail
  refine (each_ok kindB 33 3 hcf39 kind_ok kind_bad d _ _ (HD.out.later HB2.out) HKB.out).mono ?_
  rintro e W3 ⟨rfl, hb3⟩
  have HB3 := Lib.hid (HB2.out.next hb3)
  have hs3 : w.heap.size + 2 < W3.heap.size := by have := hb3.size; omega
  have hfz : ∀ k, W3.frozen? ⟨w.heap.size + k, 0, none⟩ = W2.frozen? ⟨w.heap.size + k, 0, none⟩ ∨ ¬ w.heap.size + k < W2.heap.size := fun k => by
    by_cases hk : w.heap.size + k < W2.heap.size
    · exact .inl (hb3.frozen (p := ⟨w.heap.size + k, 0, none⟩) hk)
    · exact .inr hk
  replace zp : W3.frozen? ⟨w.heap.size + 1, 0, none⟩ = false := by exact (hfz 1).resolve_right (by omega) ▸ zp
  replace zq : W3.frozen? ⟨w.heap.size + 2, 0, none⟩ = false := by exact (hfz 2).resolve_right (by omega) ▸ zq
  replace x0 := cell_below hb3 x0
  replace x1 := cell_below hb3 x1
  replace x2 := cell_below hb3 x2
  replace x3 := cell_below hb3 x3
  replace x4 := cell_below hb3 x4
  replace x5 := cell_below hb3 x5
  replace x6 := cell_below hb3 x6
  replace x7 := cell_below hb3 x7
  replace xp := cell_below hb3 xp
  replace xq := cell_below hb3 xq
  clear hb3 hfz
  go_wp2_with fail
  refine (each_ok formB 34 4 hcf40 form_ok form_bad d _ _ (HD.out.later HB3.out) HFB.out).mono ?_
  rintro e W4 ⟨rfl, hb4⟩
  have HB4 := Lib.hid (HB3.out.next hb4)
  have hs4 : w.heap.size + 2 < W4.heap.size := by have := hb4.size; omega
  have hfz : ∀ k, W4.frozen? ⟨w.heap.size + k, 0, none⟩ = W3.frozen? ⟨w.heap.size + k, 0, none⟩ ∨ ¬ w.heap.size + k < W3.heap.size := fun k => by
    by_cases hk : w.heap.size + k < W3.heap.size
    · exact .inl (hb4.frozen (p := ⟨w.heap.size + k, 0, none⟩) hk)
    · exact .inr hk
  replace zp : W4.frozen? ⟨w.heap.size + 1, 0, none⟩ = false := by exact (hfz 1).resolve_right (by omega) ▸ zp
  replace zq : W4.frozen? ⟨w.heap.size + 2, 0, none⟩ = false := by exact (hfz 2).resolve_right (by omega) ▸ zq
  replace x0 := cell_below hb4 x0
  replace x1 := cell_below hb4 x1
  replace x2 := cell_below hb4 x2
  replace x3 := cell_below hb4 x3
  replace x4 := cell_below hb4 x4
  replace x5 := cell_below hb4 x5
  replace x6 := cell_below hb4 x6
  replace x7 := cell_below hb4 x7
  replace xp := cell_below hb4 xp
  replace xq := cell_below hb4 xq
  clear hb4 hfz
  go_wp2_with fail
  refine (made_none HMV.out (made_any d HG.out _ _ (HD.out.later HB4.out))).mono ?_
  rintro e W5 ⟨rfl, hb5⟩
  have HB5 := Lib.hid (HB4.out.next hb5)
  have hs5 : w.heap.size + 2 < W5.heap.size := by have := hb5.size; omega
  have hfz : ∀ k, W5.frozen? ⟨w.heap.size + k, 0, none⟩ = W4.frozen? ⟨w.heap.size + k, 0, none⟩ ∨ ¬ w.heap.size + k < W4.heap.size := fun k => by
    by_cases hk : w.heap.size + k < W4.heap.size
    · exact .inl (hb5.frozen (p := ⟨w.heap.size + k, 0, none⟩) hk)
    · exact .inr hk
  replace zp : W5.frozen? ⟨w.heap.size + 1, 0, none⟩ = false := by exact (hfz 1).resolve_right (by omega) ▸ zp
  replace zq : W5.frozen? ⟨w.heap.size + 2, 0, none⟩ = false := by exact (hfz 2).resolve_right (by omega) ▸ zq
  replace x0 := cell_below hb5 x0
  replace x1 := cell_below hb5 x1
  replace x2 := cell_below hb5 x2
  replace x3 := cell_below hb5 x3
  replace x4 := cell_below hb5 x4
  replace x5 := cell_below hb5 x5
  replace x6 := cell_below hb5 x6
  replace x7 := cell_below hb5 x7
  replace xp := cell_below hb5 xp
  replace xq := cell_below hb5 xq
  clear hb5 hfz
  go_wp2_with fail
  refine leaves_cons (f := 28) (args := #[.pointer (some ⟨w.heap.size + 1, 0, none⟩), .pointer (some ⟨w.heap.size + 2, 0, none⟩)]) (by simp) (by simp [go_sem]) ?_
  refine (catch_panicking (w.heap.size + 1) (w.heap.size + 2) w.heap.size _ _ 5 [] _ xp xq zp zq (by omega) (by omega) (by omega)).mono ?_
  rintro e u' w'' ⟨rfl, rfl, hbz, hcp, hcq⟩
  have HBZ := Lib.hid (HB5.out.trans hbz)
  clear hbz
  simp [Leaves, settle, results, Tryz.f18, go_sem, hcp, hcq]
  exact ⟨HBZ.out, fun _ => by rw [HE.out], fun h => by rw [HE.out] at h; omega⟩


set_option maxHeartbeats 4000000 in
theorem build_fine (d : D) (w : World) (v : Value) (h : IsD w v d) (he : errD d = 0) (hc : 0 ≤ (countD d 64).1) (hc2 : (countD d 64).2 ≤ 1024) (hq : depthD d ≤ 8) (hkb : allD kindB d = true) (hfb : allD formB d = true) (hg : allD goodB d = true) {x : V} (hmv : mkV d = some x) : Calls Tryz.prog 18 #[v] w (BuildPost w d) := by
  have HD := Lib.hid h
  obtain ⟨a5, c5, a6, c6, rfl, hk, hb, hi, ht, hx, hn, hp⟩ := h.open
  clear hp hn hb hi hk ht hx h
  unfold aggD at HD ⊢
  have hmf : ∀ (fn : Fn) (first cap : Array Value) (w : World), (Instr.makeFunc fn first cap).run Tryz.prog w = .ok (.func fn first cap) w := fun _ _ _ _ => rfl
  obtain ⟨L, hL⟩ : ∃ L, L = (countD d 64).1 := ⟨_, rfl⟩
  obtain ⟨T, hT⟩ : ∃ T, T = (countD d 64).2 := ⟨_, rfl⟩
  obtain ⟨Q, hQ⟩ : ∃ Q, Q = depthD d := ⟨_, rfl⟩
  have HL := Lib.hid hL
  have HT := Lib.hid hT
  have HQ := Lib.hid hQ
  have hc1 : 0 ≤ L := by rw [hL]; exact hc
  have hct : T ≤ 1024 := by rw [hT]; exact hc2
  have HE := Lib.hid he
  clear hc hc2 he
  have hq1 : (Q : Int) ≤ 8 := by omega
  have hq2' : Q ≤ 1000 := by omega
  clear hq
  have HKB := Lib.hid hkb
  have HFB := Lib.hid hfb
  have HG := Lib.hid hg
  have HMV := Lib.hid hmv
  clear hkb hfb hg hmv
  clear hL hT hQ
  go_enter_defers Tryz.func18, Tryz.ntmps18
  go_wp2_with fail
  obtain ⟨W0, hW0⟩ : ∃ W0, W0 = ((w.alloc (.cells #[.int .i64 d.kind, .string d.type, .int .u64 d.bits, .int .u64 d.imag, .string d.text, .slice a5 d.names.length c5, .slice a6 d.parts.length c6, .int .i64 d.hook] 26)).alloc (.cells #[.nilIface] 28)).alloc (.cells #[.int .i64 0] 42) := ⟨_, rfl⟩
  rw [← hW0]
  have b0 : Below w.heap.size w W0 := by rw [hW0]; exact ((Below.new _).push _).push _
  have x0 : W0.cell? ⟨w.heap.size, 0, none⟩ = some (.int .i64 d.kind) := by rw [hW0]; exact cell_below (Below.new _) (cell_below (Below.new _) (by simp))
  have x1 : W0.cell? ⟨w.heap.size, 1, none⟩ = some (.string d.type) := by rw [hW0]; exact cell_below (Below.new _) (cell_below (Below.new _) (by simp))
  have x2 : W0.cell? ⟨w.heap.size, 2, none⟩ = some (.int .u64 d.bits) := by rw [hW0]; exact cell_below (Below.new _) (cell_below (Below.new _) (by simp))
  have x3 : W0.cell? ⟨w.heap.size, 3, none⟩ = some (.int .u64 d.imag) := by rw [hW0]; exact cell_below (Below.new _) (cell_below (Below.new _) (by simp))
  have x4 : W0.cell? ⟨w.heap.size, 4, none⟩ = some (.string d.text) := by rw [hW0]; exact cell_below (Below.new _) (cell_below (Below.new _) (by simp))
  have x5 : W0.cell? ⟨w.heap.size, 5, none⟩ = some (.slice a5 d.names.length c5) := by rw [hW0]; exact cell_below (Below.new _) (cell_below (Below.new _) (by simp))
  have x6 : W0.cell? ⟨w.heap.size, 6, none⟩ = some (.slice a6 d.parts.length c6) := by rw [hW0]; exact cell_below (Below.new _) (cell_below (Below.new _) (by simp))
  have x7 : W0.cell? ⟨w.heap.size, 7, none⟩ = some (.int .i64 d.hook) := by rw [hW0]; exact cell_below (Below.new _) (cell_below (Below.new _) (by simp))
  have xp : W0.cell? ⟨w.heap.size + 1, 0, none⟩ = some .nilIface := by rw [hW0]; exact cell_below (Below.new _) (by simp)
  have hz2 : ((w.alloc (.cells #[.int .i64 d.kind, .string d.type, .int .u64 d.bits, .int .u64 d.imag, .string d.text, .slice a5 d.names.length c5, .slice a6 d.parts.length c6, .int .i64 d.hook] 26)).alloc (.cells #[.nilIface] 28)).heap.size = w.heap.size + 2 := by simp
  have xq : W0.cell? ⟨w.heap.size + 2, 0, none⟩ = some (.int .i64 0) := by rw [hW0]; exact cell_at_new _ _ _ _ hz2
  have hz1 : (w.alloc (.cells #[.int .i64 d.kind, .string d.type, .int .u64 d.bits, .int .u64 d.imag, .string d.text, .slice a5 d.names.length c5, .slice a6 d.parts.length c6, .int .i64 d.hook] 26)).heap.size = w.heap.size + 1 := by simp
  have zp : W0.frozen? ⟨w.heap.size + 1, 0, none⟩ = false := by rw [hW0]; exact froz_later (Below.new _) (by simp) (froz_at_new _ _ _ _ hz1)
  have zq : W0.frozen? ⟨w.heap.size + 2, 0, none⟩ = false := by rw [hW0]; exact froz_at_new _ _ _ _ hz2
  have hs0 : w.heap.size + 2 < W0.heap.size := by rw [hW0]; simp
  have HB0 := Lib.hid b0
  clear hW0 b0 hz1 hz2
  refine (countd_any d _ _ 64 (HD.out.later HB0.out) (by omega) (by omega)).mono ?_
  rintro e W1 ⟨rfl, hb1⟩
  rw [← HL.out, ← HT.out]
  have HB1 := Lib.hid (HB0.out.next hb1)
  have hs1 : w.heap.size + 2 < W1.heap.size := by have := hb1.size; omega
  have hfz : ∀ k, W1.frozen? ⟨w.heap.size + k, 0, none⟩ = W0.frozen? ⟨w.heap.size + k, 0, none⟩ ∨ ¬ w.heap.size + k < W0.heap.size := fun k => by
    by_cases hk : w.heap.size + k < W0.heap.size
    · exact .inl (hb1.frozen (p := ⟨w.heap.size + k, 0, none⟩) hk)
    · exact .inr hk
  replace zp : W1.frozen? ⟨w.heap.size + 1, 0, none⟩ = false := by exact (hfz 1).resolve_right (by omega) ▸ zp
  replace zq : W1.frozen? ⟨w.heap.size + 2, 0, none⟩ = false := by exact (hfz 2).resolve_right (by omega) ▸ zq
  replace x0 := cell_below hb1 x0
  replace x1 := cell_below hb1 x1
  replace x2 := cell_below hb1 x2
  replace x3 := cell_below hb1 x3
  replace x4 := cell_below hb1 x4
  replace x5 := cell_below hb1 x5
  replace x6 := cell_below hb1 x6
  replace x7 := cell_below hb1 x7
  replace xp := cell_below hb1 xp
  replace xq := cell_below hb1 xq
  clear hb1 hfz
  go_wp2_with fail
  refine (must_ok 2 _).mono ?_
  rintro e W ⟨rfl, rfl⟩
  go_wp2_with fail
  refine (depth_any d _ _ (HD.out.later HB1.out) (by rw [← HQ.out]; omega)).mono ?_
  rintro e W2 ⟨rfl, hb2⟩
  rw [← HQ.out]
  have HB2 := Lib.hid (HB1.out.next hb2)
  have hs2 : w.heap.size + 2 < W2.heap.size := by have := hb2.size; omega
  have hfz : ∀ k, W2.frozen? ⟨w.heap.size + k, 0, none⟩ = W1.frozen? ⟨w.heap.size + k, 0, none⟩ ∨ ¬ w.heap.size + k < W1.heap.size := fun k => by
    by_cases hk : w.heap.size + k < W1.heap.size
    · exact .inl (hb2.frozen (p := ⟨w.heap.size + k, 0, none⟩) hk)
    · exact .inr hk
  replace zp : W2.frozen? ⟨w.heap.size + 1, 0, none⟩ = false := by exact (hfz 1).resolve_right (by omega) ▸ zp
  replace zq : W2.frozen? ⟨w.heap.size + 2, 0, none⟩ = false := by exact (hfz 2).resolve_right (by omega) ▸ zq
  replace x0 := cell_below hb2 x0
  replace x1 := cell_below hb2 x1
  replace x2 := cell_below hb2 x2
  replace x3 := cell_below hb2 x3
  replace x4 := cell_below hb2 x4
  replace x5 := cell_below hb2 x5
  replace x6 := cell_below hb2 x6
  replace x7 := cell_below hb2 x7
  replace xp := cell_below hb2 xp
  replace xq := cell_below hb2 xq
  clear hb2 hfz
  go_wp2_with fail
  refine (must_ok 6 _).mono ?_
  rintro e W ⟨rfl, rfl⟩
  go_wp2_with fail
  refine (each_ok kindB 33 3 hcf39 kind_ok kind_bad d _ _ (HD.out.later HB2.out) HKB.out).mono ?_
  rintro e W3 ⟨rfl, hb3⟩
  have HB3 := Lib.hid (HB2.out.next hb3)
  have hs3 : w.heap.size + 2 < W3.heap.size := by have := hb3.size; omega
  have hfz : ∀ k, W3.frozen? ⟨w.heap.size + k, 0, none⟩ = W2.frozen? ⟨w.heap.size + k, 0, none⟩ ∨ ¬ w.heap.size + k < W2.heap.size := fun k => by
    by_cases hk : w.heap.size + k < W2.heap.size
    · exact .inl (hb3.frozen (p := ⟨w.heap.size + k, 0, none⟩) hk)
    · exact .inr hk
  replace zp : W3.frozen? ⟨w.heap.size + 1, 0, none⟩ = false := by exact (hfz 1).resolve_right (by omega) ▸ zp
  replace zq : W3.frozen? ⟨w.heap.size + 2, 0, none⟩ = false := by exact (hfz 2).resolve_right (by omega) ▸ zq
  replace x0 := cell_below hb3 x0
  replace x1 := cell_below hb3 x1
  replace x2 := cell_below hb3 x2
  replace x3 := cell_below hb3 x3
  replace x4 := cell_below hb3 x4
  replace x5 := cell_below hb3 x5
  replace x6 := cell_below hb3 x6
  replace x7 := cell_below hb3 x7
  replace xp := cell_below hb3 xp
  replace xq := cell_below hb3 xq
  clear hb3 hfz
  go_wp2_with fail
  refine (each_ok formB 34 4 hcf40 form_ok form_bad d _ _ (HD.out.later HB3.out) HFB.out).mono ?_
  rintro e W4 ⟨rfl, hb4⟩
  have HB4 := Lib.hid (HB3.out.next hb4)
  have hs4 : w.heap.size + 2 < W4.heap.size := by have := hb4.size; omega
  have hfz : ∀ k, W4.frozen? ⟨w.heap.size + k, 0, none⟩ = W3.frozen? ⟨w.heap.size + k, 0, none⟩ ∨ ¬ w.heap.size + k < W3.heap.size := fun k => by
    by_cases hk : w.heap.size + k < W3.heap.size
    · exact .inl (hb4.frozen (p := ⟨w.heap.size + k, 0, none⟩) hk)
    · exact .inr hk
  replace zp : W4.frozen? ⟨w.heap.size + 1, 0, none⟩ = false := by exact (hfz 1).resolve_right (by omega) ▸ zp
  replace zq : W4.frozen? ⟨w.heap.size + 2, 0, none⟩ = false := by exact (hfz 2).resolve_right (by omega) ▸ zq
  replace x0 := cell_below hb4 x0
  replace x1 := cell_below hb4 x1
  replace x2 := cell_below hb4 x2
  replace x3 := cell_below hb4 x3
  replace x4 := cell_below hb4 x4
  replace x5 := cell_below hb4 x5
  replace x6 := cell_below hb4 x6
  replace x7 := cell_below hb4 x7
  replace xp := cell_below hb4 xp
  replace xq := cell_below hb4 xq
  clear hb4 hfz
  go_wp2_with fail
  refine (made_some HMV.out (made_any d HG.out _ _ (HD.out.later HB4.out))).mono ?_
  rintro e W5 ⟨hb5, t, y, rfl, hxv⟩
  have HB5 := Lib.hid (HB4.out.next hb5)
  have hs5 : w.heap.size + 2 < W5.heap.size := by have := hb5.size; omega
  have hfz : ∀ k, W5.frozen? ⟨w.heap.size + k, 0, none⟩ = W4.frozen? ⟨w.heap.size + k, 0, none⟩ ∨ ¬ w.heap.size + k < W4.heap.size := fun k => by
    by_cases hk : w.heap.size + k < W4.heap.size
    · exact .inl (hb5.frozen (p := ⟨w.heap.size + k, 0, none⟩) hk)
    · exact .inr hk
  replace zp : W5.frozen? ⟨w.heap.size + 1, 0, none⟩ = false := by exact (hfz 1).resolve_right (by omega) ▸ zp
  replace zq : W5.frozen? ⟨w.heap.size + 2, 0, none⟩ = false := by exact (hfz 2).resolve_right (by omega) ▸ zq
  replace x0 := cell_below hb5 x0
  replace x1 := cell_below hb5 x1
  replace x2 := cell_below hb5 x2
  replace x3 := cell_below hb5 x3
  replace x4 := cell_below hb5 x4
  replace x5 := cell_below hb5 x5
  replace x6 := cell_below hb5 x6
  replace x7 := cell_below hb5 x7
  replace xp := cell_below hb5 xp
  replace xq := cell_below hb5 xq
  clear hb5 hfz
  have HXV := Lib.hid hxv
  clear hxv
  go_wp2_with fail
  refine leaves_cons (f := 28) (args := #[.pointer (some ⟨w.heap.size + 1, 0, none⟩), .pointer (some ⟨w.heap.size + 2, 0, none⟩)]) (by simp) (by simp [go_sem]) ?_
  refine (catch_idle _ _ _).mono ?_
  rintro e u' w'' ⟨rfl, rfl, rfl⟩
  have k1 : (W5.cell? ⟨w.heap.size + 1, 0, none⟩).isSome = true := by rw [xp]; rfl
  have k2 : ((W5.setCell ⟨w.heap.size + 1, 0, none⟩ (.iface t y)).cell? ⟨w.heap.size + 2, 0, none⟩).isSome = true := by rw [World.cell?_setCell_other _ _ _ _ (by intro e; injection e; omega), xq]; rfl
  have k3 : ((W5.setCell ⟨w.heap.size + 1, 0, none⟩ (.iface t y)).setCell ⟨w.heap.size + 2, 0, none⟩ (.int .i64 0)).cell? ⟨w.heap.size + 2, 0, none⟩ = some (.int .i64 0) := World.cell?_setCell_same' _ _ _ k2
  have k4 : ((W5.setCell ⟨w.heap.size + 1, 0, none⟩ (.iface t y)).setCell ⟨w.heap.size + 2, 0, none⟩ (.int .i64 0)).cell? ⟨w.heap.size + 1, 0, none⟩ = some (.iface t y) := by
    rw [World.cell?_setCell_other _ _ _ _ (by intro e; injection e; omega)]
    exact World.cell?_setCell_same' _ _ _ k1
  have HBZ : Hid (Below w.heap.size w ((W5.setCell ⟨w.heap.size + 1, 0, none⟩ (.iface t y)).setCell ⟨w.heap.size + 2, 0, none⟩ (.int .i64 0))) :=
    (HB5.out.setCell (p := ⟨w.heap.size + 1, 0, none⟩) (by show _ ≤ w.heap.size + 1; omega) _).setCell (p := ⟨w.heap.size + 2, 0, none⟩) (by show _ ≤ w.heap.size + 2; omega) _
  have HXZ : Hid (IsVF (w.heap.size ≤ ·) ((W5.setCell ⟨w.heap.size + 1, 0, none⟩ (.iface t y)).setCell ⟨w.heap.size + 2, 0, none⟩ (.int .i64 0)) (.iface t y) x) := by
    refine HXV.out.keep fun k hk hk' => ⟨by omega, ?_⟩
    rw [Below.heap_setCell _ _ _ _ (by show k ≠ w.heap.size + 2; omega), Below.heap_setCell _ _ _ _ (by show k ≠ w.heap.size + 1; omega)]
  simp [Leaves, settle, results, Tryz.f18, go_sem, k3, k4]
  exact ⟨HBZ.out, fun h => absurd HE.out h, fun _ => ⟨t, y, x, HMV.out, rfl, HXZ.out⟩⟩

end Go.Proofs.YtkpfeodffhfejaaGreatDoor
