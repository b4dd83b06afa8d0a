/- The reference's In at descriptors without parts. Condition: the kind of one. -/
import Derived.Test.YtkpfeodffhfejaaGreatDoorCA09
import Derived.Test.YtkpfeodffhfejaaGreatDoorCA21
namespace Go.Proofs.YtkpfeodffhfejaaGreatDoor
set_option linter.unusedVariables false
set_option maxRecDepth 1000000
set_option linter.unusedSimpArgs false
open Go.RowKit

set_option maxHeartbeats 2000000 in
set_option maxRecDepth 100000 in
theorem in_1 {d : D} {w : World} {v : Value} (h : IsD w v d) (hk0 : d.kind = 1) : Calls Tryz.prog 40 #[v] w (RawPost w (leafV d)) := by
  obtain ⟨a5, c5, a6, c6, rfl, hk, hb, hi, ht, hx, hn, hp⟩ := h.open
  have hh : I64 d.hook := by cases h.rng; assumption
  have HK := Lib.hid (And.intro hk (And.intro hb (And.intro hi (And.intro ht (And.intro hx hh)))))
  have hb0 : 0 ≤ d.bits := hb.1
  have hi0 : 0 ≤ d.imag := hi.1
  have HB : Hid (∀ o o' o'' : Obj, Below w.heap.size w (((w.alloc o).alloc o').alloc o'')) := fun o o' o'' => ((Below.new _).push _).push _
  clear hn hp hk ht hx hh h
  have HQ : Hid (rawV (leafV d) = .mk 1 d.type (d.bits % 2) (0) ⟨#[]⟩ [] [] d.hook) := by
    show _ = _
    unfold leafV
    rw [if_neg (by omega), if_pos (by omega)]
    simp only [rawV, rawLeaf, D.base, hk0]
    have : (if (d.bits % 2 == 1) = true then (1 : Int) else 0) = d.bits % 2 := by
      by_cases e : d.bits % 2 = 1
      · simp [e]
      · simp [e]; omega
    rw [this]
  have HKE := Lib.hid hk0
  unfold aggD
  rw [hk0]
  clear hk0
  go_enter Tryz.func40, Tryz.ntmps40
  go_wp2_with fail
  refine (great_any _ _).mono ?_
  rintro e w1 ⟨rfl, rfl⟩
  rw [show greatK 1 = false from rfl]
  go_wp2_with fail
  obtain ⟨hk, hb, hi, ht, hx, hh⟩ := HK.out
  refine bodyPost_ret (v := .agg #[.int .i64 1, .string d.type, .int .u64 (d.bits % 2), .int .u64 (0), .string ⟨#[]⟩, .slice none 0 0, .slice none 0 0, .int .i64 d.hook]) (by simp [results, Tryz.f40, go_sem]) rfl ?_
  refine ⟨HB.out _ _ _, _, rfl, ?_⟩
  rw [HQ.out]
  exact IsDF.bare (by rw [← HKE.out]; exact hk) (by obtain ⟨h0, h1⟩ := hb; exact ⟨by omega, by omega⟩) U64_0 hh ht cap_0
set_option maxHeartbeats 2000000 in
set_option maxRecDepth 100000 in
theorem in_12 {d : D} {w : World} {v : Value} (h : IsD w v d) (hk0 : d.kind = 12) : Calls Tryz.prog 40 #[v] w (RawPost w (leafV d)) := by
  obtain ⟨a5, c5, a6, c6, rfl, hk, hb, hi, ht, hx, hn, hp⟩ := h.open
  have hh : I64 d.hook := by cases h.rng; assumption
  have HK := Lib.hid (And.intro hk (And.intro hb (And.intro hi (And.intro ht (And.intro hx hh)))))
  have hb0 : 0 ≤ d.bits := hb.1
  have hi0 : 0 ≤ d.imag := hi.1
  have HB : Hid (∀ o o' o'' : Obj, Below w.heap.size w (((w.alloc o).alloc o').alloc o'')) := fun o o' o'' => ((Below.new _).push _).push _
  clear hn hp hk ht hx hh h
  have HQ : Hid (rawV (leafV d) = .mk 12 d.type (d.bits % 4294967296) (0) ⟨#[]⟩ [] [] d.hook) := by
    show _ = _
    unfold leafV
    rw [if_neg (by omega), if_neg (by omega), if_neg (by omega), if_neg (by omega), if_pos (by omega)]
    simp only [rawV, rawLeaf, D.base, hk0]
  have HKE := Lib.hid hk0
  unfold aggD
  rw [hk0]
  clear hk0
  go_enter Tryz.func40, Tryz.ntmps40
  go_wp2_with fail
  refine (whole_any _ _).mono ?_
  rintro e w1 ⟨rfl, rfl⟩
  rw [show inB 2 11 12 = false from rfl]
  go_wp2_with fail
  refine (great_any _ _).mono ?_
  rintro e w1 ⟨rfl, rfl⟩
  rw [show greatK 12 = false from rfl]
  go_wp2_with fail
  obtain ⟨hk, hb, hi, ht, hx, hh⟩ := HK.out
  refine bodyPost_ret (v := .agg #[.int .i64 12, .string d.type, .int .u64 (d.bits % 4294967296), .int .u64 (0), .string ⟨#[]⟩, .slice none 0 0, .slice none 0 0, .int .i64 d.hook]) (by simp [results, Tryz.f40, go_sem]) rfl ?_
  refine ⟨HB.out _ _ _, _, rfl, ?_⟩
  rw [HQ.out]
  exact IsDF.bare (by rw [← HKE.out]; exact hk) (low_rng _) U64_0 hh ht cap_0
set_option maxHeartbeats 2000000 in
set_option maxRecDepth 100000 in
theorem in_13 {d : D} {w : World} {v : Value} (h : IsD w v d) (hk0 : d.kind = 13) : Calls Tryz.prog 40 #[v] w (RawPost w (leafV d)) := by
  obtain ⟨a5, c5, a6, c6, rfl, hk, hb, hi, ht, hx, hn, hp⟩ := h.open
  have hh : I64 d.hook := by cases h.rng; assumption
  have HK := Lib.hid (And.intro hk (And.intro hb (And.intro hi (And.intro ht (And.intro hx hh)))))
  have hb0 : 0 ≤ d.bits := hb.1
  have hi0 : 0 ≤ d.imag := hi.1
  have HB : Hid (∀ o o' o'' : Obj, Below w.heap.size w (((w.alloc o).alloc o').alloc o'')) := fun o o' o'' => ((Below.new _).push _).push _
  clear hn hp hk ht hx hh h
  have HQ : Hid (rawV (leafV d) = .mk 13 d.type (d.bits) (0) ⟨#[]⟩ [] [] d.hook) := by
    show _ = _
    unfold leafV
    rw [if_neg (by omega), if_neg (by omega), if_neg (by omega), if_neg (by omega), if_neg (by omega), if_pos (by omega)]
    simp only [rawV, rawLeaf, D.base, hk0]
  have HKE := Lib.hid hk0
  unfold aggD
  rw [hk0]
  clear hk0
  go_enter Tryz.func40, Tryz.ntmps40
  go_wp2_with fail
  refine (whole_any _ _).mono ?_
  rintro e w1 ⟨rfl, rfl⟩
  rw [show inB 2 11 13 = false from rfl]
  go_wp2_with fail
  refine (great_any _ _).mono ?_
  rintro e w1 ⟨rfl, rfl⟩
  rw [show greatK 13 = false from rfl]
  go_wp2_with fail
  obtain ⟨hk, hb, hi, ht, hx, hh⟩ := HK.out
  refine bodyPost_ret (v := .agg #[.int .i64 13, .string d.type, .int .u64 (d.bits), .int .u64 (0), .string ⟨#[]⟩, .slice none 0 0, .slice none 0 0, .int .i64 d.hook]) (by simp [results, Tryz.f40, go_sem]) rfl ?_
  refine ⟨HB.out _ _ _, _, rfl, ?_⟩
  rw [HQ.out]
  exact IsDF.bare (by rw [← HKE.out]; exact hk) hb U64_0 hh ht cap_0
set_option maxHeartbeats 2000000 in
set_option maxRecDepth 100000 in
theorem in_14 {d : D} {w : World} {v : Value} (h : IsD w v d) (hk0 : d.kind = 14) : Calls Tryz.prog 40 #[v] w (RawPost w (leafV d)) := by
  obtain ⟨a5, c5, a6, c6, rfl, hk, hb, hi, ht, hx, hn, hp⟩ := h.open
  have hh : I64 d.hook := by cases h.rng; assumption
  have HK := Lib.hid (And.intro hk (And.intro hb (And.intro hi (And.intro ht (And.intro hx hh)))))
  have hb0 : 0 ≤ d.bits := hb.1
  have hi0 : 0 ≤ d.imag := hi.1
  have HB : Hid (∀ o o' o'' : Obj, Below w.heap.size w (((w.alloc o).alloc o').alloc o'')) := fun o o' o'' => ((Below.new _).push _).push _
  clear hn hp hk ht hx hh h
  have HQ : Hid (rawV (leafV d) = .mk 14 d.type (d.bits % 4294967296) (d.imag % 4294967296) ⟨#[]⟩ [] [] d.hook) := by
    show _ = _
    unfold leafV
    rw [if_neg (by omega), if_neg (by omega), if_neg (by omega), if_neg (by omega), if_neg (by omega), if_neg (by omega), if_pos (by omega)]
    simp only [rawV, rawLeaf, D.base, hk0]
  have HKE := Lib.hid hk0
  unfold aggD
  rw [hk0]
  clear hk0
  go_enter Tryz.func40, Tryz.ntmps40
  go_wp2_with fail
  refine (whole_any _ _).mono ?_
  rintro e w1 ⟨rfl, rfl⟩
  rw [show inB 2 11 14 = false from rfl]
  go_wp2_with fail
  refine (great_any _ _).mono ?_
  rintro e w1 ⟨rfl, rfl⟩
  rw [show greatK 14 = false from rfl]
  go_wp2_with fail
  obtain ⟨hk, hb, hi, ht, hx, hh⟩ := HK.out
  refine bodyPost_ret (v := .agg #[.int .i64 14, .string d.type, .int .u64 (d.bits % 4294967296), .int .u64 (d.imag % 4294967296), .string ⟨#[]⟩, .slice none 0 0, .slice none 0 0, .int .i64 d.hook]) (by simp [results, Tryz.f40, go_sem]) rfl ?_
  refine ⟨HB.out _ _ _, _, rfl, ?_⟩
  rw [HQ.out]
  exact IsDF.bare (by rw [← HKE.out]; exact hk) (low_rng _) (low_rng _) hh ht cap_0
set_option maxHeartbeats 2000000 in
set_option maxRecDepth 100000 in
theorem in_15 {d : D} {w : World} {v : Value} (h : IsD w v d) (hk0 : d.kind = 15) : Calls Tryz.prog 40 #[v] w (RawPost w (leafV d)) := by
  obtain ⟨a5, c5, a6, c6, rfl, hk, hb, hi, ht, hx, hn, hp⟩ := h.open
  have hh : I64 d.hook := by cases h.rng; assumption
  have HK := Lib.hid (And.intro hk (And.intro hb (And.intro hi (And.intro ht (And.intro hx hh)))))
  have hb0 : 0 ≤ d.bits := hb.1
  have hi0 : 0 ≤ d.imag := hi.1
  have HB : Hid (∀ o o' o'' : Obj, Below w.heap.size w (((w.alloc o).alloc o').alloc o'')) := fun o o' o'' => ((Below.new _).push _).push _
  clear hn hp hk ht hx hh h
  have HQ : Hid (rawV (leafV d) = .mk 15 d.type (d.bits) (d.imag) ⟨#[]⟩ [] [] d.hook) := by
    show _ = _
    unfold leafV
    rw [if_neg (by omega), if_neg (by omega), if_neg (by omega), if_neg (by omega), if_neg (by omega), if_neg (by omega), if_neg (by omega), if_pos (by omega)]
    simp only [rawV, rawLeaf, D.base, hk0]
  have HKE := Lib.hid hk0
  unfold aggD
  rw [hk0]
  clear hk0
  go_enter Tryz.func40, Tryz.ntmps40
  go_wp2_with fail
  refine (whole_any _ _).mono ?_
  rintro e w1 ⟨rfl, rfl⟩
  rw [show inB 2 11 15 = false from rfl]
  go_wp2_with fail
  refine (great_any _ _).mono ?_
  rintro e w1 ⟨rfl, rfl⟩
  rw [show greatK 15 = false from rfl]
  go_wp2_with fail
  obtain ⟨hk, hb, hi, ht, hx, hh⟩ := HK.out
  refine bodyPost_ret (v := .agg #[.int .i64 15, .string d.type, .int .u64 (d.bits), .int .u64 (d.imag), .string ⟨#[]⟩, .slice none 0 0, .slice none 0 0, .int .i64 d.hook]) (by simp [results, Tryz.f40, go_sem]) rfl ?_
  refine ⟨HB.out _ _ _, _, rfl, ?_⟩
  rw [HQ.out]
  exact IsDF.bare (by rw [← HKE.out]; exact hk) hb hi hh ht cap_0
set_option maxHeartbeats 2000000 in
set_option maxRecDepth 100000 in
theorem in_16 {d : D} {w : World} {v : Value} (h : IsD w v d) (hk0 : d.kind = 16) : Calls Tryz.prog 40 #[v] w (RawPost w (leafV d)) := by
  obtain ⟨a5, c5, a6, c6, rfl, hk, hb, hi, ht, hx, hn, hp⟩ := h.open
  have hh : I64 d.hook := by cases h.rng; assumption
  have HK := Lib.hid (And.intro hk (And.intro hb (And.intro hi (And.intro ht (And.intro hx hh)))))
  have hb0 : 0 ≤ d.bits := hb.1
  have hi0 : 0 ≤ d.imag := hi.1
  have HB : Hid (∀ o o' o'' : Obj, Below w.heap.size w (((w.alloc o).alloc o').alloc o'')) := fun o o' o'' => ((Below.new _).push _).push _
  clear hn hp hk ht hx hh h
  have HQ : Hid (rawV (leafV d) = .mk 16 d.type (0) (0) d.text [] [] d.hook) := by
    show _ = _
    unfold leafV
    rw [if_neg (by omega), if_neg (by omega), if_neg (by omega), if_neg (by omega), if_neg (by omega), if_neg (by omega), if_neg (by omega), if_neg (by omega), if_pos (by omega)]
    simp only [rawV, rawLeaf, D.base, hk0]
  have HKE := Lib.hid hk0
  unfold aggD
  rw [hk0]
  clear hk0
  go_enter Tryz.func40, Tryz.ntmps40
  go_wp2_with fail
  refine (whole_any _ _).mono ?_
  rintro e w1 ⟨rfl, rfl⟩
  rw [show inB 2 11 16 = false from rfl]
  go_wp2_with fail
  refine (great_any _ _).mono ?_
  rintro e w1 ⟨rfl, rfl⟩
  rw [show greatK 16 = false from rfl]
  go_wp2_with fail
  obtain ⟨hk, hb, hi, ht, hx, hh⟩ := HK.out
  refine bodyPost_ret (v := .agg #[.int .i64 16, .string d.type, .int .u64 (0), .int .u64 (0), .string d.text, .slice none 0 0, .slice none 0 0, .int .i64 d.hook]) (by simp [results, Tryz.f40, go_sem]) rfl ?_
  refine ⟨HB.out _ _ _, _, rfl, ?_⟩
  rw [HQ.out]
  exact IsDF.bare (by rw [← HKE.out]; exact hk) U64_0 U64_0 hh ht hx
set_option maxHeartbeats 2000000 in
set_option maxRecDepth 100000 in
theorem in_17 {d : D} {w : World} {v : Value} (h : IsD w v d) (hk0 : d.kind = 17) : Calls Tryz.prog 40 #[v] w (RawPost w (leafV d)) := by
  obtain ⟨a5, c5, a6, c6, rfl, hk, hb, hi, ht, hx, hn, hp⟩ := h.open
  have hh : I64 d.hook := by cases h.rng; assumption
  have HK := Lib.hid (And.intro hk (And.intro hb (And.intro hi (And.intro ht (And.intro hx hh)))))
  have hb0 : 0 ≤ d.bits := hb.1
  have hi0 : 0 ≤ d.imag := hi.1
  have HB : Hid (∀ o o' o'' : Obj, Below w.heap.size w (((w.alloc o).alloc o').alloc o'')) := fun o o' o'' => ((Below.new _).push _).push _
  clear hn hp hk ht hx hh h
  have HQ : Hid (rawV (leafV d) = .mk 17 d.type (0) (0) d.text [] [] d.hook) := by
    show _ = _
    unfold leafV
    rw [if_neg (by omega), if_neg (by omega), if_neg (by omega), if_neg (by omega), if_neg (by omega), if_neg (by omega), if_neg (by omega), if_neg (by omega), if_neg (by omega)]
    simp only [rawV, rawLeaf, D.base, hk0]
  have HKE := Lib.hid hk0
  unfold aggD
  rw [hk0]
  clear hk0
  go_enter Tryz.func40, Tryz.ntmps40
  go_wp2_with fail
  refine (whole_any _ _).mono ?_
  rintro e w1 ⟨rfl, rfl⟩
  rw [show inB 2 11 17 = false from rfl]
  go_wp2_with fail
  refine (great_any _ _).mono ?_
  rintro e w1 ⟨rfl, rfl⟩
  rw [show greatK 17 = false from rfl]
  go_wp2_with fail
  obtain ⟨hk, hb, hi, ht, hx, hh⟩ := HK.out
  refine bodyPost_ret (v := .agg #[.int .i64 17, .string d.type, .int .u64 (0), .int .u64 (0), .string d.text, .slice none 0 0, .slice none 0 0, .int .i64 d.hook]) (by simp [results, Tryz.f40, go_sem]) rfl ?_
  refine ⟨HB.out _ _ _, _, rfl, ?_⟩
  rw [HQ.out]
  exact IsDF.bare (by rw [← HKE.out]; exact hk) U64_0 U64_0 hh ht hx
set_option maxHeartbeats 2000000 in
set_option maxRecDepth 100000 in
theorem in_0 {d : D} {w : World} {v : Value} (h : IsD w v d) (hk0 : d.kind = 0) : Calls Tryz.prog 40 #[v] w (RawPost w (leafV d)) := by
  obtain ⟨a5, c5, a6, c6, rfl, hk, hb, hi, ht, hx, hn, hp⟩ := h.open
  have hh : I64 d.hook := by cases h.rng; assumption
  have HK := Lib.hid (And.intro hk (And.intro hb (And.intro hi (And.intro ht (And.intro hx hh)))))
  have hb0 : 0 ≤ d.bits := hb.1
  have hi0 : 0 ≤ d.imag := hi.1
  have HB : Hid (∀ o o' o'' : Obj, Below w.heap.size w (((w.alloc o).alloc o').alloc o'')) := fun o o' o'' => ((Below.new _).push _).push _
  clear hn hp hk ht hx hh h
  have HQ : Hid (rawV (leafV d) = zeroD) := by
    show _ = _
    unfold leafV
    rw [if_pos hk0]
    rfl
  unfold aggD
  rw [hk0]
  clear hk0
  go_enter Tryz.func40, Tryz.ntmps40
  go_wp2_with fail
  refine bodyPost_ret (v := .agg #[.int .i64 0, .string ⟨#[]⟩, .int .u64 0, .int .u64 0, .string ⟨#[]⟩, .slice none 0 0, .slice none 0 0, .int .i64 0]) (by simp [results, Tryz.f40, go_sem]) rfl ?_
  refine ⟨HB.out _ _ _, _, rfl, ?_⟩
  rw [HQ.out]
  exact IsDF.bare I64_0 U64_0 U64_0 I64_0 cap_0 cap_0
theorem numK_rng (k x : Int) : U64 (numK k x) := by
  unfold numK
  split
  · exact U64_of _
  · exact unsN_rng _ _
set_option maxHeartbeats 2000000 in
set_option maxRecDepth 100000 in
theorem in_n {d : D} {w : World} {v : Value} (h : IsD w v d) (h2 : 2 ≤ d.kind) (h11 : d.kind ≤ 11) : Calls Tryz.prog 40 #[v] w (RawPost w (leafV d)) := by
  obtain ⟨a5, c5, a6, c6, rfl, hk, hb, hi, ht, hx, hn, hp⟩ := h.open
  have hh : I64 d.hook := by cases h.rng; assumption
  have HK := Lib.hid (And.intro hk (And.intro hb (And.intro hi (And.intro ht (And.intro hx hh)))))
  have hb0 : 0 ≤ d.bits := hb.1
  have hi0 : 0 ≤ d.imag := hi.1
  have HB : Hid (∀ o o' o'' : Obj, Below w.heap.size w (((w.alloc o).alloc o').alloc o'')) := fun o o' o'' => ((Below.new _).push _).push _
  have hk' := hk
  clear hn hp hk ht hx hh h
  have HQ : Hid (rawV (leafV d) = .mk d.kind d.type (numK d.kind d.bits) 0 ⟨#[]⟩ [] [] d.hook) := by
    show _ = _
    unfold leafV numK
    rw [if_neg (by omega), if_neg (by omega)]
    by_cases h6 : d.kind ≤ 6
    · rw [if_pos h6, if_pos h6]
      simp only [rawV, rawLeaf, D.base]
    · rw [if_neg h6, if_pos h11, if_neg h6]
      simp only [rawV, rawLeaf, D.base]
  have HU := Lib.hid hb
  have e0 : (d.kind == 0) = false := by simp; omega
  have e1 : (d.kind == 1) = false := by simp; omega
  have e14 : (d.kind == 14) = false := by simp; omega
  have e15 : (d.kind == 15) = false := by simp; omega
  have HKE : Hid (I64 d.kind) := hk'
  unfold aggD
  go_enter Tryz.func40, Tryz.ntmps40
  go_wp2_with fail
  refine (whole_any _ _).mono ?_
  rintro e w1 ⟨rfl, rfl⟩
  rw [inB_yes h2 h11]
  go_wp2_with fail
  refine (number_any _ h2 h11 _ HU.out _).mono ?_
  rintro e w1 ⟨rfl, rfl⟩
  go_wp2_with fail
  refine (great_any _ _).mono ?_
  rintro e w1 ⟨rfl, rfl⟩
  rw [show greatK d.kind = false by simp [greatK]; omega]
  go_wp2_with fail
  obtain ⟨hk, hb, hi, ht, hx, hh⟩ := HK.out
  refine bodyPost_ret (v := .agg #[.int .i64 d.kind, .string d.type, .int .u64 (numK d.kind d.bits), .int .u64 (0), .string ⟨#[]⟩, .slice none 0 0, .slice none 0 0, .int .i64 d.hook]) (by simp [results, Tryz.f40, go_sem]) rfl ?_
  refine ⟨HB.out _ _ _, _, rfl, ?_⟩
  rw [HQ.out]
  exact IsDF.bare hk (numK_rng _ _) U64_0 hh ht cap_0
/-- In at a descriptor without parts. -/
theorem in_leaf {d : D} {w : World} {v : Value} (h : IsD w v d) (h0 : 0 ≤ d.kind) (h17 : d.kind ≤ 17) : Calls Tryz.prog 40 #[v] w (RawPost w (leafV d)) := by
  by_cases h2 : 2 ≤ d.kind ∧ d.kind ≤ 11
  · exact in_n h h2.1 h2.2
  · have : d.kind = 0 ∨ d.kind = 1 ∨ d.kind = 12 ∨ d.kind = 13 ∨ d.kind = 14 ∨ d.kind = 15 ∨ d.kind = 16 ∨ d.kind = 17 := by omega
    rcases this with e | e | e | e | e | e | e | e
    · exact in_0 h e
    · exact in_1 h e
    · exact in_12 h e
    · exact in_13 h e
    · exact in_14 h e
    · exact in_15 h e
    · exact in_16 h e
    · exact in_17 h e
end Go.Proofs.YtkpfeodffhfejaaGreatDoor
