/- Texts that are filled: buf's Fill and Pad. No condition but the texts' sizes. -/
import Derived.Test.YtnalppgjbllehaaGreatDoorL00
import Derived.Deep.DeepCutAuto
import Derived.Deep.RegionHeld3
import Derived.Lib.Repeat
import Derived.Deep.AppendLies
import Derived.Deep.RegionLaw
import Derived.Laws.AppendOwn
import Derived.Lib.Join
namespace Go.Proofs.YtnalppgjbllehaaGreatDoor
set_option linter.unusedVariables false
set_option linter.unusedSimpArgs false
open Go.RowKit

def runL (c : UInt8) (n : Int) : List UInt8 := List.replicate (max 0 (min n 1000)).toNat c
/-- So many bytes, none or 1000 at most. -/
def fillB (c : UInt8) (n : Int) : ByteArray := ⟨(runL c n).toArray⟩
theorem fill_size (c : UInt8) (n : Int) : (fillB c n).size ≤ 1000 := by
  show (runL c n).toArray.size ≤ 1000
  simp [runL]
  omega
theorem repeat_one (c : UInt8) (k : Nat) : Lib.repeatL [c] k = List.replicate k c := by
  have := Lib.repeatL_replicate c 1 k
  simpa using this
set_option maxHeartbeats 4000000 in
set_option maxRecDepth 1000000 in
theorem fill_any (c : UInt8) (n : Int) (w : World) (h1 : -9223372036854775808 ≤ n) (h2 : n ≤ 9223372036854775807) :
    Calls Tryz.prog 104 #[.int .u8 (c.toNat : Int), .int .i64 n] w (Ret w (.string (fillB c n))) := by
  obtain ⟨m, hm, hm2⟩ : ∃ m : Nat, max 0 (min n 1000) = (m : Int) ∧ m ≤ 1000 := ⟨(max 0 (min n 1000)).toNat, by omega, by omega⟩
  have hf : fillB c n = ⟨(Lib.repeatL [c] m).toArray⟩ := by
    unfold fillB runL
    rw [hm, repeat_one]
    rfl
  rw [hf]
  have HM := Lib.hid hm
  clear hm hf
  go_enter Tryz.func104, Tryz.ntmps104
  have hcv : (convert 42 9 (.slice (some ⟨w.heap.size, 0, none⟩) 1 1)).run Tryz.prog (w.alloc (.cells #[.int .u8 (c.toNat : Int)] 5)) = .ok (.string ⟨#[c]⟩) (w.alloc (.cells #[.int .u8 (c.toNat : Int)] 5)) := by
    have := run_convert_bytes_back (P := Tryz.prog) (w.alloc (.cells #[.int .u8 (c.toNat : Int)] 5)) 42 9 5 ⟨w.heap.size, 0, none⟩ 1 [c] Tryz.underlying42 Tryz.underlying5 Tryz.underlying9 (fun j hj => by
      obtain rfl : j = 0 := by simp at hj; omega
      simp [Addr.add])
    exact this
  go_wp2_with fail
  rw [HM.out]
  refine (Tryz.strings_Repeat ⟨#[c]⟩ m _ (by omega) (by show 1 * m ≤ _; omega)).mono ?_
  rintro e w1 ⟨rfl, hB⟩
  have HB := Lib.hid ((Below.new (w := w) (.cells #[.int .u8 (c.toNat : Int)] 5)).next hB)
  clear hB hcv
  go_wp2_with fail
  go_ret
  exact ⟨rfl, HB.out⟩
/-- The flags, the width, the precision and the verb. -/
structure SpecD where
  plus : Bool
  minus : Bool
  sharp : Bool
  space : Bool
  zero : Bool
  wid : Int
  prec : Int
  verb : Int
structure SpecD.Rng (f : SpecD) : Prop where
  w1 : -9223372036854775808 ≤ f.wid
  w2 : f.wid ≤ 9223372036854775807
  p1 : -9223372036854775808 ≤ f.prec
  p2 : f.prec ≤ 9223372036854775807
def padN (s : ByteArray) (f : SpecD) : Int := max 0 (min f.wid 1000) - (Lib.runeCount s : Int)
/-- A text in its width. -/
def padB (s : ByteArray) (f : SpecD) : ByteArray :=
  if padN s f ≤ 0 then s else if f.minus then s ++ fillB 32 (padN s f) else if f.zero then fillB 48 (padN s f) ++ s else fillB 32 (padN s f) ++ s
theorem cell_of_heap' {w : World} {b : Nat} {cs : Array Value} {T : TypeId} {fr : Nat × Nat} (hb : w.heap[b]? = some (.cells cs T fr)) (j : Nat) : w.cell? ⟨b, j, none⟩ = cs[j]? := by
  simp [World.cell?, hb]
theorem padN_le (s : ByteArray) (f : SpecD) (hs : s.size ≤ 140737488355328) : -140737488355328 ≤ padN s f ∧ padN s f ≤ 1000 := by
  have := Lib.runeCount_le s
  unfold padN
  omega
theorem fill32 (n : Int) (w : World) (h1 : -140737488355328 ≤ n) (h2 : n ≤ 1000) :
    Calls Tryz.prog 104 #[.int .u8 32, .int .i64 n] w (Ret w (.string (fillB 32 n))) := fill_any 32 n w (by omega) (by omega)
theorem fill48 (n : Int) (w : World) (h1 : -140737488355328 ≤ n) (h2 : n ≤ 1000) :
    Calls Tryz.prog 104 #[.int .u8 48, .int .i64 n] w (Ret w (.string (fillB 48 n))) := fill_any 48 n w (by omega) (by omega)
set_option maxHeartbeats 4000000 in
set_option maxRecDepth 1000000 in
theorem pad_any (s : ByteArray) (f : SpecD) (w : World) (hs : s.size ≤ 140737488355328) (hf : f.Rng) :
    Calls Tryz.prog 80 #[.string s, .agg #[.bool f.plus, .bool f.minus, .bool f.sharp, .bool f.space, .bool f.zero, .int .i64 f.wid, .int .i64 f.prec, .int .i32 f.verb]] w (Ret w (.string (padB s f))) := by
  obtain ⟨w1, w2, _, _⟩ := hf
  have HL := Lib.hid (padN_le s f hs)
  obtain ⟨n, hn⟩ : ∃ n, padN s f = n := ⟨_, rfl⟩
  have hp : padB s f = if n ≤ 0 then s else if f.minus then s ++ fillB 32 n else if f.zero then fillB 48 n ++ s else fillB 32 n ++ s := by rw [← hn]; rfl
  obtain ⟨r, hr⟩ : ∃ r, padB s f = r := ⟨_, rfl⟩
  rw [hr] at hp ⊢
  have HR := Lib.hid hp
  clear hr
  rw [hn] at HL
  have HN : Hid (max 0 (min f.wid 1000) - (Lib.runeCount s : Int) = n) := hn
  clear hp hn
  obtain ⟨mi, hmi⟩ : ∃ b, f.minus = b := ⟨_, rfl⟩
  obtain ⟨ze, hze⟩ : ∃ b, f.zero = b := ⟨_, rfl⟩
  rw [hmi, hze] at HR ⊢
  clear hmi hze
  have hz1 : s.size + (fillB 32 n).size ≤ 9223372036854775807 := by have := fill_size 32 n; omega
  have hz2 : (fillB 48 n).size + s.size ≤ 9223372036854775807 := by have := fill_size 48 n; omega
  have hz3 : (fillB 32 n).size + s.size ≤ 9223372036854775807 := by have := fill_size 32 n; omega
  have hrc : (Lib.runeCount s : Int) ≤ 140737488355328 := by have := Lib.runeCount_le s; omega
  go_enter Tryz.func80, Tryz.ntmps80
  go_upto_region 1 with fail
  have HB1 := Lib.hid (Below.new (w := w) (.cells #[.bool f.plus, .bool mi, .bool f.sharp, .bool f.space, .bool ze, .int .i64 f.wid, .int .i64 f.prec, .int .i32 f.verb] 61))
  have hblk := cell_of_heap' (heap_alloc_new w (.cells #[.bool f.plus, .bool mi, .bool f.sharp, .bool f.space, .bool ze, .int .i64 f.wid, .int .i64 f.prec, .int .i32 f.verb] 61))
  generalize w.alloc (.cells #[.bool f.plus, .bool mi, .bool f.sharp, .bool f.space, .bool ze, .int .i64 f.wid, .int .i64 f.prec, .int .i32 f.verb] 61) = W1 at HB1 hblk ⊢
  have K : W1.cell? ⟨w.heap.size, 1, none⟩ = some (.bool mi) ∧ W1.cell? ⟨w.heap.size, 4, none⟩ = some (.bool ze) ∧ W1.cell? ⟨w.heap.size, 5, none⟩ = some (.int .i64 f.wid) := ⟨hblk 1, hblk 4, hblk 5⟩
  clear hblk
  have e1 : IntKind.i64.wrap (max 0 (min f.wid 1000) - (Lib.runeCount s : Int)) = n := by
    rw [IntKind.wrap_i64] <;> first | exact HN.out | (have := HN.out; have := HL.out; omega)
  have HBW : Below W1.heap.size W1 W1.drew := (Below.refl _ _).drew
  go_region_held3 (fun w' => w'.cell? ⟨w.heap.size, 1, none⟩ = some (.bool mi) ∧ w'.cell? ⟨w.heap.size, 4, none⟩ = some (.bool ze) ∧ w'.cell? ⟨w.heap.size, 5, none⟩ = some (.int .i64 f.wid)) (exact K)
    ((go_at_call 103; (with_reducible refine (count_any s _ hs).mono ?_); rintro e wa ⟨rfl, hbN⟩; have K := (show wa.cell? ⟨w.heap.size, 1, none⟩ = some (.bool mi) ∧ wa.cell? ⟨w.heap.size, 4, none⟩ = some (.bool ze) ∧ wa.cell? ⟨w.heap.size, 5, none⟩ = some (.int .i64 f.wid) from ⟨cell_below hbN K.1, cell_below hbN K.2.1, cell_below hbN K.2.2⟩); have HBW := HBW.next hbN))
  all_goals
    obtain ⟨k1, k4, k5⟩ := K
    obtain ⟨h1, h2⟩ := HL.out
    have HBF := Lib.hid (HB1.out.next HBW)
    clear hbN
    by_cases hn : n ≤ 0
    · go_wp2_with fail
      go_ret
      exact ⟨by rw [HR.out, if_pos hn]; rfl, HBF.out⟩
    · cases mi with
      | true =>
        go_wp2_with fail
        refine (fill32 n _ h1 h2).mono ?_
        rintro e wb ⟨rfl, hb⟩
        have HBG := Lib.hid (HBF.out.next hb)
        clear hb
        go_wp2_with fail
        go_ret
        exact ⟨by rw [HR.out, if_neg (by omega)]; rfl, HBG.out⟩
      | false =>
        cases ze with
        | true =>
          go_wp2_with fail
          refine (fill48 n _ h1 h2).mono ?_
          rintro e wb ⟨rfl, hb⟩
          have HBG := Lib.hid (HBF.out.next hb)
          clear hb
          go_wp2_with fail
          go_ret
          exact ⟨by rw [HR.out, if_neg (by omega)]; rfl, HBG.out⟩
        | false =>
          go_wp2_with fail
          refine (fill32 n _ h1 h2).mono ?_
          rintro e wb ⟨rfl, hb⟩
          have HBG := Lib.hid (HBF.out.next hb)
          clear hb
          go_wp2_with fail
          go_ret
          exact ⟨by rw [HR.out, if_neg (by omega)]; rfl, HBG.out⟩
end Go.Proofs.YtnalppgjbllehaaGreatDoor

/- The texts that stand where a value may not be printed: bad. No condition but the texts' sizes. -/
namespace Go.Proofs.YtnalppgjbllehaaGreatDoor
set_option linter.unusedVariables false
set_option linter.unusedSimpArgs false
open Go.RowKit

def joinB (xs : List ByteArray) (sep : ByteArray) : ByteArray := ⟨(Lib.join (xs.map (·.data.toList)) sep.data.toList).toArray⟩
def insideB (vb : ByteArray) (xs : List ByteArray) : ByteArray := ⟨#[37, 33]⟩ ++ vb ++ ⟨#[40]⟩ ++ joinB xs ⟨#[]⟩ ++ ⟨#[41]⟩
theorem insideB_size (vb : ByteArray) (xs : List ByteArray) : (insideB vb xs).size = vb.size + (joinB xs ⟨#[]⟩).size + 4 := by
  unfold insideB
  have e1 : (⟨#[37, 33]⟩ : ByteArray).size = 2 := rfl
  have e2 : (⟨#[40]⟩ : ByteArray).size = 1 := rfl
  have e3 : (⟨#[41]⟩ : ByteArray).size = 1 := rfl
  simp only [ByteArray.size_append, e1, e2, e3]
  omega
set_option maxHeartbeats 4000000 in
set_option maxRecDepth 1000000 in
theorem inside_any (vb : ByteArray) (bk c : Nat) (xs : List ByteArray) (w : World) (hcells : ∀ (j : Nat) x, xs[j]? = some x → w.cell? ⟨bk, 0 + j, none⟩ = some (.string x)) (hbk : bk < w.heap.size) (hN : xs.length ≤ 1000000) (hcap : xs.length ≤ c)
    (h1 : vb.size ≤ 1000000) (h2 : (joinB xs ⟨#[]⟩).size ≤ 140737488355328) :
    Calls Tryz.prog 12 #[.string vb, .slice (some ⟨bk, 0, none⟩) xs.length c] w (Ret w (.string (insideB vb xs))) := by
  have HC := Lib.hid hcells
  have H2 := Lib.hid h2
  obtain ⟨J, hJ⟩ : ∃ J, joinB xs ⟨#[]⟩ = J := ⟨_, rfl⟩
  have hr : insideB vb xs = ⟨#[37, 33]⟩ ++ vb ++ ⟨#[40]⟩ ++ J ++ ⟨#[41]⟩ := by unfold insideB; rw [hJ]
  rw [hr]
  have HJ : Hid (Calls Tryz.prog 17 #[.slice (some ⟨bk, 0, none⟩) xs.length c, .string ⟨#[]⟩] w (Ret w (.string J))) := by
    rw [← hJ]
    exact Tryz.strings_Join bk 0 c xs ⟨#[]⟩ w hcells hbk (by omega) hcap h2
  rw [hJ] at h2
  clear hr hJ hcells H2
  have e1 : (⟨#[37, 33]⟩ : ByteArray).size = 2 := rfl
  have e2 : (⟨#[40]⟩ : ByteArray).size = 1 := rfl
  have e3 : (⟨#[41]⟩ : ByteArray).size = 1 := rfl
  have s1 : (⟨#[37, 33]⟩ : ByteArray).size + vb.size ≤ 9223372036854775807 := by omega
  have s2 : (⟨#[37, 33]⟩ ++ vb : ByteArray).size + (⟨#[40]⟩ : ByteArray).size ≤ 9223372036854775807 := by rw [ByteArray.size_append]; omega
  have s3 : (⟨#[37, 33]⟩ ++ vb ++ ⟨#[40]⟩ : ByteArray).size + J.size ≤ 9223372036854775807 := by rw [ByteArray.size_append, ByteArray.size_append]; omega
  have s4 : (⟨#[37, 33]⟩ ++ vb ++ ⟨#[40]⟩ ++ J : ByteArray).size + (⟨#[41]⟩ : ByteArray).size ≤ 9223372036854775807 := by rw [ByteArray.size_append, ByteArray.size_append, ByteArray.size_append]; omega
  clear e1 e2 e3
  go_enter Tryz.func12, Tryz.ntmps12
  go_wp2_with fail
  refine HJ.out.mono ?_
  rintro e w1 ⟨rfl, hB⟩
  have HB := Lib.hid hB
  clear hB
  go_wp2_with fail
  go_ret
  exact ⟨rfl, HB.out⟩
/-BAD-/
theorem one_cells (w : World) (x : ByteArray) (T : TypeId) : ∀ (j : Nat) y, [x][j]? = some y → (w.alloc (.cells #[.string x] T)).cell? ⟨w.heap.size, 0 + j, none⟩ = some (.string y) := by
  intro j y h
  rw [cell_of_heap' (heap_alloc_new w _)]
  match j, h with
  | 0, h => simp at h ⊢; exact h
  | j + 1, h => simp at h
theorem two_cells (w : World) (x z : ByteArray) (T : TypeId) : ∀ (j : Nat) y, [x, z][j]? = some y → (w.alloc (.cells #[.string x, .string z] T)).cell? ⟨w.heap.size, 0 + j, none⟩ = some (.string y) := by
  intro j y h
  rw [cell_of_heap' (heap_alloc_new w _)]
  match j, h with
  | 0, h => simp at h ⊢; exact h
  | 1, h => simp at h ⊢; exact h
  | j + 2, h => simp at h
theorem vinfo9 : (Tryz.prog.info? 9).map (fun i => (i.zero, i.size, i.bytes)) = some (some (.string ⟨#[]⟩), 1, 16) := by kernel_rfl
def badDepthB : ByteArray := insideB ⟨#[]⟩ [⟨#[68, 69, 80, 84, 72]⟩]
set_option maxRecDepth 1000000 in
theorem badDepth_any (w : World) : Calls Tryz.prog 7 #[] w (Ret w (.string badDepthB)) := by
  go_enter Tryz.func7, Tryz.ntmps7
  go_wp2_with fail
  refine (inside_any ⟨#[]⟩ w.heap.size 1 [⟨#[68, 69, 80, 84, 72]⟩] _ (one_cells w _ _) (by simp) (by simp) (Nat.le_refl _) (by decide) (by decide)).mono ?_
  rintro e w1 ⟨rfl, hB⟩
  have HB := Lib.hid ((Below.new (w := w) (.cells #[.string ⟨#[68, 69, 80, 84, 72]⟩] 9)).next hB)
  clear hB
  go_wp2_with fail
  go_ret
  exact ⟨rfl, HB.out⟩
def badOpenB : ByteArray := insideB ⟨#[]⟩ [⟨#[78, 79, 86, 69, 82, 66]⟩]
set_option maxRecDepth 1000000 in
theorem badOpen_any (w : World) : Calls Tryz.prog 44 #[] w (Ret w (.string badOpenB)) := by
  go_enter Tryz.func44, Tryz.ntmps44
  go_wp2_with fail
  refine (inside_any ⟨#[]⟩ w.heap.size 1 [⟨#[78, 79, 86, 69, 82, 66]⟩] _ (one_cells w _ _) (by simp) (by simp) (Nat.le_refl _) (by decide) (by decide)).mono ?_
  rintro e w1 ⟨rfl, hB⟩
  have HB := Lib.hid ((Below.new (w := w) (.cells #[.string ⟨#[78, 79, 86, 69, 82, 66]⟩] 9)).next hB)
  clear hB
  go_wp2_with fail
  go_ret
  exact ⟨rfl, HB.out⟩
def badWidthB : ByteArray := insideB ⟨#[]⟩ [⟨#[66, 65, 68, 87, 73, 68, 84, 72]⟩]
set_option maxRecDepth 1000000 in
theorem badWidth_any (w : World) : Calls Tryz.prog 46 #[] w (Ret w (.string badWidthB)) := by
  go_enter Tryz.func46, Tryz.ntmps46
  go_wp2_with fail
  refine (inside_any ⟨#[]⟩ w.heap.size 1 [⟨#[66, 65, 68, 87, 73, 68, 84, 72]⟩] _ (one_cells w _ _) (by simp) (by simp) (Nat.le_refl _) (by decide) (by decide)).mono ?_
  rintro e w1 ⟨rfl, hB⟩
  have HB := Lib.hid ((Below.new (w := w) (.cells #[.string ⟨#[66, 65, 68, 87, 73, 68, 84, 72]⟩] 9)).next hB)
  clear hB
  go_wp2_with fail
  go_ret
  exact ⟨rfl, HB.out⟩
def badPrecB : ByteArray := insideB ⟨#[]⟩ [⟨#[66, 65, 68, 80, 82, 69, 67]⟩]
set_option maxRecDepth 1000000 in
theorem badPrec_any (w : World) : Calls Tryz.prog 47 #[] w (Ret w (.string badPrecB)) := by
  go_enter Tryz.func47, Tryz.ntmps47
  go_wp2_with fail
  refine (inside_any ⟨#[]⟩ w.heap.size 1 [⟨#[66, 65, 68, 80, 82, 69, 67]⟩] _ (one_cells w _ _) (by simp) (by simp) (Nat.le_refl _) (by decide) (by decide)).mono ?_
  rintro e w1 ⟨rfl, hB⟩
  have HB := Lib.hid ((Below.new (w := w) (.cells #[.string ⟨#[66, 65, 68, 80, 82, 69, 67]⟩] 9)).next hB)
  clear hB
  go_wp2_with fail
  go_ret
  exact ⟨rfl, HB.out⟩
end Go.Proofs.YtnalppgjbllehaaGreatDoor
