/- Names and types: the functions Named and Typed of the program and of the reference. No condition. -/
import Derived.Test.YtnalppgjbllehaaGreatDoorL11
import Derived.Laws.BytesString
namespace Go.Proofs.YtnalppgjbllehaaGreatDoor
set_option linter.unusedVariables false
set_option maxRecDepth 1000000
open Go.RowKit

/-- A text's bytes in new memory. -/
theorem bytes_ofV (s : ByteArray) (w : World) : ∃ W c, (convert 9 42 (.string s)).run Tryz.prog w = .ok (.slice (some ⟨w.heap.size, 0, none⟩) s.size c) W ∧ Below w.heap.size w W ∧
    ∀ i (h : i < s.data.toList.length), W.cell? ⟨w.heap.size, i, none⟩ = some (.int .u8 (s.data.toList[i].toNat : Int)) := by
  refine ⟨_, _, run_bytes_of_string w 9 42 5 s Tryz.underlying9 Tryz.underlying42 Tryz.underlying5, ?_, ?_⟩
  · exact (Below.refl _ w).drew.alloc (Nat.le_refl _) _
  · intro i hi
    have e : ∀ (C : Array Value) (t : TypeId) (fr : Nat × Nat), (w.drew.alloc (.cells C t fr)).cell? ⟨w.heap.size, i, none⟩ = C[i]? := fun C t fr => World.cell?_alloc_mark w.drew C t fr i
    rw [e, bytesRow_at s _ i (by simpa using hi)]
    simp

/-- A byte of a type's name. -/
def typeByte (c : UInt8) : Bool := decide (33 ≤ c.toNat ∧ c.toNat ≤ 126)
def typedB (s : ByteArray) : Bool := s.data.toList.all typeByte && decide (s.size ≤ 32)

theorem all_drop {α : Type} (p : α → Bool) {l : List α} {i : Nat} (h : i < l.length) : (l.drop i).all p = (p l[i] && (l.drop (i + 1)).all p) := by rw [drop_cons h, List.all_cons]
theorem ret_bool {a b : Bool} (h : a = b) : Ending.returned (.bool a) = .returned (.bool b) := by rw [h]

set_option maxHeartbeats 1000000 in
theorem typed_any (s : ByteArray) (hs : s.size ≤ cap47) (w : World) : Calls Tryz.prog 62 #[.string s] w fun e w' => e = .returned (.bool (typedB s)) ∧ Below w.heap.size w w' := by
  unfold cap47 at hs
  obtain ⟨W, c, hconv, hB, hcell⟩ := bytes_ofV s w
  have hlen : s.data.toList.length = s.size := by simp
  have HB := Lib.hid hB
  have HC := Lib.hid hcell
  have HLen := Lib.hid hlen
  have HT : Hid (typedB s = (s.data.toList.all typeByte && decide (s.size ≤ 32))) := rfl
  obtain ⟨l, hl⟩ : ∃ l, l = s.data.toList := ⟨_, rfl⟩
  rw [← hl] at HC HLen HT
  clear hB hcell hlen hl
  go_enter Tryz.func62, Tryz.ntmps62
  go_wp2_with fail
  go_loopw [8] (fun k wr => ∃ i : Nat, i ≤ s.size ∧ k = .int .i64 i ∧ Hid (l.all typeByte = (l.drop i).all typeByte) ∧ wr = W) (fun k _ => s.size - (intOf k).toNat)
  case atStart => exact ⟨0, by omega, rfl, rfl, rfl⟩
  case round =>
    obtain ⟨i, hi, rfl, HRec, rfl⟩ := hrel
    by_cases hin : i < s.size
    · have hil : i < l.length := by have := HLen.out; omega
      have k0 := HC.out i hil
      have hrc := HRec.out
      rw [all_drop _ hil] at hrc
      have HRec2 := Lib.hid hrc
      have hb : 0 ≤ (l[i].toNat : Int) ∧ (l[i].toNat : Int) ≤ 255 := ⟨by omega, by have := l[i].toNat_lt; omega⟩
      obtain ⟨hb0, hb1⟩ := hb
      have HG : Hid (typeByte l[i] = decide (33 ≤ l[i].toNat ∧ l[i].toNat ≤ 126)) := rfl
      obtain ⟨x, hx⟩ : ∃ x, x = l[i].toNat := ⟨_, rfl⟩
      rw [← hx] at k0 hb0 hb1 HG
      clear hrc hx
      by_cases h1 : x < 33
      · have h1' : (x : Int) < 33 := by omega
        go_wp2_with fail
        go_ret
        refine ⟨ret_bool ?_, HB.out⟩
        rw [HT.out, HRec2.out, HG.out]
        simp; omega
      · by_cases h2 : 126 < x
        · have h1' : ¬ (x : Int) < 33 := by omega
          have h2' : decide ((126 : Int) < (x : Int)) = true := by simp; omega
          have h3' : decide ((x : Int) < 33) = false := by simp; omega
          go_wp2_with fail
          go_ret
          refine ⟨ret_bool ?_, HB.out⟩
          rw [HT.out, HRec2.out, HG.out]
          simp; omega
        · have h2' : decide ((126 : Int) < (x : Int)) = false := by simp; omega
          have h3' : decide ((x : Int) < 33) = false := by simp; omega
          go_wp2_with fail
          go_roundw
          case rel => exact ⟨i + 1, by omega, by go_num, by show _ = _; rw [HRec2.out, HG.out]; simp; omega, by first | trivial | rfl⟩
          case measure => simp [intOf]; omega
    · go_wp2_with fail
      go_ret
      refine ⟨ret_bool ?_, HB.out⟩
      rw [HT.out, HRec.out, List.drop_of_length_le (by have := HLen.out; omega)]
      simp
      omega

/-- A letter, or _; a digit. -/
def letterN (c : Nat) : Bool := decide (c = 95 ∨ (97 ≤ c ∧ c ≤ 122) ∨ (65 ≤ c ∧ c ≤ 90))
def digitN (c : Nat) : Bool := decide (48 ≤ c ∧ c ≤ 57)
def okAt (i c : Nat) : Bool := letterN c || (digitN c && decide (i ≠ 0))
def okAll : List UInt8 → Nat → Bool
  | [], _ => true
  | c :: l, i => okAt i c.toNat && okAll l (i + 1)
def namedB (s : ByteArray) : Bool := okAll s.data.toList 0 && decide (1 ≤ s.size) && decide (s.size ≤ 32)
theorem okAll_drop {l : List UInt8} {i : Nat} (h : i < l.length) : okAll (l.drop i) i = (okAt i l[i].toNat && okAll (l.drop (i + 1)) (i + 1)) := by rw [drop_cons h, okAll]
theorem classes (x : Nat) (h : x ≤ 255) : (x = 95 ∨ (97 ≤ x ∧ x ≤ 122) ∨ (65 ≤ x ∧ x ≤ 90)) ∨ (48 ≤ x ∧ x ≤ 57) ∨ (x < 48 ∨ (57 < x ∧ x < 65) ∨ (90 < x ∧ x < 95) ∨ x = 96 ∨ 122 < x) := by omega

set_option maxRecDepth 100000 in
set_option maxHeartbeats 2000000 in
theorem named_any (s : ByteArray) (hs : s.size ≤ cap47) (w : World) : Calls Tryz.prog 65 #[.string s] w fun e w' => e = .returned (.bool (namedB s)) ∧ Below w.heap.size w w' := by
  unfold cap47 at hs
  obtain ⟨W, c, hconv, hB, hcell⟩ := bytes_ofV s w
  have hlen : s.data.toList.length = s.size := by simp
  have HB := Lib.hid hB
  have HC := Lib.hid hcell
  have HLen := Lib.hid hlen
  have HT : Hid (namedB s = (okAll s.data.toList 0 && decide (1 ≤ s.size) && decide (s.size ≤ 32))) := rfl
  obtain ⟨l, hl⟩ : ∃ l, l = s.data.toList := ⟨_, rfl⟩
  rw [← hl] at HC HLen HT
  clear hB hcell hlen hl
  go_enter Tryz.func65, Tryz.ntmps65
  go_wp2_with fail
  go_loopw [9] (fun k wr => ∃ i : Nat, i ≤ s.size ∧ k = .int .i64 i ∧ Hid (okAll l 0 = okAll (l.drop i) i) ∧ wr = W) (fun k _ => s.size - (intOf k).toNat)
  case atStart => exact ⟨0, by omega, rfl, rfl, rfl⟩
  case round =>
    obtain ⟨i, hi, rfl, HRec, rfl⟩ := hrel
    by_cases hin : i < s.size
    · have hil : i < l.length := by have := HLen.out; omega
      have k0 := HC.out i hil
      have hrc := HRec.out
      rw [okAll_drop hil] at hrc
      have HRec2 := Lib.hid hrc
      have hb1 : l[i].toNat ≤ 255 := by have := l[i].toNat_lt; omega
      obtain ⟨x, hx⟩ : ∃ x, x = l[i].toNat := ⟨_, rfl⟩
      rw [← hx] at k0 hb1 HRec2
      have hb0 : 0 ≤ (x : Int) ∧ (x : Int) ≤ 255 := by omega
      obtain ⟨hb0, hb2⟩ := hb0
      clear hrc hx
      rcases classes x hb1 with hc | hc | hc
      · have ho : Hid (okAt i x = true) := by show _ = _; simp [okAt, letterN]; omega
        have hd : Hid (okAll l 0 = okAll (l.drop (i + 1)) (i + 1)) := by show _ = _; rw [HRec2.out, ho.out]; rfl
        clear HRec HRec2 ho
        rcases hc with rfl | ⟨h1, h2⟩ | ⟨h1, h2⟩
        all_goals
          go_wp2_with fail
          go_roundw
          case rel => exact ⟨i + 1, by omega, by go_num, hd, by first | trivial | rfl⟩
          case measure => simp [intOf]; omega
      · obtain ⟨h1, h2⟩ := hc
        by_cases hi0 : i = 0
        · subst hi0
          have ho : Hid (okAt 0 x = false) := by show _ = _; simp [okAt, letterN]; omega
          have hd : Hid (namedB s = false) := by show _ = _; rw [HT.out, HRec2.out, ho.out]; rfl
          clear HRec HRec2 ho HT
          go_wp2_with fail
          go_ret
          exact ⟨ret_bool hd.out.symm, HB.out⟩
        · have ho : Hid (okAt i x = true) := by show _ = _; simp [okAt, digitN, hi0]; omega
          have hd : Hid (okAll l 0 = okAll (l.drop (i + 1)) (i + 1)) := by show _ = _; rw [HRec2.out, ho.out]; rfl
          have hi1 : ((i : Int) == 0) = false := by simpa using hi0
          clear HRec HRec2 ho
          go_wp2_with fail
          go_roundw
          case rel => exact ⟨i + 1, by omega, by go_num, hd, by first | trivial | rfl⟩
          case measure => simp [intOf]; omega
      · have ho : Hid (okAt i x = false) := by show _ = _; simp [okAt, letterN, digitN]; omega
        have hd : Hid (namedB s = false) := by show _ = _; rw [HT.out, HRec2.out, ho.out]; rfl
        clear HRec HRec2 ho HT
        have e95 : ((x : Int) != 95) = true := by simp; omega
        have e1 : (decide ((x : Int) < 97) || decide (122 < (x : Int))) = true := by simp; omega
        rcases hc with h1 | ⟨h1, h2⟩ | ⟨h1, h2⟩ | rfl | h1
        all_goals
          go_wp2_with fail
          go_ret
          exact ⟨ret_bool hd.out.symm, HB.out⟩
    · have hfin : Hid (namedB s = (decide (1 ≤ s.size) && decide (s.size ≤ 32))) := by
        show _ = _
        rw [HT.out, HRec.out, List.drop_of_length_le (by have := HLen.out; omega)]
        simp [okAll]
      clear HRec HT
      by_cases h1 : 1 ≤ s.size
      · have h1' : (1 : Int) ≤ (s.size : Int) := by omega
        go_wp2_with fail
        go_ret
        have e : decide ((s.size : Int) ≤ 32) = (decide (1 ≤ s.size) && decide (s.size ≤ 32)) := by simp [h1]; omega
        exact ⟨ret_bool (e.trans hfin.out.symm), HB.out⟩
      · have h1' : decide ((1 : Int) ≤ (s.size : Int)) = false := by simp; omega
        go_wp2_with fail
        go_ret
        have e : false = (decide (1 ≤ s.size) && decide (s.size ≤ 32)) := by simp [h1]
        exact ⟨ret_bool (e.trans hfin.out.symm), HB.out⟩
end Go.Proofs.YtnalppgjbllehaaGreatDoor
