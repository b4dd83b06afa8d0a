/- Names and types: the functions Named and Typed of the program and of the reference. No condition. -/
import Derived.Test.YtkpfeodffhfejaaGreatDoorCA02
import Derived.Laws.BytesString
namespace Go.Proofs.YtkpfeodffhfejaaGreatDoor
set_option linter.unusedVariables false
set_option maxRecDepth 1000000
open Go.RowKit

/-- A text's bytes in new memory. -/
theorem bytes_ofV (s : ByteArray) (w : World) : ∃ W c, (convert 9 46 (.string s)).run Tryz.prog w = .ok (.slice (some ⟨w.heap.size, 0, none⟩) s.size c) W ∧ Below w.heap.size w W ∧
    ∀ i (h : i < s.data.toList.length), W.cell? ⟨w.heap.size, i, none⟩ = some (.int .u8 (s.data.toList[i].toNat : Int)) := by
  refine ⟨_, _, run_bytes_of_string w 9 46 5 s Tryz.underlying9 Tryz.underlying46 Tryz.underlying5, ?_, ?_⟩
  · exact (Below.refl _ w).drew.alloc (Nat.le_refl _) _
  · intro i hi
    have e : ∀ (C : Array Value) (t : TypeId) (fr : Nat × Nat), (w.drew.alloc (.cells C t fr)).cell? ⟨w.heap.size, i, none⟩ = C[i]? := fun C t fr => World.cell?_alloc_mark w.drew C t fr i
    rw [e, bytesRow_at s _ i (by simpa using hi)]
    simp

/-- A byte of a type's name. -/
def typeByte (c : UInt8) : Bool := decide (33 ≤ c.toNat ∧ c.toNat ≤ 126)
def typedB (s : ByteArray) : Bool := s.data.toList.all typeByte && decide (s.size ≤ 32)

theorem all_drop {α : Type} (p : α → Bool) {l : List α} {i : Nat} (h : i < l.length) : (l.drop i).all p = (p l[i] && (l.drop (i + 1)).all p) := by rw [drop_cons h, List.all_cons]
theorem ret_bool {a b : Bool} (h : a = b) : Ending.returned (.bool a) = .returned (.bool b) := by rw [h]

set_option maxHeartbeats 1000000 in
theorem typed_any (s : ByteArray) (hs : s.size ≤ cap47) (w : World) : Calls Tryz.prog 51 #[.string s] w fun e w' => e = .returned (.bool (typedB s)) ∧ Below w.heap.size w w' := by
  unfold cap47 at hs
  obtain ⟨W, c, hconv, hB, hcell⟩ := bytes_ofV s w
  have hlen : s.data.toList.length = s.size := by simp
  have HB := Lib.hid hB
  have HC := Lib.hid hcell
  have HLen := Lib.hid hlen
  have HT : Hid (typedB s = (s.data.toList.all typeByte && decide (s.size ≤ 32))) := rfl
  obtain ⟨l, hl⟩ : ∃ l, l = s.data.toList := ⟨_, rfl⟩
  rw [← hl] at HC HLen HT
  clear hB hcell hlen hl
  go_enter Tryz.func51, Tryz.ntmps51
  go_wp2_with fail
  go_loopw [8] (fun k wr => ∃ i : Nat, i ≤ s.size ∧ k = .int .i64 i ∧ Hid (l.all typeByte = (l.drop i).all typeByte) ∧ wr = W) (fun k _ => s.size - (intOf k).toNat)
  case atStart => exact ⟨0, by omega, rfl, rfl, rfl⟩
  case round =>
    obtain ⟨i, hi, rfl, HRec, rfl⟩ := hrel
    by_cases hin : i < s.size
    · have hil : i < l.length := by have := HLen.out; omega
      have k0 := HC.out i hil
      have hrc := HRec.out
      rw [all_drop _ hil] at hrc
      have HRec2 := Lib.hid hrc
      have hb : 0 ≤ (l[i].toNat : Int) ∧ (l[i].toNat : Int) ≤ 255 := ⟨by omega, by have := l[i].toNat_lt; omega⟩
      obtain ⟨hb0, hb1⟩ := hb
      have HG : Hid (typeByte l[i] = decide (33 ≤ l[i].toNat ∧ l[i].toNat ≤ 126)) := rfl
      obtain ⟨x, hx⟩ : ∃ x, x = l[i].toNat := ⟨_, rfl⟩
      rw [← hx] at k0 hb0 hb1 HG
      clear hrc hx
      by_cases h1 : x < 33
      · have h1' : (x : Int) < 33 := by omega
        go_wp2_with fail
        go_ret
        refine ⟨ret_bool ?_, HB.out⟩
        rw [HT.out, HRec2.out, HG.out]
        simp; omega
      · by_cases h2 : 126 < x
        · have h1' : ¬ (x : Int) < 33 := by omega
          have h2' : decide ((126 : Int) < (x : Int)) = true := by simp; omega
          have h3' : decide ((x : Int) < 33) = false := by simp; omega
          go_wp2_with fail
          go_ret
          refine ⟨ret_bool ?_, HB.out⟩
          rw [HT.out, HRec2.out, HG.out]
          simp; omega
        · have h2' : decide ((126 : Int) < (x : Int)) = false := by simp; omega
          have h3' : decide ((x : Int) < 33) = false := by simp; omega
          go_wp2_with fail
          go_roundw
          case rel => exact ⟨i + 1, by omega, by go_num, by show _ = _; rw [HRec2.out, HG.out]; simp; omega, by first | trivial | rfl⟩
          case measure => simp [intOf]; omega
    · go_wp2_with fail
      go_ret
      refine ⟨ret_bool ?_, HB.out⟩
      rw [HT.out, HRec.out, List.drop_of_length_le (by have := HLen.out; omega)]
      simp
      omega

/-- A letter, or _; a digit. -/
def letterN (c : Nat) : Bool := decide (c = 95 ∨ (97 ≤ c ∧ c ≤ 122) ∨ (65 ≤ c ∧ c ≤ 90))
def digitN (c : Nat) : Bool := decide (48 ≤ c ∧ c ≤ 57)
def okAt (i c : Nat) : Bool := letterN c || (digitN c && decide (i ≠ 0))
def okAll : List UInt8 → Nat → Bool
  | [], _ => true
  | c :: l, i => okAt i c.toNat && okAll l (i + 1)
def namedB (s : ByteArray) : Bool := okAll s.data.toList 0 && decide (1 ≤ s.size) && decide (s.size ≤ 32)
theorem okAll_drop {l : List UInt8} {i : Nat} (h : i < l.length) : okAll (l.drop i) i = (okAt i l[i].toNat && okAll (l.drop (i + 1)) (i + 1)) := by rw [drop_cons h, okAll]
theorem classes (x : Nat) (h : x ≤ 255) : (x = 95 ∨ (97 ≤ x ∧ x ≤ 122) ∨ (65 ≤ x ∧ x ≤ 90)) ∨ (48 ≤ x ∧ x ≤ 57) ∨ (x < 48 ∨ (57 < x ∧ x < 65) ∨ (90 < x ∧ x < 95) ∨ x = 96 ∨ 122 < x) := by omega

set_option maxRecDepth 100000 in
set_option maxHeartbeats 2000000 in
theorem named_any (s : ByteArray) (hs : s.size ≤ cap47) (w : World) : Calls Tryz.prog 54 #[.string s] w fun e w' => e = .returned (.bool (namedB s)) ∧ Below w.heap.size w w' := by
  unfold cap47 at hs
  obtain ⟨W, c, hconv, hB, hcell⟩ := bytes_ofV s w
  have hlen : s.data.toList.length = s.size := by simp
  have HB := Lib.hid hB
  have HC := Lib.hid hcell
  have HLen := Lib.hid hlen
  have HT : Hid (namedB s = (okAll s.data.toList 0 && decide (1 ≤ s.size) && decide (s.size ≤ 32))) := rfl
  obtain ⟨l, hl⟩ : ∃ l, l = s.data.toList := ⟨_, rfl⟩
  rw [← hl] at HC HLen HT
  clear hB hcell hlen hl
  go_enter Tryz.func54, Tryz.ntmps54
  go_wp2_with fail
  go_loopw [9] (fun k wr => ∃ i : Nat, i ≤ s.size ∧ k = .int .i64 i ∧ Hid (okAll l 0 = okAll (l.drop i) i) ∧ wr = W) (fun k _ => s.size - (intOf k).toNat)
  case atStart => exact ⟨0, by omega, rfl, rfl, rfl⟩
  case round =>
    obtain ⟨i, hi, rfl, HRec, rfl⟩ := hrel
    by_cases hin : i < s.size
    · have hil : i < l.length := by have := HLen.out; omega
      have k0 := HC.out i hil
      have hrc := HRec.out
      rw [okAll_drop hil] at hrc
      have HRec2 := Lib.hid hrc
      have hb1 : l[i].toNat ≤ 255 := by have := l[i].toNat_lt; omega
      obtain ⟨x, hx⟩ : ∃ x, x = l[i].toNat := ⟨_, rfl⟩
      rw [← hx] at k0 hb1 HRec2
      have hb0 : 0 ≤ (x : Int) ∧ (x : Int) ≤ 255 := by omega
      obtain ⟨hb0, hb2⟩ := hb0
      clear hrc hx
      rcases classes x hb1 with hc | hc | hc
      · have ho : Hid (okAt i x = true) := by show _ = _; simp [okAt, letterN]; omega
        have hd : Hid (okAll l 0 = okAll (l.drop (i + 1)) (i + 1)) := by show _ = _; rw [HRec2.out, ho.out]; rfl
        clear HRec HRec2 ho
        rcases hc with rfl | ⟨h1, h2⟩ | ⟨h1, h2⟩
        all_goals
          go_wp2_with fail
          go_roundw
          case rel => exact ⟨i + 1, by omega, by go_num, hd, by first | trivial | rfl⟩
          case measure => simp [intOf]; omega
      · obtain ⟨h1, h2⟩ := hc
        by_cases hi0 : i = 0
        · subst hi0
          have ho : Hid (okAt 0 x = false) := by show _ = _; simp [okAt, letterN]; omega
          have hd : Hid (namedB s = false) := by show _ = _; rw [HT.out, HRec2.out, ho.out]; rfl
          clear HRec HRec2 ho HT
          go_wp2_with fail
          go_ret
          exact ⟨ret_bool hd.out.symm, HB.out⟩
        · have ho : Hid (okAt i x = true) := by show _ = _; simp [okAt, digitN, hi0]; omega
          have hd : Hid (okAll l 0 = okAll (l.drop (i + 1)) (i + 1)) := by show _ = _; rw [HRec2.out, ho.out]; rfl
          have hi1 : ((i : Int) == 0) = false := by simpa using hi0
          clear HRec HRec2 ho
          go_wp2_with fail
          go_roundw
          case rel => exact ⟨i + 1, by omega, by go_num, hd, by first | trivial | rfl⟩
          case measure => simp [intOf]; omega
      · have ho : Hid (okAt i x = false) := by show _ = _; simp [okAt, letterN, digitN]; omega
        have hd : Hid (namedB s = false) := by show _ = _; rw [HT.out, HRec2.out, ho.out]; rfl
        clear HRec HRec2 ho HT
        have e95 : ((x : Int) != 95) = true := by simp; omega
        have e1 : (decide ((x : Int) < 97) || decide (122 < (x : Int))) = true := by simp; omega
        rcases hc with h1 | ⟨h1, h2⟩ | ⟨h1, h2⟩ | rfl | h1
        all_goals
          go_wp2_with fail
          go_ret
          exact ⟨ret_bool hd.out.symm, HB.out⟩
    · have hfin : Hid (namedB s = (decide (1 ≤ s.size) && decide (s.size ≤ 32))) := by
        show _ = _
        rw [HT.out, HRec.out, List.drop_of_length_le (by have := HLen.out; omega)]
        simp [okAll]
      clear HRec HT
      by_cases h1 : 1 ≤ s.size
      · have h1' : (1 : Int) ≤ (s.size : Int) := by omega
        go_wp2_with fail
        go_ret
        have e : decide ((s.size : Int) ≤ 32) = (decide (1 ≤ s.size) && decide (s.size ≤ 32)) := by simp [h1]; omega
        exact ⟨ret_bool (e.trans hfin.out.symm), HB.out⟩
      · have h1' : decide ((1 : Int) ≤ (s.size : Int)) = false := by simp; omega
        go_wp2_with fail
        go_ret
        have e : false = (decide (1 ≤ s.size) && decide (s.size ≤ 32)) := by simp [h1]
        exact ⟨ret_bool (e.trans hfin.out.symm), HB.out⟩
end Go.Proofs.YtkpfeodffhfejaaGreatDoor

/- The own part of a descriptor's form: the functions key, formed, and the library's IndexFunc and ContainsFunc at texts. No condition but that the argument is a descriptor. -/
namespace Go.Proofs.YtkpfeodffhfejaaGreatDoor
set_option linter.unusedVariables false
set_option maxRecDepth 1000000
open Go.RowKit

/-- May a kind be a key's? -/
def keyK (k : Int) : Bool := decide ((1 ≤ k ∧ k ≤ 11) ∨ k = 16)
/-- Every other one is a key. -/
def keysL : List D → Bool
  | [] => true
  | [x] => keyK x.kind
  | x :: _ :: l => keyK x.kind && keysL l
def formB (d : D) : Bool :=
  (decide (d.kind = 0) || typedB d.type) &&
    (if d.kind = 18 then decide (d.names.length = d.parts.length) && d.names.all namedB
     else if d.kind = 21 then keysL d.parts && decide (d.parts.length % 2 = 0)
     else if d.kind = 22 then decide (d.parts.length ≤ 1) else true)

/-- The box that holds a descriptor that was handed in. -/
structure BoxD (w : World) (b : Nat) (d : D) (a5 : Option Addr) (c5 : Nat) (a6 : Option Addr) (c6 : Nat) : Prop where
  k0 : w.cell? ⟨b, 0, none⟩ = some (.int .i64 d.kind)
  k1 : w.cell? ⟨b, 1, none⟩ = some (.string d.type)
  k2 : w.cell? ⟨b, 2, none⟩ = some (.int .u64 d.bits)
  k3 : w.cell? ⟨b, 3, none⟩ = some (.int .u64 d.imag)
  k4 : w.cell? ⟨b, 4, none⟩ = some (.string d.text)
  k5 : w.cell? ⟨b, 5, none⟩ = some (.slice a5 d.names.length c5)
  k6 : w.cell? ⟨b, 6, none⟩ = some (.slice a6 d.parts.length c6)
  k7 : w.cell? ⟨b, 7, none⟩ = some (.int .i64 d.hook)
def cellsD (d : D) (a5 : Option Addr) (c5 : Nat) (a6 : Option Addr) (c6 : Nat) : Obj :=
  .cells #[.int .i64 d.kind, .string d.type, .int .u64 d.bits, .int .u64 d.imag, .string d.text, .slice a5 d.names.length c5, .slice a6 d.parts.length c6, .int .i64 d.hook] 26
theorem BoxD.of_block {w : World} {b : Nat} {d : D} {a5 : Option Addr} {c5 : Nat} {a6 : Option Addr} {c6 : Nat} (h : w.heap[b]? = some (cellsD d a5 c5 a6 c6)) : BoxD w b d a5 c5 a6 c6 := by
  unfold cellsD at h
  constructor <;> simp [World.cell?, h]
theorem BoxD.later {w w' : World} {b : Nat} {d : D} {a5 : Option Addr} {c5 : Nat} {a6 : Option Addr} {c6 : Nat} (h : BoxD w b d a5 c5 a6 c6) (hb : Below w.heap.size w w') : BoxD w' b d a5 c5 a6 c6 :=
  ⟨cell_below hb h.k0, cell_below hb h.k1, cell_below hb h.k2, cell_below hb h.k3, cell_below hb h.k4, cell_below hb h.k5, cell_below hb h.k6, cell_below hb h.k7⟩
theorem BoxD.new (w : World) (d : D) (a5 : Option Addr) (c5 : Nat) (a6 : Option Addr) (c6 : Nat) : BoxD (w.alloc (cellsD d a5 c5 a6 c6)) w.heap.size d a5 c5 a6 c6 := .of_block (heap_alloc_new w _)

theorem key_any {w : World} {v : Value} {d : D} (h : IsD w v d) : Calls Tryz.prog 55 #[v] w fun e w' => e = .returned (.bool (keyK d.kind)) ∧ Below w.heap.size w w' := by
  have HB := Lib.hid (Below.new (w := w))
  obtain ⟨a5, c5, a6, c6, rfl, hk, hb, hi, ht, hx, hn, hp⟩ := h.open
  clear hp hn hb hi hk ht hx h
  unfold aggD
  by_cases h1 : 1 ≤ d.kind
  · by_cases h2 : d.kind ≤ 11
    · have e : keyK d.kind = true := by simp [keyK]; omega
      rw [e]
      have h3 : decide (d.kind ≤ 11) = true := by simpa using h2
      clear e
      go_enter Tryz.func55, Tryz.ntmps55
      go_wp2
      go_ret
      exact ⟨rfl, HB.out _⟩
    · have h3 : decide (d.kind ≤ 11) = false := by simpa using h2
      have e : keyK d.kind = (d.kind == 16) := by rw [Bool.eq_iff_iff]; simp [keyK]; omega
      rw [e]
      clear e
      go_enter Tryz.func55, Tryz.ntmps55
      go_wp2
      go_ret
      exact ⟨rfl, HB.out _⟩
  · have h3 : decide (1 ≤ d.kind) = false := by simpa using h1
    have e : keyK d.kind = (d.kind == 16) := by rw [Bool.eq_iff_iff]; simp [keyK]; omega
    rw [e]
    clear e
    go_enter Tryz.func55, Tryz.ntmps55
    go_wp2
    go_ret
    exact ⟨rfl, HB.out _⟩

theorem cf54 (c : Array Value) (W : World) : Sem.run Tryz.prog (callFunc 53 c) W = .ok (.enter 53 c) W := by kernel_rfl
theorem notnamed_any (s : ByteArray) (hs : s.size ≤ cap47) (w : World) : Calls Tryz.prog 53 #[.string s] w fun e w' => e = .returned (.bool (!namedB s)) ∧ Below w.heap.size w w' := by
  go_enter Tryz.func53, Tryz.ntmps53
  go_wp2_with fail
  refine (named_any s hs w).mono ?_
  rintro e w1 ⟨rfl, hB⟩
  have HB := Lib.hid hB
  clear hB
  obtain ⟨q, hq⟩ : ∃ q, q = namedB s := ⟨_, rfl⟩
  rw [← hq]
  have HQ := Lib.hid hq
  clear hq
  go_wp2_with fail
  go_ret
  exact ⟨by rw [← HQ.out]; rfl, HB.out⟩

def IdxPost (w : World) (l : List ByteArray) (e : Ending) (w' : World) : Prop :=
  ∃ r : Int, e = .returned (.int .i64 r) ∧ ((0 ≤ r) ↔ l.all namedB = false) ∧ Below w.heap.size w w'
set_option maxHeartbeats 400000 in
theorem index_any {w : World} {a : Option Addr} {c : Nat} {l : List ByteArray} (h : NamesAt w a c l) : Calls Tryz.prog 85 #[.slice a l.length c, .func (.func 53) #[] #[]] w (IdxPost w l) := by
  obtain ⟨h1, h2, b, o, h3, h4, h5⟩ := h
  unfold cap47 at h2
  have HA := Lib.hid h3
  have HC := Lib.hid h4
  have HS := Lib.hid h5
  have hcf := fun c W => cf54 c W
  clear h3 h4 h5
  go_enter Tryz.func85, Tryz.ntmps85
  go_wp2_with fail
  go_loopw [8] (fun k wr => ∃ i : Nat, i ≤ l.length ∧ k = .int .i64 i ∧ Hid (l.all namedB = (l.drop i).all namedB) ∧ Below w.heap.size w wr) (fun k _ => l.length - (intOf k).toNat)
  case atStart => exact ⟨0, by omega, rfl, rfl, Below.refl _ _⟩
  case round =>
    obtain ⟨i, hi, rfl, HRec, hB⟩ := hrel
    have HB := Lib.hid hB
    clear hB
    by_cases hin : i < l.length
    · obtain rfl := HA.out (by omega)
      have k0 := cell_below HB.out (HC.out i hin)
      have hrc := HRec.out
      rw [all_drop _ hin] at hrc
      have HRec2 := Lib.hid hrc
      have HSX := Lib.hid (HS.out l[i] (List.getElem_mem _))
      obtain ⟨x, hx⟩ : ∃ x, x = l[i] := ⟨_, rfl⟩
      rw [← hx] at k0 HRec2 HSX
      clear hrc hx HRec
      go_wp2_with fail
      refine (notnamed_any x HSX.out _).mono ?_
      rintro e w1 ⟨rfl, hB1⟩
      have HB1 := Lib.hid (HB.out.next hB1)
      clear hB1 k0 HB
      cases hq : namedB x
      · have hf : Hid (l.all namedB = false) := by show _ = _; rw [HRec2.out, hq]; rfl
        clear hq HRec2
        go_wp2_with fail
        go_ret
        exact ⟨i, rfl, ⟨fun _ => hf.out, fun _ => by omega⟩, HB1.out⟩
      · have hf : Hid (l.all namedB = (l.drop (i + 1)).all namedB) := by show _ = _; rw [HRec2.out, hq]; rfl
        clear hq HRec2
        go_wp2_with fail
        go_roundw
        case rel => exact ⟨i + 1, by omega, by go_num, hf, HB1.out⟩
        case measure => simp [intOf]; omega
    · have hf : Hid (l.all namedB = true) := by show _ = _; rw [HRec.out, List.drop_of_length_le (by omega)]; rfl
      clear HRec
      go_wp2_with fail
      go_ret
      exact ⟨-1, rfl, ⟨fun h => by omega, fun h => by rw [hf.out] at h; cases h⟩, HB.out⟩
theorem contains_any {w : World} {a : Option Addr} {c : Nat} {l : List ByteArray} (h : NamesAt w a c l) : Calls Tryz.prog 52 #[.slice a l.length c, .func (.func 53) #[] #[]] w fun e w' => e = .returned (.bool (!l.all namedB)) ∧ Below w.heap.size w w' := by
  go_enter Tryz.func52, Tryz.ntmps52
  go_wp2_with fail
  refine (index_any h).mono ?_
  rintro e w1 ⟨r, rfl, hr, hB⟩
  have HB := Lib.hid hB
  have hd : decide (0 ≤ r) = !l.all namedB := by
    by_cases h0 : 0 ≤ r
    · simp [h0, hr.1 h0]
    · have : l.all namedB = true := by
        cases hq : l.all namedB with
        | true => rfl
        | false => exact absurd (hr.2 hq) h0
      simp [h0, this]
  have HD := Lib.hid hd
  clear hB hr hd
  go_wp2_with fail
  go_ret
  exact ⟨ret_bool HD.out, HB.out⟩

theorem keysL_drop {l : List D} {i : Nat} (h : i < l.length) : keysL (l.drop i) = (keyK l[i].kind && keysL (l.drop (i + 2))) := by
  rw [drop_cons h]
  by_cases h2 : i + 1 < l.length
  · rw [drop_cons h2, keysL]
  · rw [List.drop_of_length_le (by omega), List.drop_of_length_le (by omega)]
    simp [keysL]

def FormPost (w : World) (d : D) (e : Ending) (w' : World) : Prop := e = .returned (.bool (formB d)) ∧ Below w.heap.size w w'

set_option maxRecDepth 100000 in
set_option maxHeartbeats 2000000 in
/-- Behind the type's test. -/
theorem formed_any {w : World} {v : Value} {d : D} (h : IsD w v d) : Calls Tryz.prog 35 #[v] w (FormPost w d) := by
  have HD := Lib.hid h
  obtain ⟨a5, c5, a6, c6, rfl, hk, hb, hi, ht, hx, hn, hp⟩ := h.open
  have HN := Lib.hid hn
  have HP := Lib.hid hp
  have HT := Lib.hid ht
  have hpl : d.parts.length ≤ 140737488355328 := by have := hp.1; have := hp.2.1; unfold cap47 at this; omega
  have hnl : d.names.length ≤ 140737488355328 := by have := hn.1; have := hn.2.1; unfold cap47 at this; omega
  have HF : Hid (formB d = ((decide (d.kind = 0) || typedB d.type) &&
    (if d.kind = 18 then decide (d.names.length = d.parts.length) && d.names.all namedB
     else if d.kind = 21 then keysL d.parts && decide (d.parts.length % 2 = 0)
     else if d.kind = 22 then decide (d.parts.length ≤ 1) else true))) := rfl
  clear hp hn hb hi hk ht hx h
  unfold aggD
  have start : d.kind = 0 ∨ ((d.kind != 0) = true ∧ typedB d.type = false) ∨ ((d.kind != 0) = true ∧ typedB d.type = true) := by
    by_cases h0 : d.kind = 0
    · exact .inl h0
    · cases typedB d.type <;> simp [h0]
  rcases start with h0 | ⟨h0, h1⟩ | ⟨h0, h1⟩
  · have hf : Hid (formB d = true) := by show _ = _; rw [HF.out, h0]; simp
    have HB := Lib.hid (Below.new (w := w))
    clear HF
    go_enter Tryz.func35, Tryz.ntmps35
    go_wp2_with fail
    go_ret
    exact ⟨ret_bool hf.out.symm, HB.out _⟩
  · have hf : Hid (formB d = false) := by show _ = _; rw [HF.out, h1]; have : d.kind ≠ 0 := by simpa using h0
                                          simp [this]
    have H1 := Lib.hid h1
    clear HF h1
    go_enter Tryz.func35, Tryz.ntmps35
    go_wp2_with fail
    refine (typed_any d.type HT.out _).mono ?_
    rw [H1.out]
    rintro e w1 ⟨rfl, hB1⟩
    have HB1 := Lib.hid ((Below.new _).next hB1)
    clear hB1
    go_wp2_with fail
    go_ret
    exact ⟨ret_bool hf.out.symm, HB1.out⟩
  · have H1 := Lib.hid h1
    have hk0 : d.kind ≠ 0 := by simpa using h0
    have HF2 : Hid (formB d = (if d.kind = 18 then decide (d.names.length = d.parts.length) && d.names.all namedB
     else if d.kind = 21 then keysL d.parts && decide (d.parts.length % 2 = 0)
     else if d.kind = 22 then decide (d.parts.length ≤ 1) else true)) := by show _ = _; rw [HF.out, h1]; simp
    clear h1 HF hk0
    go_enter Tryz.func35, Tryz.ntmps35
    go_wp2_with fail
    refine (typed_any d.type HT.out _).mono ?_
    rw [H1.out]
    rintro e w1 ⟨rfl, hB1⟩
    have HB1 := Lib.hid ((Below.new _).next hB1)
    have hbox : BoxD w1 w.heap.size d a5 c5 a6 c6 := (BoxD.new w d a5 c5 a6 c6).later hB1
    have hbz : w.heap.size < w1.heap.size := by have := hB1.size; simp at this; omega
    obtain ⟨q0, q1, q2, q3, q4, q5, q6, q7⟩ := id hbox
    have HBox := Lib.hid hbox
    clear hB1 H1 HT q1 q2 q3 q4 q7 hbox
    by_cases h18 : d.kind = 18
    · have e18 : (d.kind == 18) = true := by simpa using h18
      have hf : Hid (formB d = (decide (d.names.length = d.parts.length) && d.names.all namedB)) := by show _ = _; rw [HF2.out, if_pos h18]
      have hB := HB1.out
      have HN1 := Lib.hid (HN.out.below hB)
      clear HF2 h18 hB HN
      by_cases hl : d.names.length = d.parts.length
      · have el : ((d.names.length : Int) == (d.parts.length : Int)) = true := by simp; omega
        have hf2 : Hid (formB d = d.names.all namedB) := by show _ = _; rw [hf.out]; simp [hl]
        have HL := Lib.hid hl
        clear hf hl
        go_wp2_with fail
        refine (contains_any HN1.out).mono ?_
        rintro e w2 ⟨rfl, hB2⟩
        have HB2 := Lib.hid (HB1.out.next hB2)
        obtain ⟨q, hq⟩ : ∃ q, q = d.names.all namedB := ⟨_, rfl⟩
        rw [← hq] at hf2 ⊢
        clear hB2 hq
        go_wp2_with fail
        go_ret
        exact ⟨ret_bool (by rw [hf2.out]), HB2.out⟩
      · have el : ((d.names.length : Int) == (d.parts.length : Int)) = false := by simp; omega
        have hf2 : Hid (formB d = false) := by show _ = _; rw [hf.out]; simp [hl]
        clear hf hl
        go_wp2_with fail
        go_ret
        exact ⟨ret_bool hf2.out.symm, HB1.out⟩
    · have e18 : (d.kind == 18) = false := by simpa using h18
      by_cases h21 : d.kind = 21
      · have e21 : (d.kind == 21) = true := by simpa using h21
        have hf : Hid (formB d = (keysL d.parts && decide (d.parts.length % 2 = 0))) := by show _ = _; rw [HF2.out, if_neg h18, if_pos h21]
        have HP1 := Lib.hid (HP.out.below HB1.out)
        clear HF2 h18 h21 q5 HN HP
        go_wp2_with fail
        go_loopw [3] (fun k wr => ∃ i : Nat, i ≤ d.parts.length + 1 ∧ k = .int .i64 i ∧ Hid (keysL d.parts = keysL (d.parts.drop i)) ∧ Below w1.heap.size w1 wr) (fun k _ => d.parts.length + 1 - (intOf k).toNat)
        case atStart => exact ⟨0, by omega, rfl, rfl, Below.refl _ _⟩
        case round =>
          obtain ⟨i, hi, rfl, HRec, hB⟩ := hrel
          have HB := Lib.hid hB
          have q6r : wr.cell? ⟨w.heap.size, 6, none⟩ = some (.slice a6 d.parts.length c6) := cell_below hB q6
          clear hB q6
          by_cases hin : i < d.parts.length
          · obtain ⟨b, o, p5, r5, p6, r6, rfl, hrow, hD⟩ := HP1.out.elem HB.out hin
            obtain ⟨k0, k1, k2, k3, k4, k5, k6, k7⟩ := hrow
            have hrc := HRec.out
            rw [keysL_drop hin] at hrc
            have HRec2 := Lib.hid hrc
            have HX := Lib.hid hD
            clear hrc hD
            obtain ⟨x, hx⟩ : ∃ x, x = d.parts[i] := ⟨_, rfl⟩
            rw [← hx] at k0 k1 k2 k3 k4 k5 k6 k7 HRec2 HX
            unfold aggD at HX
            clear hx HRec
            go_wp2_with fail
            refine (key_any HX.out).mono ?_
            rintro e w3 ⟨rfl, hB3⟩
            have HB3 := Lib.hid (HB.out.next hB3)
            clear hB3 k0 k1 k2 k3 k4 k5 k6 k7 HX HB
            cases hq : keyK x.kind
            · have hf2 : Hid (formB d = false) := by show _ = _; rw [hf.out, HRec2.out, hq]; rfl
              clear hq HRec2 hf
              go_wp2_with fail
              go_ret
              exact ⟨ret_bool hf2.out.symm, HB1.out.next HB3.out⟩
            · have hf2 : Hid (keysL d.parts = keysL (d.parts.drop (i + 2))) := by show _ = _; rw [HRec2.out, hq]; rfl
              clear hq HRec2
              go_wp2_with fail
              go_roundw
              case rel => exact ⟨i + 2, by omega, by go_num, hf2, HB3.out⟩
              case measure => simp [intOf]; omega
          · have hf2 : Hid (formB d = decide (d.parts.length % 2 = 0)) := by show _ = _; rw [hf.out, HRec.out, List.drop_of_length_le (by omega)]; simp [keysL]
            have hge : ¬ (i : Int) < (d.parts.length : Int) := by omega
            clear HRec hf
            have hpos : 0 ≤ (d.parts.length : Int) := by omega
            go_wp2_with fail
            go_ret
            exact ⟨ret_bool (by rw [hf2.out]; rw [Bool.eq_iff_iff]; simp; omega), HB1.out.next HB.out⟩
      · have e21 : (d.kind == 21) = false := by simpa using h21
        by_cases h22 : d.kind = 22
        · have e22 : (d.kind == 22) = true := by simpa using h22
          have hf : Hid (formB d = decide (d.parts.length ≤ 1)) := by show _ = _; rw [HF2.out, if_neg h18, if_neg h21, if_pos h22]
          clear HF2 h18 h21 h22
          go_wp2_with fail
          go_ret
          exact ⟨ret_bool (by rw [hf.out]; rw [Bool.eq_iff_iff]; simp; omega), HB1.out⟩
        · have hf : Hid (formB d = true) := by show _ = _; rw [HF2.out]; simp [h18, h21, h22]
          have e22 : (d.kind == 22) = false := by simpa using h22
          clear HF2 h18 h21 h22
          go_wp2_with fail
          go_ret
          exact ⟨ret_bool hf.out.symm, HB1.out⟩
end Go.Proofs.YtkpfeodffhfejaaGreatDoor
