/- The own part of a descriptor's form: the functions key, formed, and the library's IndexFunc and ContainsFunc at texts. No condition but that the argument is a descriptor. -/
import Derived.Test.YtnalppgjbllehaaGreatDoorL12
namespace Go.Proofs.YtnalppgjbllehaaGreatDoor
set_option linter.unusedVariables false
set_option maxRecDepth 1000000
open Go.RowKit

/-- May a kind be a key's? -/
def keyK (k : Int) : Bool := decide ((1 ≤ k ∧ k ≤ 11) ∨ k = 16)
/-- Every other one is a key. -/
def keysL : List D → Bool
  | [] => true
  | [x] => keyK x.kind
  | x :: _ :: l => keyK x.kind && keysL l
def formB (d : D) : Bool :=
  (decide (d.kind = 0) || typedB d.type) &&
    (if d.kind = 18 then decide (d.names.length = d.parts.length) && d.names.all namedB
     else if d.kind = 21 then keysL d.parts && decide (d.parts.length % 2 = 0)
     else if d.kind = 22 then decide (d.parts.length ≤ 1) else true)

/-- The box that holds a descriptor that was handed in. -/
structure BoxD (w : World) (b : Nat) (d : D) (a5 : Option Addr) (c5 : Nat) (a6 : Option Addr) (c6 : Nat) : Prop where
  k0 : w.cell? ⟨b, 0, none⟩ = some (.int .i64 d.kind)
  k1 : w.cell? ⟨b, 1, none⟩ = some (.string d.type)
  k2 : w.cell? ⟨b, 2, none⟩ = some (.int .u64 d.bits)
  k3 : w.cell? ⟨b, 3, none⟩ = some (.int .u64 d.imag)
  k4 : w.cell? ⟨b, 4, none⟩ = some (.string d.text)
  k5 : w.cell? ⟨b, 5, none⟩ = some (.slice a5 d.names.length c5)
  k6 : w.cell? ⟨b, 6, none⟩ = some (.slice a6 d.parts.length c6)
  k7 : w.cell? ⟨b, 7, none⟩ = some (.int .i64 d.hook)
def cellsD (d : D) (a5 : Option Addr) (c5 : Nat) (a6 : Option Addr) (c6 : Nat) : Obj :=
  .cells #[.int .i64 d.kind, .string d.type, .int .u64 d.bits, .int .u64 d.imag, .string d.text, .slice a5 d.names.length c5, .slice a6 d.parts.length c6, .int .i64 d.hook] 29
theorem BoxD.of_block {w : World} {b : Nat} {d : D} {a5 : Option Addr} {c5 : Nat} {a6 : Option Addr} {c6 : Nat} (h : w.heap[b]? = some (cellsD d a5 c5 a6 c6)) : BoxD w b d a5 c5 a6 c6 := by
  unfold cellsD at h
  constructor <;> simp [World.cell?, h]
theorem BoxD.later {w w' : World} {b : Nat} {d : D} {a5 : Option Addr} {c5 : Nat} {a6 : Option Addr} {c6 : Nat} (h : BoxD w b d a5 c5 a6 c6) (hb : Below w.heap.size w w') : BoxD w' b d a5 c5 a6 c6 :=
  ⟨cell_below hb h.k0, cell_below hb h.k1, cell_below hb h.k2, cell_below hb h.k3, cell_below hb h.k4, cell_below hb h.k5, cell_below hb h.k6, cell_below hb h.k7⟩
theorem BoxD.new (w : World) (d : D) (a5 : Option Addr) (c5 : Nat) (a6 : Option Addr) (c6 : Nat) : BoxD (w.alloc (cellsD d a5 c5 a6 c6)) w.heap.size d a5 c5 a6 c6 := .of_block (heap_alloc_new w _)

theorem key_any {w : World} {v : Value} {d : D} (h : IsD w v d) : Calls Tryz.prog 66 #[v] w fun e w' => e = .returned (.bool (keyK d.kind)) ∧ Below w.heap.size w w' := by
  have HB := Lib.hid (Below.new (w := w))
  obtain ⟨a5, c5, a6, c6, rfl, hk, hb, hi, ht, hx, hn, hp⟩ := h.open
  clear hp hn hb hi hk ht hx h
  unfold aggD
  by_cases h1 : 1 ≤ d.kind
  · by_cases h2 : d.kind ≤ 11
    · have e : keyK d.kind = true := by simp [keyK]; omega
      rw [e]
      have h3 : decide (d.kind ≤ 11) = true := by simpa using h2
      clear e
      go_enter Tryz.func66, Tryz.ntmps66
      go_wp2
      go_ret
      exact ⟨rfl, HB.out _⟩
    · have h3 : decide (d.kind ≤ 11) = false := by simpa using h2
      have e : keyK d.kind = (d.kind == 16) := by rw [Bool.eq_iff_iff]; simp [keyK]; omega
      rw [e]
      clear e
      go_enter Tryz.func66, Tryz.ntmps66
      go_wp2
      go_ret
      exact ⟨rfl, HB.out _⟩
  · have h3 : decide (1 ≤ d.kind) = false := by simpa using h1
    have e : keyK d.kind = (d.kind == 16) := by rw [Bool.eq_iff_iff]; simp [keyK]; omega
    rw [e]
    clear e
    go_enter Tryz.func66, Tryz.ntmps66
    go_wp2
    go_ret
    exact ⟨rfl, HB.out _⟩

theorem cf54 (c : Array Value) (W : World) : Sem.run Tryz.prog (callFunc 64 c) W = .ok (.enter 64 c) W := by kernel_rfl
theorem notnamed_any (s : ByteArray) (hs : s.size ≤ cap47) (w : World) : Calls Tryz.prog 64 #[.string s] w fun e w' => e = .returned (.bool (!namedB s)) ∧ Below w.heap.size w w' := by
  go_enter Tryz.func64, Tryz.ntmps64
  go_wp2_with fail
  refine (named_any s hs w).mono ?_
  rintro e w1 ⟨rfl, hB⟩
  have HB := Lib.hid hB
  clear hB
  obtain ⟨q, hq⟩ : ∃ q, q = namedB s := ⟨_, rfl⟩
  rw [← hq]
  have HQ := Lib.hid hq
  clear hq
  go_wp2_with fail
  go_ret
  exact ⟨by rw [← HQ.out]; rfl, HB.out⟩

def IdxPost (w : World) (l : List ByteArray) (e : Ending) (w' : World) : Prop :=
  ∃ r : Int, e = .returned (.int .i64 r) ∧ ((0 ≤ r) ↔ l.all namedB = false) ∧ Below w.heap.size w w'
set_option maxHeartbeats 400000 in
theorem index_any {w : World} {a : Option Addr} {c : Nat} {l : List ByteArray} (h : NamesAt w a c l) : Calls Tryz.prog 94 #[.slice a l.length c, .func (.func 64) #[] #[]] w (IdxPost w l) := by
  obtain ⟨h1, h2, b, o, h3, h4, h5⟩ := h
  unfold cap47 at h2
  have HA := Lib.hid h3
  have HC := Lib.hid h4
  have HS := Lib.hid h5
  have hcf := fun c W => cf54 c W
  clear h3 h4 h5
  go_enter Tryz.func94, Tryz.ntmps94
  go_wp2_with fail
  go_loopw [8] (fun k wr => ∃ i : Nat, i ≤ l.length ∧ k = .int .i64 i ∧ Hid (l.all namedB = (l.drop i).all namedB) ∧ Below w.heap.size w wr) (fun k _ => l.length - (intOf k).toNat)
  case atStart => exact ⟨0, by omega, rfl, rfl, Below.refl _ _⟩
  case round =>
    obtain ⟨i, hi, rfl, HRec, hB⟩ := hrel
    have HB := Lib.hid hB
    clear hB
    by_cases hin : i < l.length
    · obtain rfl := HA.out (by omega)
      have k0 := cell_below HB.out (HC.out i hin)
      have hrc := HRec.out
      rw [all_drop _ hin] at hrc
      have HRec2 := Lib.hid hrc
      have HSX := Lib.hid (HS.out l[i] (List.getElem_mem _))
      obtain ⟨x, hx⟩ : ∃ x, x = l[i] := ⟨_, rfl⟩
      rw [← hx] at k0 HRec2 HSX
      clear hrc hx HRec
      go_wp2_with fail
      refine (notnamed_any x HSX.out _).mono ?_
      rintro e w1 ⟨rfl, hB1⟩
      have HB1 := Lib.hid (HB.out.next hB1)
      clear hB1 k0 HB
      cases hq : namedB x
      · have hf : Hid (l.all namedB = false) := by show _ = _; rw [HRec2.out, hq]; rfl
        clear hq HRec2
        go_wp2_with fail
        go_ret
        exact ⟨i, rfl, ⟨fun _ => hf.out, fun _ => by omega⟩, HB1.out⟩
      · have hf : Hid (l.all namedB = (l.drop (i + 1)).all namedB) := by show _ = _; rw [HRec2.out, hq]; rfl
        clear hq HRec2
        go_wp2_with fail
        go_roundw
        case rel => exact ⟨i + 1, by omega, by go_num, hf, HB1.out⟩
        case measure => simp [intOf]; omega
    · have hf : Hid (l.all namedB = true) := by show _ = _; rw [HRec.out, List.drop_of_length_le (by omega)]; rfl
      clear HRec
      go_wp2_with fail
      go_ret
      exact ⟨-1, rfl, ⟨fun h => by omega, fun h => by rw [hf.out] at h; cases h⟩, HB.out⟩
theorem contains_any {w : World} {a : Option Addr} {c : Nat} {l : List ByteArray} (h : NamesAt w a c l) : Calls Tryz.prog 63 #[.slice a l.length c, .func (.func 64) #[] #[]] w fun e w' => e = .returned (.bool (!l.all namedB)) ∧ Below w.heap.size w w' := by
  go_enter Tryz.func63, Tryz.ntmps63
  go_wp2_with fail
  refine (index_any h).mono ?_
  rintro e w1 ⟨r, rfl, hr, hB⟩
  have HB := Lib.hid hB
  have hd : decide (0 ≤ r) = !l.all namedB := by
    by_cases h0 : 0 ≤ r
    · simp [h0, hr.1 h0]
    · have : l.all namedB = true := by
        cases hq : l.all namedB with
        | true => rfl
        | false => exact absurd (hr.2 hq) h0
      simp [h0, this]
  have HD := Lib.hid hd
  clear hB hr hd
  go_wp2_with fail
  go_ret
  exact ⟨ret_bool HD.out, HB.out⟩

theorem keysL_drop {l : List D} {i : Nat} (h : i < l.length) : keysL (l.drop i) = (keyK l[i].kind && keysL (l.drop (i + 2))) := by
  rw [drop_cons h]
  by_cases h2 : i + 1 < l.length
  · rw [drop_cons h2, keysL]
  · rw [List.drop_of_length_le (by omega), List.drop_of_length_le (by omega)]
    simp [keysL]

def FormPost (w : World) (d : D) (e : Ending) (w' : World) : Prop := e = .returned (.bool (formB d)) ∧ Below w.heap.size w w'

set_option maxRecDepth 100000 in
set_option maxHeartbeats 2000000 in
/-- Behind the type's test. -/
theorem formed_any {w : World} {v : Value} {d : D} (h : IsD w v d) : Calls Tryz.prog 40 #[v] w (FormPost w d) := by
  have HD := Lib.hid h
  obtain ⟨a5, c5, a6, c6, rfl, hk, hb, hi, ht, hx, hn, hp⟩ := h.open
  have HN := Lib.hid hn
  have HP := Lib.hid hp
  have HT := Lib.hid ht
  have hpl : d.parts.length ≤ 140737488355328 := by have := hp.1; have := hp.2.1; unfold cap47 at this; omega
  have hnl : d.names.length ≤ 140737488355328 := by have := hn.1; have := hn.2.1; unfold cap47 at this; omega
  have HF : Hid (formB d = ((decide (d.kind = 0) || typedB d.type) &&
    (if d.kind = 18 then decide (d.names.length = d.parts.length) && d.names.all namedB
     else if d.kind = 21 then keysL d.parts && decide (d.parts.length % 2 = 0)
     else if d.kind = 22 then decide (d.parts.length ≤ 1) else true))) := rfl
  clear hp hn hb hi hk ht hx h
  unfold aggD
  have start : d.kind = 0 ∨ ((d.kind != 0) = true ∧ typedB d.type = false) ∨ ((d.kind != 0) = true ∧ typedB d.type = true) := by
    by_cases h0 : d.kind = 0
    · exact .inl h0
    · cases typedB d.type <;> simp [h0]
  rcases start with h0 | ⟨h0, h1⟩ | ⟨h0, h1⟩
  · have hf : Hid (formB d = true) := by show _ = _; rw [HF.out, h0]; simp
    have HB := Lib.hid (Below.new (w := w))
    clear HF
    go_enter Tryz.func40, Tryz.ntmps40
    go_wp2_with fail
    go_ret
    exact ⟨ret_bool hf.out.symm, HB.out _⟩
  · have hf : Hid (formB d = false) := by show _ = _; rw [HF.out, h1]; have : d.kind ≠ 0 := by simpa using h0
                                          simp [this]
    have H1 := Lib.hid h1
    clear HF h1
    go_enter Tryz.func40, Tryz.ntmps40
    go_wp2_with fail
    refine (typed_any d.type HT.out _).mono ?_
    rw [H1.out]
    rintro e w1 ⟨rfl, hB1⟩
    have HB1 := Lib.hid ((Below.new _).next hB1)
    clear hB1
    go_wp2_with fail
    go_ret
    exact ⟨ret_bool hf.out.symm, HB1.out⟩
  · have H1 := Lib.hid h1
    have hk0 : d.kind ≠ 0 := by simpa using h0
    have HF2 : Hid (formB d = (if d.kind = 18 then decide (d.names.length = d.parts.length) && d.names.all namedB
     else if d.kind = 21 then keysL d.parts && decide (d.parts.length % 2 = 0)
     else if d.kind = 22 then decide (d.parts.length ≤ 1) else true)) := by show _ = _; rw [HF.out, h1]; simp
    clear h1 HF hk0
    go_enter Tryz.func40, Tryz.ntmps40
    go_wp2_with fail
    refine (typed_any d.type HT.out _).mono ?_
    rw [H1.out]
    rintro e w1 ⟨rfl, hB1⟩
    have HB1 := Lib.hid ((Below.new _).next hB1)
    have hbox : BoxD w1 w.heap.size d a5 c5 a6 c6 := (BoxD.new w d a5 c5 a6 c6).later hB1
    have hbz : w.heap.size < w1.heap.size := by have := hB1.size; simp at this; omega
    obtain ⟨q0, q1, q2, q3, q4, q5, q6, q7⟩ := id hbox
    have HBox := Lib.hid hbox
    clear hB1 H1 HT q1 q2 q3 q4 q7 hbox
    by_cases h18 : d.kind = 18
    · have e18 : (d.kind == 18) = true := by simpa using h18
      have hf : Hid (formB d = (decide (d.names.length = d.parts.length) && d.names.all namedB)) := by show _ = _; rw [HF2.out, if_pos h18]
      have hB := HB1.out
      have HN1 := Lib.hid (HN.out.below hB)
      clear HF2 h18 hB HN
      by_cases hl : d.names.length = d.parts.length
      · have el : ((d.names.length : Int) == (d.parts.length : Int)) = true := by simp; omega
        have hf2 : Hid (formB d = d.names.all namedB) := by show _ = _; rw [hf.out]; simp [hl]
        have HL := Lib.hid hl
        clear hf hl
        go_wp2_with fail
        refine (contains_any HN1.out).mono ?_
        rintro e w2 ⟨rfl, hB2⟩
        have HB2 := Lib.hid (HB1.out.next hB2)
        obtain ⟨q, hq⟩ : ∃ q, q = d.names.all namedB := ⟨_, rfl⟩
        rw [← hq] at hf2 ⊢
        clear hB2 hq
        go_wp2_with fail
        go_ret
        exact ⟨ret_bool (by rw [hf2.out]), HB2.out⟩
      · have el : ((d.names.length : Int) == (d.parts.length : Int)) = false := by simp; omega
        have hf2 : Hid (formB d = false) := by show _ = _; rw [hf.out]; simp [hl]
        clear hf hl
        go_wp2_with fail
        go_ret
        exact ⟨ret_bool hf2.out.symm, HB1.out⟩
    · have e18 : (d.kind == 18) = false := by simpa using h18
      by_cases h21 : d.kind = 21
      · have e21 : (d.kind == 21) = true := by simpa using h21
        have hf : Hid (formB d = (keysL d.parts && decide (d.parts.length % 2 = 0))) := by show _ = _; rw [HF2.out, if_neg h18, if_pos h21]
        have HP1 := Lib.hid (HP.out.below HB1.out)
        clear HF2 h18 h21 q5 HN HP
        go_wp2_with fail
        go_loopw [3] (fun k wr => ∃ i : Nat, i ≤ d.parts.length + 1 ∧ k = .int .i64 i ∧ Hid (keysL d.parts = keysL (d.parts.drop i)) ∧ Below w1.heap.size w1 wr) (fun k _ => d.parts.length + 1 - (intOf k).toNat)
        case atStart => exact ⟨0, by omega, rfl, rfl, Below.refl _ _⟩
        case round =>
          obtain ⟨i, hi, rfl, HRec, hB⟩ := hrel
          have HB := Lib.hid hB
          have q6r : wr.cell? ⟨w.heap.size, 6, none⟩ = some (.slice a6 d.parts.length c6) := cell_below hB q6
          clear hB q6
          by_cases hin : i < d.parts.length
          · obtain ⟨b, o, p5, r5, p6, r6, rfl, hrow, hD⟩ := HP1.out.elem HB.out hin
            obtain ⟨k0, k1, k2, k3, k4, k5, k6, k7⟩ := hrow
            have hrc := HRec.out
            rw [keysL_drop hin] at hrc
            have HRec2 := Lib.hid hrc
            have HX := Lib.hid hD
            clear hrc hD
            obtain ⟨x, hx⟩ : ∃ x, x = d.parts[i] := ⟨_, rfl⟩
            rw [← hx] at k0 k1 k2 k3 k4 k5 k6 k7 HRec2 HX
            unfold aggD at HX
            clear hx HRec
            go_wp2_with fail
            refine (key_any HX.out).mono ?_
            rintro e w3 ⟨rfl, hB3⟩
            have HB3 := Lib.hid (HB.out.next hB3)
            clear hB3 k0 k1 k2 k3 k4 k5 k6 k7 HX HB
            cases hq : keyK x.kind
            · have hf2 : Hid (formB d = false) := by show _ = _; rw [hf.out, HRec2.out, hq]; rfl
              clear hq HRec2 hf
              go_wp2_with fail
              go_ret
              exact ⟨ret_bool hf2.out.symm, HB1.out.next HB3.out⟩
            · have hf2 : Hid (keysL d.parts = keysL (d.parts.drop (i + 2))) := by show _ = _; rw [HRec2.out, hq]; rfl
              clear hq HRec2
              go_wp2_with fail
              go_roundw
              case rel => exact ⟨i + 2, by omega, by go_num, hf2, HB3.out⟩
              case measure => simp [intOf]; omega
          · have hf2 : Hid (formB d = decide (d.parts.length % 2 = 0)) := by show _ = _; rw [hf.out, HRec.out, List.drop_of_length_le (by omega)]; simp [keysL]
            have hge : ¬ (i : Int) < (d.parts.length : Int) := by omega
            clear HRec hf
            have hpos : 0 ≤ (d.parts.length : Int) := by omega
            go_wp2_with fail
            go_ret
            exact ⟨ret_bool (by rw [hf2.out]; rw [Bool.eq_iff_iff]; simp; omega), HB1.out.next HB.out⟩
      · have e21 : (d.kind == 21) = false := by simpa using h21
        by_cases h22 : d.kind = 22
        · have e22 : (d.kind == 22) = true := by simpa using h22
          have hf : Hid (formB d = decide (d.parts.length ≤ 1)) := by show _ = _; rw [HF2.out, if_neg h18, if_neg h21, if_pos h22]
          clear HF2 h18 h21 h22
          go_wp2_with fail
          go_ret
          exact ⟨ret_bool (by rw [hf.out]; rw [Bool.eq_iff_iff]; simp; omega), HB1.out⟩
        · have hf : Hid (formB d = true) := by show _ = _; rw [HF2.out]; simp [h18, h21, h22]
          have e22 : (d.kind == 22) = false := by simpa using h22
          clear HF2 h18 h21 h22
          go_wp2_with fail
          go_ret
          exact ⟨ret_bool hf.out.symm, HB1.out⟩
end Go.Proofs.YtnalppgjbllehaaGreatDoor

/- Numbers' bits: the functions width and low. Condition: a whole number's kind; 32 or 64 bits. -/
namespace Go.Proofs.YtnalppgjbllehaaGreatDoor
set_option linter.unusedVariables false
set_option maxRecDepth 1000000
open Go.RowKit

/-- How many bits a whole number has. -/
def widthK (k : Int) : Int := if k = 2 ∨ k = 7 then 8 else if k = 3 ∨ k = 8 then 16 else if k = 4 ∨ k = 9 then 32 else 64
theorem width_at (j : Int) (n : Int) (h : (j = 0 ∧ n = 8) ∨ (j = 1 ∧ n = 16) ∨ (j = 2 ∧ n = 32) ∨ (j = 3 ∧ n = 64) ∨ (j = 4 ∧ n = 64)) (w : World) :
    (Instr.index 181 (.agg #[.int .i64 8, .int .i64 16, .int .i64 32, .int .i64 64, .int .i64 64]) (.int .i64 j)).run Tryz.prog w = .ok (.int .i64 n) w := by
  rcases h with ⟨rfl, rfl⟩ | ⟨rfl, rfl⟩ | ⟨rfl, rfl⟩ | ⟨rfl, rfl⟩ | ⟨rfl, rfl⟩ <;> kernel_rfl
theorem width_any (k : Int) (h0 : 2 ≤ k) (h1 : k ≤ 11) (w : World) : Calls Tryz.prog 67 #[.int .i64 k] w fun e w' => e = .returned (.int .i64 (widthK k)) ∧ w = w' := by
  have hk : k = 2 ∨ k = 3 ∨ k = 4 ∨ k = 5 ∨ k = 6 ∨ k = 7 ∨ k = 8 ∨ k = 9 ∨ k = 10 ∨ k = 11 := by omega
  have e0 := fun w => width_at 0 8 (by omega) w
  have e1 := fun w => width_at 1 16 (by omega) w
  have e2 := fun w => width_at 2 32 (by omega) w
  have e3 := fun w => width_at 3 64 (by omega) w
  have e4 := fun w => width_at 4 64 (by omega) w
  clear h0 h1
  rcases hk with rfl | rfl | rfl | rfl | rfl | rfl | rfl | rfl | rfl | rfl
  all_goals
    go_enter Tryz.func67, Tryz.ntmps67
    go_wp2
    go_ret
    exact ⟨rfl, rfl⟩
theorem wrap_u64 (x : Int) (h : U64 x) : IntKind.u64.wrap x = x := by
  obtain ⟨h0, h1⟩ := h
  show x % (2 ^ 64) = x
  omega
theorem wrap_low32 (x : Int) : IntKind.u64.wrap (x * 4294967296) / 4294967296 = x % 4294967296 := by
  show (x * 4294967296) % (2 ^ 64) / 4294967296 = x % 4294967296
  omega
theorem ret_u64 {a b : Int} (h : a = b) : Ending.returned (.int .u64 a) = .returned (.int .u64 b) := by rw [h]
theorem low64 (x : Int) (hx : U64 x) (w : World) : Calls Tryz.prog 68 #[.int .u64 x, .int .i64 64] w fun e w' => e = .returned (.int .u64 x) ∧ w = w' := by
  have HX := Lib.hid hx
  clear hx
  go_enter Tryz.func68, Tryz.ntmps68
  go_wp2
  go_ret
  exact ⟨ret_u64 (wrap_u64 x HX.out), rfl⟩
theorem low32 (x : Int) (w : World) : Calls Tryz.prog 68 #[.int .u64 x, .int .i64 32] w fun e w' => e = .returned (.int .u64 (x % 4294967296)) ∧ w = w' := by
  go_enter Tryz.func68, Tryz.ntmps68
  go_wp2
  go_ret
  exact ⟨ret_u64 (wrap_low32 x), rfl⟩
end Go.Proofs.YtnalppgjbllehaaGreatDoor
