/- What reads a directive, byte by byte: parse's reading, peek, flags, digits. No condition but the texts' sizes. -/
import Derived.Test.YtnalppgjbllehaaGreatDoorL03
import Derived.WalkMore
import Derived.Laws.BytesString
namespace Go.Proofs.YtnalppgjbllehaaGreatDoor
set_option linter.unusedVariables false
set_option linter.unusedSimpArgs false
open Go.RowKit

/-- A byte of a text; 0 beyond its end. -/
def bt (t : ByteArray) (i : Nat) : Nat := if h : i < t.size then t[i].toNat else 0
/-- A reader: what is left of its text, and the function that looks at the next byte. -/
structure Rdr (w : World) (b bx : Nat) (t : ByteArray) : Prop where
  s : w.cell? ⟨b, 0, none⟩ = some (.string t)
  p : w.cell? ⟨b, 1, none⟩ = some (.func (.func 99) #[] #[.pointer (some ⟨bx, 0, none⟩)])
  x : w.cell? ⟨bx, 0, none⟩ = some (.pointer (some ⟨b, 0, none⟩))
  f : w.frozen? ⟨b, 0, none⟩ = false
  ne : bx ≠ b
theorem Rdr.keep {w w' : World} {b bx : Nat} {t : ByteArray} (h : Rdr w b bx t) (hb : w'.heap[b]? = w.heap[b]?) (hx : w'.heap[bx]? = w.heap[bx]?) : Rdr w' b bx t :=
  ⟨(World.cell?_of_block (a := ⟨b, 0, none⟩) hb).trans h.s, (World.cell?_of_block (a := ⟨b, 1, none⟩) hb).trans h.p, (World.cell?_of_block (a := ⟨bx, 0, none⟩) hx).trans h.x, (World.frozen?_of_block (a := ⟨b, 0, none⟩) hb).trans h.f, h.ne⟩
theorem Rdr.lt {w : World} {b bx : Nat} {t : ByteArray} (h : Rdr w b bx t) : b < w.heap.size ∧ bx < w.heap.size := ⟨World.block_lt_of_cell? w _ h.s, World.block_lt_of_cell? w _ h.x⟩
theorem Rdr.below {w w' : World} {b bx : Nat} {t : ByteArray} (h : Rdr w b bx t) (hb : Below w.heap.size w w') : Rdr w' b bx t := h.keep (hb.block _ h.lt.1) (hb.block _ h.lt.2)
theorem Rdr.put {w : World} {b bx : Nat} {t : ByteArray} (h : Rdr w b bx t) (u : ByteArray) : Rdr (w.setCell ⟨b, 0, none⟩ (.string u)) b bx u :=
  ⟨put_same h.s, put_other h.p (by decide), (World.cell?_of_block (a := ⟨bx, 0, none⟩) (Below.heap_setCell _ _ _ _ h.ne)).trans h.x, by simpa using h.f, h.ne⟩
theorem empty_iff (t : ByteArray) : t.toList.isEmpty = decide (t.size = 0) := by
  rw [Go.ByteArray.toList_eq, Bool.eq_iff_iff, List.isEmpty_iff, decide_eq_true_iff]
  constructor
  · intro h
    have := congrArg List.length h
    simpa using this
  · intro h
    exact List.eq_nil_of_length_eq_zero (by simpa using h)
set_option maxHeartbeats 4000000 in
set_option maxRecDepth 1000000 in
theorem peek_any (b bx : Nat) (t : ByteArray) (w : World) (h : Rdr w b bx t) :
    Calls Tryz.prog 99 #[.pointer (some ⟨bx, 0, none⟩)] w fun e w' => e = .returned (.int .u8 (bt t 0 : Int)) ∧ w = w' := by
  obtain ⟨h1, h2, h3, h4, h5⟩ := h
  by_cases h0 : 0 < t.size
  · have hb : (bt t 0 : Int) = (t[0].toNat : Int) := by unfold bt; rw [dif_pos h0]
    rw [hb]
    have e1 : t.toList.isEmpty = false := by rw [empty_iff]; exact decide_eq_false (by omega)
    clear hb h2 h4 h5
    go_enter Tryz.func99, Tryz.ntmps99
    go_wp2_with fail
    go_ret
    exact ⟨rfl, rfl⟩
  · have hb : (bt t 0 : Int) = 0 := by unfold bt; rw [dif_neg h0]; rfl
    rw [hb]
    have e1 : t.toList.isEmpty = true := by rw [empty_iff]; exact decide_eq_true (by omega)
    clear hb h2 h4 h5
    go_enter Tryz.func99, Tryz.ntmps99
    go_wp2_with fail
    go_ret
    exact ⟨rfl, rfl⟩
/-- What is read of a format: an index, a number, a piece. -/
structure IdxD where
  kind : Int
  n : Int
structure NumP where
  kind : Int
  n : Int
  arg : IdxD
structure PieceD where
  kind : Int
  text : ByteArray
  spec : SpecD
  wid : NumP
  prec : NumP
  arg : IdxD
def pieceCells (p : PieceD) : Array Value :=
  #[.int .i64 p.kind, .string p.text, .bool p.spec.plus, .bool p.spec.minus, .bool p.spec.sharp, .bool p.spec.space, .bool p.spec.zero, .int .i64 p.spec.wid, .int .i64 p.spec.prec, .int .i32 p.spec.verb,
    .int .i64 p.wid.kind, .int .i64 p.wid.n, .int .i64 p.wid.arg.kind, .int .i64 p.wid.arg.n, .int .i64 p.prec.kind, .int .i64 p.prec.n, .int .i64 p.prec.arg.kind, .int .i64 p.prec.arg.n, .int .i64 p.arg.kind, .int .i64 p.arg.n]
def PieceAt (w : World) (b : Nat) (p : PieceD) : Prop := w.heap[b]? = some (.cells (pieceCells p) 67 (0, 0))
theorem set_block {w : World} {b j : Nat} {cs : Array Value} {T : TypeId} (h : w.heap[b]? = some (.cells cs T (0, 0))) (v : Value) : (w.setCell ⟨b, j, none⟩ v).heap[b]? = some (.cells (cs.setIfInBounds j v) T (0, 0)) := by
  simp [World.setCell, Array.getElem?_modify, h]
def drop1 (t : ByteArray) : ByteArray := t.extract 1 t.size
def flagsF : Nat → ByteArray → SpecD → SpecD × ByteArray
  | 0, t, f => (f, t)
  | n + 1, t, f =>
    if bt t 0 = 43 then flagsF n (drop1 t) { f with plus := true }
    else if bt t 0 = 45 then flagsF n (drop1 t) { f with minus := true }
    else if bt t 0 = 35 then flagsF n (drop1 t) { f with sharp := true }
    else if bt t 0 = 32 then flagsF n (drop1 t) { f with space := true }
    else if bt t 0 = 48 then flagsF n (drop1 t) { f with zero := true }
    else (f, t)
/-- Two blocks alone are written to. -/
structure Two (b pb : Nat) (w w' : World) : Prop where
  os : w'.os = w.os
  tape : w'.tape = w.tape
  output : w'.output = w.output
  size : w'.heap.size = w.heap.size
  block : ∀ k, k ≠ b → k ≠ pb → w'.heap[k]? = w.heap[k]?
theorem Two.refl (b pb : Nat) (w : World) : Two b pb w w := ⟨rfl, rfl, rfl, rfl, fun _ _ _ => rfl⟩
theorem Two.put {b pb : Nat} {w w' : World} (h : Two b pb w w') {k j : Nat} (hk : k = b ∨ k = pb) (v : Value) : Two b pb w (w'.setCell ⟨k, j, none⟩ v) := by
  refine ⟨h.os, h.tape, h.output, by simp [h.size], fun i h1 h2 => ?_⟩
  rw [Below.heap_setCell _ _ _ _ (by rcases hk with e | e <;> (rw [e]; assumption))]
  exact h.block i h1 h2
def textSize (w : World) (b : Nat) : Nat := match w.cell? ⟨b, 0, none⟩ with | some (.string t) => t.size | _ => 0
def FlagsPost (b bx pb : Nat) (t : ByteArray) (p : PieceD) (w : World) (e : Ending) (w' : World) : Prop :=
  e = .returned (.tuple #[]) ∧ Rdr w' b bx (flagsF t.size t p.spec).2 ∧ PieceAt w' pb { p with spec := (flagsF t.size t p.spec).1 } ∧ Two b pb w w'
theorem flag_step {b bx pb : Nat} {w wr : World} {u : ByteArray} {p : PieceD} {f : SpecD} (hr : Rdr wr b bx u) (hp : PieceAt wr pb { p with spec := f }) (ht : Two b pb w wr) (h1 : pb ≠ b) (h2 : pb ≠ bx) (j : Nat) (v : Value) (f' : SpecD)
    (hc : (pieceCells { p with spec := f }).setIfInBounds j v = pieceCells { p with spec := f' }) :
    Rdr ((wr.setCell ⟨pb, j, none⟩ v).setCell ⟨b, 0, none⟩ (.string (u.extract 1 u.size))) b bx (drop1 u) ∧ PieceAt ((wr.setCell ⟨pb, j, none⟩ v).setCell ⟨b, 0, none⟩ (.string (u.extract 1 u.size))) pb { p with spec := f' } ∧
      Two b pb w ((wr.setCell ⟨pb, j, none⟩ v).setCell ⟨b, 0, none⟩ (.string (u.extract 1 u.size))) := by
  refine ⟨?_, ?_, (ht.put (.inr rfl) v).put (.inl rfl) _⟩
  · exact Rdr.put (hr.keep (w' := wr.setCell ⟨pb, j, none⟩ v) (Below.heap_setCell _ _ _ _ (Ne.symm h1)) (Below.heap_setCell _ _ _ _ (Ne.symm h2))) _
  · unfold PieceAt
    rw [Below.heap_setCell _ _ _ _ h1, ← hc]
    exact set_block hp v
theorem flag_less {b bx : Nat} {wr W : World} {u v : ByteArray} (h : wr.cell? ⟨b, 0, none⟩ = some (.string u)) (hr : Rdr W b bx v) (hl : v.size < u.size) : textSize W b < textSize wr b := by
  unfold textSize
  rw [h, hr.s]
  exact hl
set_option maxHeartbeats 4000000 in
set_option maxRecDepth 1000000 in
theorem flags_any (b bx pb : Nat) (t : ByteArray) (p : PieceD) (w : World) (h : Rdr w b bx t) (hp : PieceAt w pb p) (h1 : pb ≠ b) (h2 : pb ≠ bx) (hs : t.size ≤ 140737488355328) :
    Calls Tryz.prog 72 #[.pointer (some ⟨b, 0, none⟩), .pointer (some ⟨pb, 2, none⟩)] w (FlagsPost b bx pb t p w) := by
  have HP := Lib.hid (rfl : flagsF t.size t p.spec = flagsF t.size t p.spec)
  have HR := Lib.hid h
  have HPC := Lib.hid hp
  obtain ⟨sp, hsp⟩ : ∃ sp, flagsF t.size t p.spec = sp := ⟨_, rfl⟩
  unfold FlagsPost
  rw [hsp]
  have HSP := Lib.hid hsp
  clear HP h hp hsp
  go_enter Tryz.func72, Tryz.ntmps72
  go_wp2_with fail
  go_step3
  go_wp2_with fail
  go_step3
  go_wp2_with fail
  go_loopw [8] (fun _ wr => ∃ (n : Nat) (u : ByteArray) (f : SpecD), Hid (flagsF n u f = sp) ∧ u.size ≤ n ∧ n ≤ t.size ∧ Hid (Rdr wr b bx u) ∧ Hid (PieceAt wr pb { p with spec := f }) ∧ Hid (Two b pb w wr)) (fun _ wr => textSize wr b)
  case atStart => exact ⟨t.size, t, p.spec, HSP, Nat.le_refl _, Nat.le_refl _, HR, HPC, Two.refl _ _ _⟩
  case round =>
    obtain ⟨n, u, f, HE, hun, hnt, HRu, HPu, HT⟩ := hrel
    obtain ⟨r0, r1, rx, rf, rne⟩ := HRu.out
    go_wp2_with fail
    refine (peek_any b bx u wr HRu.out).mono ?_
    rintro e w2 ⟨rfl, rfl⟩
    by_cases hu0 : u.size = 0
    · have hb0 : bt u 0 = 0 := by unfold bt; rw [dif_neg (by omega)]
      have hsp : (f, u) = sp := by
        rw [← HE.out]
        cases n with
        | zero => rfl
        | succ n => simp [flagsF, hb0]
      subst hsp
      have hbi : ((bt u 0 : Nat) : Int) = 0 := by rw [hb0]; rfl
      rw [hbi]
      clear hb0 hbi
      go_wp2_with fail
      rw [Exit.noGoto_normal]
      go_end0
      exact ⟨rfl, HRu.out, HPu.out, HT.out⟩
    · obtain ⟨m, rfl⟩ : ∃ m, n = m + 1 := ⟨n - 1, by omega⟩
      have hu1 : 1 ≤ u.size := by omega
      have hdz : (drop1 u).size = u.size - 1 := by simp [drop1]
      obtain ⟨c, hc⟩ : ∃ c, bt u 0 = c := ⟨_, rfl⟩
      have hE := HE.out
      simp only [flagsF, hc] at hE
      rw [hc]
      clear HE
      by_cases hc43 : c = 43
      · subst hc43
        simp at hE
        have HE := Lib.hid hE
        have p0 : wr.cell? ⟨pb, 2, none⟩ = some (.bool f.plus) := cell_of_heap' HPu.out 2
        have q0 : wr.frozen? ⟨pb, 2, none⟩ = false := frozen_of_heap' HPu.out 2
        have r0' : (wr.setCell ⟨pb, 2, none⟩ (.bool true)).cell? ⟨b, 0, none⟩ = some (.string u) := (World.cell?_of_block (a := ⟨b, 0, none⟩) (Below.heap_setCell _ _ _ _ (Ne.symm h1))).trans r0
        have HN := Lib.hid (flag_step HRu.out HPu.out HT.out h1 h2 2 (.bool true) { f with plus := true } rfl)
        clear hc hE hu0
        go_wp2_with fail
        go_roundw
        case rel => exact ⟨m, _, _, HE, by rw [hdz]; omega, by omega, HN.out.1, HN.out.2.1, HN.out.2.2⟩
        case measure => exact flag_less r0 HN.out.1 (by rw [hdz]; omega)
      · by_cases hc45 : c = 45
        · subst hc45
          simp at hE
          have HE := Lib.hid hE
          have p1 : wr.cell? ⟨pb, 3, none⟩ = some (.bool f.minus) := cell_of_heap' HPu.out 3
          have q1 : wr.frozen? ⟨pb, 3, none⟩ = false := frozen_of_heap' HPu.out 3
          have r0' : (wr.setCell ⟨pb, 3, none⟩ (.bool true)).cell? ⟨b, 0, none⟩ = some (.string u) := (World.cell?_of_block (a := ⟨b, 0, none⟩) (Below.heap_setCell _ _ _ _ (Ne.symm h1))).trans r0
          have HN := Lib.hid (flag_step HRu.out HPu.out HT.out h1 h2 3 (.bool true) { f with minus := true } rfl)
          clear hc hE hu0
          go_wp2_with fail
          go_roundw
          case rel => exact ⟨m, _, _, HE, by rw [hdz]; omega, by omega, HN.out.1, HN.out.2.1, HN.out.2.2⟩
          case measure => exact flag_less r0 HN.out.1 (by rw [hdz]; omega)
        · by_cases hc35 : c = 35
          · subst hc35
            simp at hE
            have HE := Lib.hid hE
            have p2 : wr.cell? ⟨pb, 4, none⟩ = some (.bool f.sharp) := cell_of_heap' HPu.out 4
            have q2 : wr.frozen? ⟨pb, 4, none⟩ = false := frozen_of_heap' HPu.out 4
            have r0' : (wr.setCell ⟨pb, 4, none⟩ (.bool true)).cell? ⟨b, 0, none⟩ = some (.string u) := (World.cell?_of_block (a := ⟨b, 0, none⟩) (Below.heap_setCell _ _ _ _ (Ne.symm h1))).trans r0
            have HN := Lib.hid (flag_step HRu.out HPu.out HT.out h1 h2 4 (.bool true) { f with sharp := true } rfl)
            clear hc hE hu0
            go_wp2_with fail
            go_roundw
            case rel => exact ⟨m, _, _, HE, by rw [hdz]; omega, by omega, HN.out.1, HN.out.2.1, HN.out.2.2⟩
            case measure => exact flag_less r0 HN.out.1 (by rw [hdz]; omega)
          · by_cases hc32 : c = 32
            · subst hc32
              simp at hE
              have HE := Lib.hid hE
              have p3 : wr.cell? ⟨pb, 5, none⟩ = some (.bool f.space) := cell_of_heap' HPu.out 5
              have q3 : wr.frozen? ⟨pb, 5, none⟩ = false := frozen_of_heap' HPu.out 5
              have r0' : (wr.setCell ⟨pb, 5, none⟩ (.bool true)).cell? ⟨b, 0, none⟩ = some (.string u) := (World.cell?_of_block (a := ⟨b, 0, none⟩) (Below.heap_setCell _ _ _ _ (Ne.symm h1))).trans r0
              have HN := Lib.hid (flag_step HRu.out HPu.out HT.out h1 h2 5 (.bool true) { f with space := true } rfl)
              clear hc hE hu0
              go_wp2_with fail
              go_roundw
              case rel => exact ⟨m, _, _, HE, by rw [hdz]; omega, by omega, HN.out.1, HN.out.2.1, HN.out.2.2⟩
              case measure => exact flag_less r0 HN.out.1 (by rw [hdz]; omega)
            · by_cases hc48 : c = 48
              · subst hc48
                simp at hE
                have HE := Lib.hid hE
                have p4 : wr.cell? ⟨pb, 6, none⟩ = some (.bool f.zero) := cell_of_heap' HPu.out 6
                have q4 : wr.frozen? ⟨pb, 6, none⟩ = false := frozen_of_heap' HPu.out 6
                have r0' : (wr.setCell ⟨pb, 6, none⟩ (.bool true)).cell? ⟨b, 0, none⟩ = some (.string u) := (World.cell?_of_block (a := ⟨b, 0, none⟩) (Below.heap_setCell _ _ _ _ (Ne.symm h1))).trans r0
                have HN := Lib.hid (flag_step HRu.out HPu.out HT.out h1 h2 6 (.bool true) { f with zero := true } rfl)
                clear hc hE hu0
                go_wp2_with fail
                go_roundw
                case rel => exact ⟨m, _, _, HE, by rw [hdz]; omega, by omega, HN.out.1, HN.out.2.1, HN.out.2.2⟩
                case measure => exact flag_less r0 HN.out.1 (by rw [hdz]; omega)
              · simp only [hc43, hc45, hc35, hc32, hc48, if_false] at hE
                subst hE
                have g43 : ((c : Int) == 43) = false := by simp; omega
                have g45 : ((c : Int) == 45) = false := by simp; omega
                have g35 : ((c : Int) == 35) = false := by simp; omega
                have g32 : ((c : Int) == 32) = false := by simp; omega
                have g48 : ((c : Int) == 48) = false := by simp; omega
                clear hc hu0 hc43 hc45 hc35 hc32 hc48
                go_wp2_with fail
                rw [Exit.noGoto_normal]
                go_end0
                exact ⟨rfl, HRu.out, HPu.out, HT.out⟩
end Go.Proofs.YtnalppgjbllehaaGreatDoor

/- The digits ahead of a reader, and their number: parse's digits and number. No condition but the texts' sizes. -/
namespace Go.Proofs.YtnalppgjbllehaaGreatDoor
set_option linter.unusedVariables false
set_option linter.unusedSimpArgs false
open Go.RowKit

def isDg (c : Nat) : Bool := decide (48 ≤ c ∧ c ≤ 57)
/-- How many digits stand behind a place. -/
def digF' : Nat → ByteArray → Nat → Nat
  | 0, _, i => i
  | n + 1, t, i => if isDg (bt t i) = true then digF' n t (i + 1) else i
def digN (t : ByteArray) : Nat := digF' t.size t 0
def digD (t : ByteArray) : ByteArray := t.extract 0 (digN t)
def digR (t : ByteArray) : ByteArray := t.extract (digN t) t.size
theorem index_bt (t : ByteArray) (k : Nat) (h : k < t.size) (W : World) : (Instr.index 9 (.string t) (.int .i64 (k : Int))).run Tryz.prog W = .ok (.int .u8 (bt t k : Int)) W := by
  rw [run_index_string (P := Tryz.prog) W 9 t .i64 _ Tryz.underlying9, dif_pos ⟨by omega, by omega⟩]
  unfold bt
  rw [dif_pos h]
  rfl
theorem bt_le (t : ByteArray) (k : Nat) : bt t k ≤ 255 := by
  unfold bt
  split
  · have := t[k].toNat_lt; omega
  · omega
set_option maxHeartbeats 4000000 in
set_option maxRecDepth 1000000 in
theorem rdigits_any (b bx : Nat) (t : ByteArray) (w : World) (h : Rdr w b bx t) (hs : t.size ≤ 140737488355328) :
    Calls Tryz.prog 101 #[.pointer (some ⟨b, 0, none⟩)] w fun e w' => e = .returned (.string (digD t)) ∧ w' = w.setCell ⟨b, 0, none⟩ (.string (digR t)) := by
  obtain ⟨r0, r1, rx, rf, rne⟩ := h
  obtain ⟨N, hN⟩ : ∃ N, digN t = N := ⟨_, rfl⟩
  unfold digD digR
  rw [hN]
  have HN := Lib.hid hN
  clear hN r1 rx rne
  go_enter Tryz.func101, Tryz.ntmps101
  go_wp2_with fail
  go_loop [3] (fun n => ∃ k m : Nat, n = .int .i64 (k : Int) ∧ k + m = t.size ∧ Hid (digF' m t k = N)) (fun n => t.size - (intOf n).toNat)
  case atStart => exact ⟨0, t.size, rfl, by omega, HN⟩
  case round =>
    obtain ⟨k, m, rfl, hkm, HD⟩ := hrel
    by_cases hk : k < t.size
    · obtain ⟨m, rfl⟩ : ∃ m', m = m' + 1 := ⟨m - 1, by omega⟩
      have hix := fun W => index_bt t k hk W
      have hb := bt_le t k
      have hd := HD.out
      simp only [digF'] at hd
      obtain ⟨c, hc⟩ : ∃ c, bt t k = c := ⟨_, rfl⟩
      rw [hc] at hix hb hd
      by_cases h1 : c < 48
      · have e1 : decide ((48 : Int) ≤ (c : Int)) = false := by simp; omega
        have e2 : ¬ (48 : Int) ≤ (c : Int) := by omega
        have hk2 : k = N := by rw [← hd, if_neg (by simp [isDg]; omega)]
        subst hk2
        clear hc hd
        go_wp2_with fail
        go_ret
        exact ⟨rfl, rfl⟩
      · by_cases h2 : 57 < c
        · have e2 : (48 : Int) ≤ (c : Int) := by omega
          have e1 : decide ((c : Int) ≤ (57 : Int)) = false := by simp; omega
          have e3 : ¬ (c : Int) ≤ (57 : Int) := by omega
          have hk2 : k = N := by rw [← hd, if_neg (by simp [isDg]; omega)]
          subst hk2
          clear hc hd
          go_wp2_with fail
          go_ret
          exact ⟨rfl, rfl⟩
        · have e2 : (48 : Int) ≤ (c : Int) := by omega
          have e3 : (c : Int) ≤ (57 : Int) := by omega
          rw [if_pos (by simp [isDg]; omega)] at hd
          have HD2 := Lib.hid hd
          clear hc hd
          go_wp2_with fail
          go_round
          case rel => exact ⟨k + 1, m, by go_num, by omega, HD2⟩
          case measure => simp [intOf]; omega
    · have hm : m = 0 := by omega
      subst hm
      have hk2 : k = N := HD.out
      subst hk2
      go_wp2_with fail
      go_ret
      exact ⟨rfl, rfl⟩
def numF : Nat → ByteArray → Nat → Int → Int → Int
  | 0, _, _, n, _ => n
  | k + 1, d, i, n, lim => if lim < 10 * n + ((bt d i : Int) - 48) then -1 else numF k d (i + 1) (10 * n + ((bt d i : Int) - 48)) lim
def numB (d : ByteArray) (lim : Int) : Int := numF d.size d 0 0 lim
/-- A text's bytes in new memory. -/
theorem bytes_of (s : ByteArray) (w : World) : ∃ W c, (convert 9 42 (.string s)).run Tryz.prog w = .ok (.slice (some ⟨w.heap.size, 0, none⟩) s.size c) W ∧ Below w.heap.size w W ∧
    ∀ i (h : i < s.size), W.cell? ⟨w.heap.size, i, none⟩ = some (.int .u8 (bt s i : Int)) := by
  refine ⟨_, _, run_bytes_of_string w 9 42 5 s Tryz.underlying9 Tryz.underlying42 Tryz.underlying5, ?_, ?_⟩
  · exact (Below.refl _ w).drew.alloc (Nat.le_refl _) _
  · intro i hi
    have e : ∀ (C : Array Value) (t : TypeId) (fr : Nat × Nat), (w.drew.alloc (.cells C t fr)).cell? ⟨w.heap.size, i, none⟩ = C[i]? := fun C t fr => World.cell?_alloc_mark w.drew C t fr i
    rw [e, bytesRow_at s _ i (by simpa using hi)]
    unfold bt
    rw [dif_pos hi]
    rfl
set_option maxHeartbeats 4000000 in
set_option maxRecDepth 1000000 in
theorem number_any (d : ByteArray) (lim : Int) (w : World) (hs : d.size ≤ 140737488355328) (hdg : ∀ i, i < d.size → isDg (bt d i) = true) (h0 : 0 ≤ lim) (h1 : lim ≤ 1000000000) :
    Calls Tryz.prog 100 #[.string d, .int .i64 lim] w (Ret w (.int .i64 (numB d lim))) := by
  obtain ⟨W, c, hconv, hB, hcell⟩ := bytes_of d w
  have HB := Lib.hid hB
  have HC := Lib.hid hcell
  have HDG := Lib.hid hdg
  obtain ⟨r, hr⟩ : ∃ r, numB d lim = r := ⟨_, rfl⟩
  rw [hr]
  have HR : Hid (numF d.size d 0 0 lim = r) := hr
  clear hB hcell hr hdg
  go_enter Tryz.func100, Tryz.ntmps100
  go_wp2_with fail
  go_loopw [5, 11] (fun nn kk wr => ∃ (k m : Nat) (n : Int), nn = .int .i64 n ∧ kk = .int .i64 (k : Int) ∧ k + m = d.size ∧ 0 ≤ n ∧ n ≤ lim ∧ Hid (numF m d k n lim = r) ∧ wr = W) (fun _ kk _ => d.size - (intOf kk).toNat)
  case atStart => exact ⟨0, d.size, 0, rfl, rfl, by omega, Int.le_refl _, h0, HR, rfl⟩
  case round =>
    obtain ⟨k, m, n, rfl, rfl, hkm, hn0, hn1, HN, rfl⟩ := hrel
    by_cases hk : k < d.size
    · obtain ⟨m, rfl⟩ : ∃ m', m = m' + 1 := ⟨m - 1, by omega⟩
      have k0 := HC.out k hk
      have hdk := of_decide_eq_true (HDG.out k hk)
      have hd := HN.out
      simp only [numF] at hd
      obtain ⟨x, hx⟩ : ∃ x, bt d k = x := ⟨_, rfl⟩
      rw [hx] at k0 hdk hd
      obtain ⟨hx0, hx1⟩ := hdk
      have e48 : IntKind.u8.wrap ((x : Int) - 48) = (x : Int) - 48 := IntWalk.u8_in _ ⟨by omega, by omega⟩
      have b1 : (48 : Int) ≤ (x : Int) := by omega
      have b2 : (x : Int) ≤ 57 := by omega
      clear hx
      by_cases hl : lim < 10 * n + ((x : Int) - 48)
      · rw [if_pos hl] at hd
        subst hd
        go_wp2_with fail
        go_ret
        exact ⟨rfl, HB.out⟩
      · rw [if_neg hl] at hd
        have HN2 := Lib.hid hd
        clear hd
        go_wp2_with fail
        go_roundw
        case rel => exact ⟨k + 1, m, _, rfl, by go_num, by omega, by omega, by omega, HN2, by first | trivial | rfl⟩
        case measure => simp [intOf]; omega
    · have hm : m = 0 := by omega
      subst hm
      have hd : n = r := HN.out
      subst hd
      go_wp2_with fail
      go_ret
      exact ⟨rfl, HB.out⟩
end Go.Proofs.YtnalppgjbllehaaGreatDoor
