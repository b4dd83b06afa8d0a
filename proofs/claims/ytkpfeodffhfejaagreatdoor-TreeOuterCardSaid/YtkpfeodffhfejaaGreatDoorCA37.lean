/- A spec in memory; what a store leaves. No condition. -/
import Derived.Test.YtkpfeodffhfejaaGreatDoorCA36
import Derived.Laws.Tables
import Derived.Laws.Rows
import Derived.Deep.MidRow
import Derived.Test.YtkpfeodffhfejaaGreatDoorCA12
import Derived.Lib.OthersKept
import Derived.Laws.AppendOwn
import Derived.Lib.Strings
import Derived.Lib.BufferRead
namespace Go.Proofs.YtkpfeodffhfejaaGreatDoor
set_option linter.unusedVariables false
set_option linter.unusedSimpArgs false
open Go.RowKit

theorem frozen_of_heap' {w : World} {b : Nat} {cs : Array Value} {T : TypeId} (hb : w.heap[b]? = some (.cells cs T (0, 0))) (j : Nat) : w.frozen? ⟨b, j, none⟩ = false := by
  simp [World.frozen?, hb]
theorem set_block {w : World} {b j : Nat} {cs : Array Value} {T : TypeId} (h : w.heap[b]? = some (.cells cs T (0, 0))) (v : Value) : (w.setCell ⟨b, j, none⟩ v).heap[b]? = some (.cells (cs.setIfInBounds j v) T (0, 0)) := by
  simp [World.setCell, Array.getElem?_modify, h]
theorem _root_.Go.RowKit.Below.row {B : Nat} {w w' : World} (h : Below B w w') (g : Nat) (cs : Array Value) (hg : B ≤ g) : Below B w (w'.setRow g cs) :=
  ⟨h.os, h.tape, h.output, by rw [setRow_size]; exact h.size, fun k hk => (setRow_other w' g k cs (by omega)).trans (h.block k hk)⟩
def Ret2 (w : World) (s : ByteArray) (b : Bool) (e : Ending) (w' : World) : Prop := e = .returned (.tuple #[.string s, .bool b]) ∧ Below w.heap.size w w'
def specCells (f : SpecD) : Array Value := #[.bool f.plus, .bool f.minus, .bool f.sharp, .bool f.space, .bool f.zero, .int .i64 f.wid, .int .i64 f.prec, .int .i32 f.verb]
def SpecB (w : World) (b : Nat) (f : SpecD) : Prop := w.heap[b]? = some (.cells (specCells f) 33 (0, 0))
def bareD : SpecD := ⟨false, false, false, false, false, -1, -1, 118⟩
theorem spec_size (f : SpecD) : (Tryz.prog.info? 33).map (·.size) = some (specCells f).size := by kernel_rfl
theorem load_spec {W : World} {b : Nat} {f : SpecD} (h : SpecB W b f) : (loadVar 33 ⟨b, 0, none⟩).run Tryz.prog W = .ok (.agg (specCells f)) W :=
  run_loadVar_row W b 33 33 (specCells f) (0, 0) _ h Tryz.underlying33 rfl (spec_size f)
theorem spec_one (f : SpecD) : (specCells f).all (·.oneCell') = true := by simp [specCells, Value.oneCell']
theorem exec_load_row {P : Program} {ρ : Operand → Value} {o : Oper} {w : World} (ty : TypeId) (x : Operand) (ho : o.op = .load ty x) (g : Nat) (hx : ρ x = .pointer (some ⟨g, 0, none⟩)) (cs : Array Value)
    (hl : (loadVar ty ⟨g, 0, none⟩).run P w = .ok (.agg cs) w) : (execOp ρ o).run P w = .ok (.value (.agg cs)) w := by
  unfold execOp
  simp only [ho, hx, Instr.loadAt, Instr.sureAddr, Sem.run_bind, Sem.run_pure, Result.andThen_ok, hl]
theorem wpList_build_is {P : Program} {ops : Array Oper} {rest : List Oper} {o : Oper} {a : Act} {w : World} {Q : Exit → Act → World → Prop} (hg : o.guard = none) (t : TypeId) (parts : Array (Nat × Operand)) (ho : o.op = .build t parts)
    (vals : List (Nat × Value)) (hv : (parts.toList.map fun (i, x) => (i, a.eval x)) = vals) (cells : Array Value) (hc : P.built t vals = some cells)
    (h : wpList P ops Q rest (a.put o.dst (.agg cells)) w) : wpList P ops Q (o :: rest) a w :=
  wpList_build hg t parts ho (by rw [Array.toList_map, hv, hc]; rfl) (by rw [Array.toList_map, hv, hc]; exact h)
theorem wpList_index_is {P : Program} {ops : Array Oper} {rest : List Oper} {o : Oper} {a : Act} {w : World} {Q : Exit → Act → World → Prop} (hg : o.guard = none) (t : TypeId) (x i : Operand) (ho : o.op = .index t x i)
    (v k r : Value) (hx : a.eval x = v) (hi : a.eval i = k) (hr : (Instr.index t v k).run P w = .ok r w)
    (h : wpList P ops Q rest (a.put o.dst r) w) : wpList P ops Q (o :: rest) a w :=
  wpList_plain hg fun _ hK => by
    unfold Oper.wp execOp
    simp only [ho, hx, hi, hr, Sem.run_bind, Result.andThen_ok]
    exact hK _ _ h
end Go.Proofs.YtkpfeodffhfejaaGreatDoor

/- Rows of bytes that grow. No condition. -/
namespace Go.Proofs.YtkpfeodffhfejaaGreatDoor
set_option linter.unusedVariables false
set_option linter.unusedSimpArgs false
open Go.RowKit

/-- A slice that owns a row of bytes. -/
def Row8 (B : Nat) (v : Value) (s : ByteArray) (w : World) : Prop := w.ownsRow B 5 1 v s.size (Lib.strCells s)
def P8 (B : Nat) (s : ByteArray) (w : World) (e : Ending) (w' : World) : Prop := ∃ v', e = .returned v' ∧ Row8 B v' s w' ∧ Below B w w' ∧ Lib.OthersKept 5 none w w'
theorem byte8 : (Tryz.prog.info? 5).map (fun i => (i.zero, i.size, i.bytes)) = some (some (.int .u8 0), 1, 1) := by kernel_rfl
theorem cells8_app (a b : ByteArray) : Lib.strCells (a ++ b) = Lib.strCells a ++ Lib.strCells b := by
  unfold Lib.strCells
  rw [ByteArray.data_append, Array.toList_append, List.map_append]
theorem row_kind8 {w : World} {B : Nat} {e : TypeId} {v : Value} {n : Nat} {xs : List Value} (h : w.ownsRow B e 1 v n xs) : ∀ g, v.ownBlock = some g → ∃ c fz, w.heap[g]? = some (.cells c e fz) := by
  intro g hg
  rcases h.2 with ⟨rfl, _⟩ | ⟨k, cap, cur, rfl, _, hk, _⟩
  · cases hg
  · injection hg with hg
    subst hg
    exact ⟨_, _, hk⟩
/-- A row has grown. -/
theorem grown8 {B : Nat} {v : Value} {n : Nat} {xs : List Value} {w w1 w' : World} (h : w1.ownsRow B 5 1 v n xs) (hb : Below B w w1) (hk : Lib.OthersKept 5 none w w1) (hB : B ≤ w.heap.size) (hg : w1.grownBy w' v.ownBlock) : Below B w w' ∧ Lib.OthersKept 5 none w w' :=
  ⟨hb.grown hg (Nat.le_trans hB hb.size) (fun k hk => (h.lt k hk).1), hk.grown hg (row_kind8 h)⟩
theorem slice8 {B : Nat} {v : Value} {s : ByteArray} {w : World} (h : Row8 B v s w) : ∃ a c, v = .slice a s.size c := by
  rcases h.2 with ⟨rfl, h0⟩ | ⟨g, cap, cur, rfl, _⟩
  · exact ⟨none, 0, by rw [h0]⟩
  · exact ⟨_, _, rfl⟩
theorem text_of_row8 {w : World} {B : Nat} {v : Value} {n : Nat} {s : ByteArray} (h : w.ownsRow B 5 1 v n (Lib.strCells s)) : (convert 46 9 v).run Tryz.prog w = .ok (.string s) w := by
  have hl : s.size = n := by have := h.1; rw [Lib.strCells_length] at this; omega
  rcases h.2 with ⟨rfl, h0⟩ | ⟨g, cap, cur, rfl, hbg, hg, hnc, hcm, hcs, htake⟩
  · have hs : s = ⟨#[]⟩ := by
      apply ByteArray.ext
      exact Array.eq_empty_of_size_eq_zero (by show s.size = 0; omega)
    rw [hs]
    exact Lib.run_convert_nil_bytes w 46 9 5 0 Tryz.underlying46 Tryz.underlying5 Tryz.underlying9
  · have hc : ∀ j u, (Lib.strCells s)[j]? = some u → w.cell? ((⟨g, 0, none⟩ : Addr).add j) = some u := h.cells (g := g) rfl
    have := run_convert_bytes_back (P := Tryz.prog) w 46 9 5 ⟨g, 0, none⟩ cap s.data.toList Tryz.underlying46 Tryz.underlying5 Tryz.underlying9 (fun j hj => by
      refine hc j _ ?_
      unfold Lib.strCells
      rw [List.getElem?_map, List.getElem?_eq_getElem hj]
      rfl)
    have e : s.data.toList.length = n := by rw [Array.length_toList]; exact hl
    rw [e] at this
    exact this
end Go.Proofs.YtkpfeodffhfejaaGreatDoor

/- A plain text in quotes: quote's put and Quote at bytes that stand as they are. Condition: the text's size. -/
namespace Go.Proofs.YtkpfeodffhfejaaGreatDoor
set_option linter.unusedVariables false
set_option linter.unusedSimpArgs false
open Go.RowKit

theorem P8.mk' {B : Nat} {s : ByteArray} {w w' : World} {e : Ending} (v' : Value) (h : e = .returned v') (h1 : Row8 B v' s w') (h2 : Below B w w') (h3 : Lib.OthersKept 5 none w w') : P8 B s w e w' := ⟨v', h, h1, h2, h3⟩
theorem byte_of {c : Int} (h0 : 0 ≤ c) (h1 : c ≤ 255) : (((c.toNat.toUInt8).toNat : Nat) : Int) = c := by
  have : c.toNat < 256 := by omega
  rw [show c.toNat.toUInt8.toNat = c.toNat from by simp [Nat.toUInt8]; omega]
  omega
set_option maxHeartbeats 4000000 in
set_option maxRecDepth 1000000 in
theorem append_ascii {B : Nat} {v : Value} {s : ByteArray} {w : World} (c : Int) (hr : Row8 B v s w) (hB : B ≤ w.heap.size) (hs : s.size ≤ 1000000000000) (h0 : 0 ≤ c) (h1 : c ≤ 127) :
    Calls Tryz.prog 97 #[v, .int .i32 c] w (P8 B (s ++ ⟨#[c.toNat.toUInt8]⟩) w) := by
  obtain ⟨a, cp, rfl⟩ := slice8 hr
  obtain ⟨i5, hi5, hz5, hs5, hb5⟩ := info_parts byte8
  have HR : Hid ((w.alloc (.cells #[.int .u8 c] 5)).ownsRow B 5 1 (.slice a s.size cp) s.size (Lib.strCells s)) := Lib.hid (hr.alloc _)
  have HN : Hid ((w.alloc (.cells #[.int .u8 c] 5)).heap[w.heap.size]? = some (.cells #[.int .u8 c] 5 (0, 0))) := Lib.hid (heap_alloc_new w _)
  have HKR : Hid (∀ g, (Value.slice a s.size cp).ownBlock = some g → ∃ cc fz, (w.alloc (.cells #[.int .u8 c] 5)).heap[g]? = some (.cells cc 5 fz)) := Lib.hid (row_kind8 HR.out)
  have HB := Lib.hid ((Below.refl B w).alloc hB (.cells #[.int .u8 c] 5))
  have HO : Hid (Lib.OthersKept 5 none w (w.alloc (.cells #[.int .u8 c] 5))) := Lib.hid ((Lib.OthersKept.refl _ _ w).alloc _)
  obtain ⟨m, hm⟩ : ∃ m, s.size = m := ⟨_, rfl⟩
  have HM := Lib.hid hm
  rw [hm] at HR HKR hs ⊢
  have HBS := Lib.hid hB
  clear hr hm
  have e1 : IntKind.u32.wrap c = c := by rw [IntKind.wrap_u32] <;> omega
  have e2 : IntKind.u8.wrap c = c := by rw [IntKind.wrap_u8] <;> omega
  go_enter Tryz.func97, Tryz.ntmps97
  go_wp2_with (at_builtin; refine wpList_append_own _ rfl _ _ 46 rfl B 5 i5 (.int .u8 0) 1 1 Tryz.underlying46 hi5 hz5 hs5 hb5 rfl (by decide) _ _ _ rfl HR.out ⟨w.heap.size, 0, none⟩ 1 1 [.int .u8 c] rfl rfl ?c1 ?c2 ?c3 ?c4 ?c5 ?_)
  case c1 => exact World.news_of_block (cs := #[.int .u8 c]) (t := 5) (fr := (0, 0)) HN.out
  case c2 => simp [Value.oneCell']
  case c3 => unfold maxLen; omega
  case c4 => omega
  case c5 => simp; omega
  intro v' w1 hown hgrow _
  have hRow : Row8 B v' (s ++ ⟨#[c.toNat.toUInt8]⟩) w1 := by
    have : Lib.strCells (s ++ ⟨#[c.toNat.toUInt8]⟩) = Lib.strCells s ++ [.int .u8 c] := by
      rw [cells8_app]
      show Lib.strCells s ++ [Value.int .u8 ((c.toNat.toUInt8.toNat : Nat) : Int)] = _
      rw [byte_of h0 (by omega : c ≤ 255)]
    unfold Row8
    rw [this, ByteArray.size_append, HM.out]
    exact hown
  have hBel : Below B w w1 := HB.out.grown hgrow (Nat.le_trans HBS.out HB.out.size) (fun k hk => (HR.out.lt k hk).1)
  have hOth : Lib.OthersKept 5 none w w1 := HO.out.grown hgrow HKR.out
  have HE : Hid (P8 B (s ++ ⟨#[c.toNat.toUInt8]⟩) w (.returned v') w1) := Lib.hid ⟨v', rfl, hRow, hBel, hOth⟩
  clear hown hgrow hRow hBel hOth
  go_wp2_with fail
  refine bodyPost_ret (v := v') (by simp [results, Tryz.f97, go_sem]) rfl ?_
  exact HE.out
set_option maxHeartbeats 4000000 in
set_option maxRecDepth 1000000 in
theorem put_plain {B : Nat} {v : Value} {s : ByteArray} {w : World} (c : Int) (asc : Bool) (hr : Row8 B v s w) (hB : B ≤ w.heap.size) (hs : s.size ≤ 1000000000000) (h0 : 32 ≤ c) (h1 : c ≤ 126) (h2 : c ≠ 34) (h3 : c ≠ 92) :
    Calls Tryz.prog 70 #[v, .int .i32 c, .int .i32 34, .bool asc] w (P8 B (s ++ ⟨#[c.toNat.toUInt8]⟩) w) := by
  have HA : Hid (Calls Tryz.prog 97 #[v, .int .i32 c] w (P8 B (s ++ ⟨#[c.toNat.toUInt8]⟩) w)) := Lib.hid (append_ascii c hr hB hs (by omega) (by omega))
  clear hr hB hs
  generalize (s ++ ⟨#[c.toNat.toUInt8]⟩) = T at HA ⊢
  have g1 : (c == 34) = false := by simpa using h2
  have g2 : (c == 92) = false := by simpa using h3
  have g3 : ¬ c ≤ 13 := by omega
  have g4 : c < 127 := by omega
  have g5 : 7 ≤ c := by omega
  clear h2 h3 h1
  go_enter Tryz.func70, Tryz.ntmps70
  go_wp2_with fail
  refine HA.out.mono ?_
  rintro e w1 ⟨v', rfl, q1, q2, q3⟩
  have HE : Hid (P8 B T w (.returned v') w1) := Lib.hid ⟨v', rfl, q1, q2, q3⟩
  clear q1 q2 q3
  go_wp2_with fail
  refine bodyPost_ret (v := v') (by simp [results, Tryz.f70, go_sem]) rfl ?_
  exact HE.out
/-- Does a byte stand in quotes as it is? -/
def asIs (s : ByteArray) : Prop := ∀ i (h : i < s.size), 32 ≤ (s[i]).toNat ∧ (s[i]).toNat ≤ 126 ∧ (s[i]).toNat ≠ 34 ∧ (s[i]).toNat ≠ 92
theorem iter8 {B k : Nat} {v : Value} {t : ByteArray} {w : World} {s : ByteArray} {pos pos' : Nat} (h : Row8 B v t w) (hk : w.heap[k]? = some (.stringIter s pos)) : Row8 B v t (w.iterAt k s pos') := by
  refine owns_blockV h fun g hg => ?_
  obtain ⟨c, fz, hc⟩ := row_kind8 h g hg
  refine Lib.iterAt_other _ _ _ _ _ ?_
  rintro rfl
  rw [hk] at hc
  cases hc
theorem pre_succ (s : ByteArray) (i : Nat) (h : i < s.size) : ⟨#[34]⟩ ++ s.extract 0 (i + 1) = ⟨#[34]⟩ ++ s.extract 0 i ++ ⟨#[(((s[i]).toNat : Nat) : Int).toNat.toUInt8]⟩ := by
  have e : (((s[i]).toNat : Nat) : Int).toNat.toUInt8 = s[i] := by simp
  rw [e, ByteArray.append_assoc]
  congr 1
  apply ByteArray.ext
  apply Array.ext'
  have hl : i < s.data.toList.length := by rw [Array.length_toList]; exact h
  simp only [ByteArray.data_extract, ByteArray.data_append, Array.toList_append, Array.toList_extract, List.extract_eq_take_drop, List.drop_zero, Nat.sub_zero]
  rw [List.take_succ_eq_append_getElem hl]
  rfl
set_option maxHeartbeats 4000000 in
set_option maxRecDepth 1000000 in
theorem quote_plain (s : ByteArray) (asc : Bool) (w : World) (hs : s.size ≤ 100000000000) (hp : asIs s) :
    Calls Tryz.prog 42 #[.string s, .bool asc] w (Ret w (.string (⟨#[34]⟩ ++ s ++ ⟨#[34]⟩))) := by
  have HP := Lib.hid hp
  have H0 : Hid (Row8 w.heap.size (.slice (some ⟨w.heap.size, 0, none⟩) 1 1) (⟨#[34]⟩ ++ s.extract 0 0) ((w.alloc (.cells #[.int .u8 34] 5)).iter s 0) ∧ ((w.alloc (.cells #[.int .u8 34] 5)).iter s 0).heap[w.heap.size + 1]? = some (.stringIter s 0) ∧ Below w.heap.size w ((w.alloc (.cells #[.int .u8 34] 5)).iter s 0)) := by
    refine Lib.hid ⟨?_, ?_, ((Below.new _).push _)⟩
    · have e : (⟨#[34]⟩ : ByteArray) ++ s.extract 0 0 = ⟨#[34]⟩ := by
        apply ByteArray.ext
        simp [ByteArray.data_append, ByteArray.data_extract]
      rw [e]
      refine World.ownsRow.alloc (⟨rfl, .inr ⟨w.heap.size, 1, #[.int .u8 34], rfl, Nat.le_refl _, heap_alloc_new w _, Nat.le_refl _, by unfold maxLen; show 1 ≤ _; omega, rfl, rfl⟩⟩) _
    · have := World.iter_heap (w.alloc (.cells #[.int .u8 34] 5)) s 0
      simpa using this
  clear hp
  go_enter Tryz.func42, Tryz.ntmps42
  go_wp2_with fail
  go_loopw [5, 6, 7] (fun o p6 p7 wr => ∃ (i : Nat), i ≤ s.size ∧ Hid (Row8 w.heap.size o (⟨#[34]⟩ ++ s.extract 0 i) wr) ∧ Hid (wr.heap[w.heap.size + 1]? = some (.stringIter s i)) ∧ Hid (Below w.heap.size w wr)) (fun _ _ _ wr => s.size - wr.iterPos (w.heap.size + 1))
  case atStart => exact ⟨0, Nat.zero_le _, Lib.hid H0.out.1, Lib.hid H0.out.2.1, Lib.hid H0.out.2.2⟩
  case round =>
    obtain ⟨i, hi, HR, HI, HB⟩ := hrel
    by_cases hp : i < s.size
    · obtain ⟨b1, b2, b3, b4⟩ := HP.out i hp
      have hnx : ∀ ty, (Instr.next (.pointer (some ⟨w.heap.size + 1, 0, none⟩)) true ty).run Tryz.prog wr = _ := fun ty => Lib.run_next_ascii_at wr (w.heap.size + 1) s i ty HI.out hp (by omega)
      have HPS := Lib.hid (pre_succ s i hp)
      have hz : (s.extract 0 i).size ≤ s.size := by rw [ByteArray.size_extract]; omega
      have HZ : Hid ((⟨#[34]⟩ ++ s.extract 0 i : ByteArray).size ≤ 1000000000000) := Lib.hid (by rw [ByteArray.size_append]; show 1 + _ ≤ _; omega)
      have HR1 := Lib.hid (iter8 (pos' := i + 1) HR.out HI.out)
      have HI1 := Lib.hid (Lib.iterAt_heap wr (w.heap.size + 1) s i (i + 1) HI.out)
      have HB1 := Lib.hid (Lib.below_iterAt HB.out (by omega : w.heap.size ≤ w.heap.size + 1) s (i + 1))
      obtain ⟨c, hc⟩ : ∃ c, (s[i]).toNat = c := ⟨_, rfl⟩
      rw [hc] at b1 b2 b3 b4 hnx HPS
      generalize wr.iterAt (w.heap.size + 1) s (i + 1) = W1 at hnx HR1 HI1 HB1
      clear hc hz
      have g1 : ((c : Int) == 65533) = false := by rw [beq_eq_false_iff_ne]; omega
      have b1' : (32 : Int) ≤ (c : Int) := by omega
      have b2' : (c : Int) ≤ 126 := by omega
      have b3' : (c : Int) ≠ 34 := by omega
      have b4' : (c : Int) ≠ 92 := by omega
      have HPUT := Lib.hid (put_plain (c : Int) asc HR1.out HB1.out.size HZ.out b1' b2' b3' b4')
      clear b1 b2 b3 b4 b1' b2' b3' b4'
      go_wp2_with fail
      refine HPUT.out.mono ?_
      rintro e w2 ⟨v', rfl, q1, q2, q3⟩
      rw [← HPS.out] at q1
      have hlt : w.heap.size + 1 < W1.heap.size := (Array.getElem?_eq_some_iff.1 HI1.out).1
      have HE : Hid (Row8 w.heap.size v' (⟨#[34]⟩ ++ s.extract 0 (i + 1)) w2 ∧ w2.heap[w.heap.size + 1]? = some (.stringIter s (i + 1)) ∧ Below w.heap.size w w2) :=
        Lib.hid ⟨q1, q3 _ _ HI1.out (by simp) (fun _ _ h => by cases h), HB1.out.trans q2⟩
      clear q1 q2 q3 hlt
      go_wp2_with fail
      go_roundw
      case rel => exact ⟨i + 1, by omega, Lib.hid HE.out.1, Lib.hid HE.out.2.1, Lib.hid HE.out.2.2⟩
      case measure =>
        simp only [World.iterPos, HE.out.2.1, HI.out]
        omega
    · have hnx : ∀ ty, (Instr.next (.pointer (some ⟨w.heap.size + 1, 0, none⟩)) true ty).run Tryz.prog wr = _ := fun ty => Lib.run_next_end_at wr (w.heap.size + 1) s i ty HI.out hp
      have he : i = s.size := by omega
      have HS : Hid ((⟨#[34]⟩ : ByteArray) ++ s.extract 0 i = ⟨#[34]⟩ ++ s) := by
        rw [he]
        apply Lib.hid
        congr 1
        apply ByteArray.ext
        simp [ByteArray.data_extract]
      obtain ⟨T, hT⟩ : ∃ T, (⟨#[34]⟩ : ByteArray) ++ s = T := ⟨_, rfl⟩
      have HTZ : Hid (T.size ≤ 1000000000000) := Lib.hid (by rw [← hT, ByteArray.size_append]; show 1 + _ ≤ _; omega)
      have hR := HR.out
      rw [HS.out, hT] at hR
      have HT := Lib.hid hT
      clear HS hT HR HP he hp hs
      obtain ⟨a, cp, rfl⟩ := slice8 hR
      obtain ⟨i5, hi5, hz5, hs5, hb5⟩ := info_parts byte8
      have HR : Hid ((wr.alloc (.cells #[.int .u8 34] 5)).ownsRow w.heap.size 5 1 (.slice a T.size cp) T.size (Lib.strCells T)) := Lib.hid (hR.alloc _)
      have HN : Hid ((wr.alloc (.cells #[.int .u8 34] 5)).heap[wr.heap.size]? = some (.cells #[.int .u8 34] 5 (0, 0))) := Lib.hid (heap_alloc_new wr _)
      have HBA := Lib.hid (HB.out.push (.cells #[.int .u8 34] 5))
      obtain ⟨m, hm⟩ : ∃ m, T.size = m := ⟨_, rfl⟩
      have HM := Lib.hid hm
      have hmz := HTZ.out
      rw [hm] at HR hmz ⊢
      clear hm hR
      go_wp2_with (at_builtin; refine wpList_append_own _ rfl _ _ 46 rfl w.heap.size 5 i5 (.int .u8 0) 1 1 Tryz.underlying46 hi5 hz5 hs5 hb5 rfl (by decide) _ _ _ rfl HR.out ⟨wr.heap.size, 0, none⟩ 1 1 [.int .u8 34] rfl rfl ?c1 ?c2 ?c3 ?c4 ?c5 ?_)
      case c1 => exact World.news_of_block (cs := #[.int .u8 34]) (t := 5) (fr := (0, 0)) HN.out
      case c2 => simp [Value.oneCell']
      case c3 => have := HB.out.size; unfold maxLen; omega
      case c4 => have := HB.out.size; omega
      case c5 => have := HB.out.size; simp; omega
      intro v' w1 hown hgrow _
      have hRow : Row8 w.heap.size v' (T ++ ⟨#[34]⟩) w1 := by
        have : Lib.strCells (T ++ ⟨#[34]⟩) = Lib.strCells T ++ [.int .u8 34] := by
          rw [cells8_app]; rfl
        unfold Row8
        rw [this, ByteArray.size_append, HM.out]
        exact hown
      have HBel : Hid (Below w.heap.size w w1) := Lib.hid (HBA.out.grown hgrow HBA.out.size (fun k hk => (HR.out.lt k hk).1))
      have hcv := text_of_row8 hRow
      clear hown hgrow hRow
      go_wp2_with fail
      go_ret
      exact ⟨by rw [HT.out]; rfl, HBel.out⟩
end Go.Proofs.YtkpfeodffhfejaaGreatDoor
