/- The descriptors of the law: a number, a text. No condition. -/
import Derived.Test.YtnalppgjbllehaaGreatDoorL47
namespace Go.Proofs.YtnalppgjbllehaaGreatDoor
set_option linter.unusedVariables false
set_option linter.unusedSimpArgs false
open Go.RowKit

def numD' (n : Int) : D := .mk 6 ⟨#[]⟩ n 0 ⟨#[]⟩ [] [] 0
def textD' (s : ByteArray) : D := .mk 16 ⟨#[]⟩ 0 0 s [] [] 0
theorem isD_num (w : World) (n : Int) (h : U64 n) : IsD w (aggD (numD' n) none 0 none 0) (numD' n) :=
  .mk _ none 0 none 0 0 0 (show I64 6 from ⟨by decide, by decide⟩) h (show U64 0 from ⟨by decide, by decide⟩) (show I64 0 from ⟨by decide, by decide⟩) (Nat.zero_le _) (Nat.zero_le _) ⟨Nat.le_refl _, Nat.zero_le _, 0, 0, fun h => absurd h (Nat.not_lt_zero _), fun i h => absurd h (Nat.not_lt_zero _), fun x h => by cases h⟩ (Nat.le_refl _) (Nat.zero_le _) (fun h => absurd h (Nat.not_lt_zero _)) (fun i h => absurd h (Nat.not_lt_zero _))
theorem isD_text (w : World) (s : ByteArray) (h : s.size ≤ cap47) : IsD w (aggD (textD' s) none 0 none 0) (textD' s) :=
  .mk _ none 0 none 0 0 0 (show I64 16 from ⟨by decide, by decide⟩) (show U64 0 from ⟨by decide, by decide⟩) (show U64 0 from ⟨by decide, by decide⟩) (show I64 0 from ⟨by decide, by decide⟩) (Nat.zero_le _) h ⟨Nat.le_refl _, Nat.zero_le _, 0, 0, fun h => absurd h (Nat.not_lt_zero _), fun i h => absurd h (Nat.not_lt_zero _), fun x h => by cases h⟩ (Nat.le_refl _) (Nat.zero_le _) (fun h => absurd h (Nat.not_lt_zero _)) (fun i h => absurd h (Nat.not_lt_zero _))
theorem desc_size (cs : Array Value) (h : cs.size = 8) : (Tryz.prog.info? 29).map (·.size) = some cs.size := by rw [h]; kernel_rfl
set_option maxHeartbeats 4000000 in
set_option maxRecDepth 1000000 in
theorem num_any' (n : Int) (h0 : 0 ≤ n) (h1 : n ≤ 9223372036854775807) (w : World) : Calls Tryz.prog 9 #[.int .i64 n] w (Ret w (aggD (numD' n) none 0 none 0)) := by
  have hw : IntKind.u64.wrap n = n := by rw [IntKind.wrap_u64]; omega
  show Calls _ _ _ _ (Ret w (.agg #[.int .i64 6, .string ⟨#[]⟩, .int .u64 n, .int .u64 0, .string ⟨#[]⟩, .slice none 0 0, .slice none 0 0, .int .i64 0]))
  go_enter Tryz.func9, Tryz.ntmps9
  go_wp2_with fail
  refine bodyPost_ret (v := .agg #[.int .i64 6, .string ⟨#[]⟩, .int .u64 n, .int .u64 0, .string ⟨#[]⟩, .slice none 0 0, .slice none 0 0, .int .i64 0]) ?_ rfl ⟨rfl, Below.new _⟩
  have hl := run_loadVar_row (P := Tryz.prog) _ w.heap.size 29 29 _ (0, 0) _ (heap_alloc_new w (.cells #[.int .i64 6, .string ⟨#[]⟩, .int .u64 n, .int .u64 0, .string ⟨#[]⟩, .slice none 0 0, .slice none 0 0, .int .i64 0] 29)) Tryz.underlying29 rfl (desc_size _ rfl)
  simp only [results, Tryz.f9]
  simp [asAddr, hl]
set_option maxHeartbeats 4000000 in
set_option maxRecDepth 1000000 in
theorem text_any' (s : ByteArray) (w : World) : Calls Tryz.prog 11 #[.string s] w (Ret w (aggD (textD' s) none 0 none 0)) := by
  show Calls _ _ _ _ (Ret w (.agg #[.int .i64 16, .string ⟨#[]⟩, .int .u64 0, .int .u64 0, .string s, .slice none 0 0, .slice none 0 0, .int .i64 0]))
  go_enter Tryz.func11, Tryz.ntmps11
  go_wp2_with fail
  refine bodyPost_ret (v := .agg #[.int .i64 16, .string ⟨#[]⟩, .int .u64 0, .int .u64 0, .string s, .slice none 0 0, .slice none 0 0, .int .i64 0]) ?_ rfl ⟨rfl, Below.new _⟩
  have hl := run_loadVar_row (P := Tryz.prog) _ w.heap.size 29 29 _ (0, 0) _ (heap_alloc_new w (.cells #[.int .i64 16, .string ⟨#[]⟩, .int .u64 0, .int .u64 0, .string s, .slice none 0 0, .slice none 0 0, .int .i64 0] 29)) Tryz.underlying29 rfl (desc_size _ rfl)
  simp only [results, Tryz.f11]
  simp [asAddr, hl]
end Go.Proofs.YtnalppgjbllehaaGreatDoor

/- The document's three examples are as it says: what they are, plainly; descriptors in a new row. -/
namespace Go.Proofs.YtnalppgjbllehaaGreatDoor
set_option linter.unusedVariables false
set_option linter.unusedSimpArgs false
set_option maxRecDepth 1000000
open Go.RowKit

def intV (n : Int) : V := .leaf (.int ⟨6, ⟨#[]⟩, 0⟩ n)
def txtV (s : ByteArray) : V := .leaf (.text ⟨16, ⟨#[]⟩, 0⟩ s)
theorem bv_1 : buildV (numD' 1) = intV 1 := by kernel_rfl
theorem bv_2 : buildV (numD' 2) = intV 2 := by kernel_rfl
theorem bv_3 : buildV (numD' 3) = intV 3 := by kernel_rfl
theorem bv_5 : buildV (numD' 5) = intV 5 := by kernel_rfl
theorem bv_a : buildV (textD' ⟨#[97]⟩) = txtV ⟨#[97]⟩ := by kernel_rfl
theorem bv_b : buildV (textD' ⟨#[98]⟩) = txtV ⟨#[98]⟩ := by kernel_rfl
theorem ex1 : atP showL ((([numD' 5, numD' 1] : List D).take 16).map buildV) ⟨#[37, 42, 100, 37, 37]⟩ = some ⟨#[32, 32, 32, 32, 49, 37]⟩ := by kernel_rfl
theorem ex2 : atP showL ((([numD' 1] : List D).take 16).map buildV) ⟨#[120]⟩ = some ⟨#[120, 37, 33, 40, 69, 88, 84, 82, 65, 32, 105, 110, 116, 61, 49, 41]⟩ := by kernel_rfl
theorem ex3 : listF showL ((([numD' 1, numD' 2, textD' ⟨#[97]⟩, textD' ⟨#[98]⟩, numD' 3] : List D).take 16).map buildV) 0 true ⟨#[]⟩ = some ⟨#[49, 32, 50, 97, 98, 51]⟩ := by kernel_rfl
theorem ex3' : outT ⟨#[49, 32, 50, 97, 98, 51]⟩ = ⟨#[49, 32, 50, 97, 98, 51]⟩ := by kernel_rfl
theorem ok_int (n : Int) : (0 ≤ (intV n).base.kind ∧ (intV n).base.kind ≤ 22) ∧ (typeV (intV n)).size ≤ 1000000 :=
  ⟨⟨(show (0 : Int) ≤ 6 by decide), (show (6 : Int) ≤ 22 by decide)⟩, (show (3 : Nat) ≤ 1000000 by decide)⟩
theorem ty1 : TyOk ((([numD' 5, numD' 1] : List D).take 16).map buildV) := by
  intro x hx
  have e : (([numD' 5, numD' 1] : List D).take 16).map buildV = [intV 5, intV 1] := by kernel_rfl
  rw [e] at hx
  rcases List.mem_cons.1 hx with rfl | hx
  · exact ok_int 5
  rcases List.mem_cons.1 hx with rfl | hx
  · exact ok_int 1
  · cases hx
theorem ty2 : TyOk ((([numD' 1] : List D).take 16).map buildV) := by
  intro x hx
  have e : (([numD' 1] : List D).take 16).map buildV = [intV 1] := by kernel_rfl
  rw [e] at hx
  rcases List.mem_cons.1 hx with rfl | hx
  · exact ok_int 1
  · cases hx
/-- The cells of a descriptor without names and parts. -/
def cells8 (d : D) : List Value := [.int .i64 d.kind, .string d.type, .int .u64 d.bits, .int .u64 d.imag, .string d.text, .slice none 0 0, .slice none 0 0, .int .i64 d.hook]
def flatDs : List D → List Value
  | [] => []
  | d :: l => cells8 d ++ flatDs l
theorem flatDs_get : ∀ (l : List D) (i : Nat) (h : i < l.length) (j : Nat), j < 8 → (flatDs l)[i * 8 + j]? = (cells8 l[i])[j]?
  | p :: l, 0, _, j, hj => by
    rw [flatDs, Nat.zero_mul, Nat.zero_add, List.getElem?_append_left (by show j < 8; exact hj)]
    rfl
  | p :: l, i + 1, h, j, hj => by
    rw [flatDs, List.getElem?_append_right (by show 8 ≤ _; omega)]
    have e : (i + 1) * 8 + j - (cells8 p).length = i * 8 + j := by show (i + 1) * 8 + j - 8 = _; omega
    rw [e, flatDs_get l i (by simpa using h) j hj]
    rfl
theorem parts_new (W : World) (ds : List D) (hn : ds.length ≤ 16) (h : ∀ d ∈ ds, (∀ W, IsD W (aggD d none 0 none 0) d) ∧ d.names = [] ∧ d.parts = []) :
    PartsAt (W.alloc (.cells (flatDs ds).toArray 29)) (some ⟨W.heap.size, 0, none⟩) ds.length ds := by
  refine ⟨Nat.le_refl _, by unfold cap47; omega, W.heap.size, 0, fun _ => rfl, fun i hi => ?_⟩
  obtain ⟨h1, h2, h3⟩ := h ds[i] (List.getElem_mem hi)
  have hc : ∀ j, j < 8 → (W.alloc (.cells (flatDs ds).toArray 29)).cell? ⟨W.heap.size, 0 + i * 8 + j, none⟩ = (cells8 ds[i])[j]? := fun j hj => by
    rw [cell_of_heap' (heap_alloc_new W _), List.getElem?_toArray, Nat.zero_add, flatDs_get ds i hi j hj]
  have hr : RowD (W.alloc (.cells (flatDs ds).toArray 29)) W.heap.size (0 + i * 8) ds[i] none 0 none 0 :=
    ⟨hc 0 (by omega), hc 1 (by omega), hc 2 (by omega), hc 3 (by omega), hc 4 (by omega), by rw [h2]; exact hc 5 (by omega), by rw [h3]; exact hc 6 (by omega), hc 7 (by omega)⟩
  rw [hr.eq]
  exact h1 _
theorem plain_num (n : Int) (h : U64 n) : (∀ W, IsD W (aggD (numD' n) none 0 none 0) (numD' n)) ∧ (numD' n).names = [] ∧ (numD' n).parts = [] := ⟨fun W => isD_num W n h, rfl, rfl⟩
theorem plain_text (s : ByteArray) (h : s.size ≤ cap47) : (∀ W, IsD W (aggD (textD' s) none 0 none 0) (textD' s)) ∧ (textD' s).names = [] ∧ (textD' s).parts = [] := ⟨fun W => isD_text W s h, rfl, rfl⟩
end Go.Proofs.YtnalppgjbllehaaGreatDoor

/- The document's examples are as it says: the law's lives. It wants the tables of utf8. -/
namespace Go.Proofs.YtnalppgjbllehaaGreatDoor
set_option linter.unusedVariables false
set_option linter.unusedSimpArgs false
open Go.RowKit

set_option maxHeartbeats 4000000 in
set_option maxRecDepth 1000000 in
theorem lives_any (w : World) (hT : Lib.Utf8Tabs 1 2 w) : Calls Tryz.prog 6 #[] w (Ret w (.bool true)) := by
  have HT := Lib.hid hT
  have HB0 := Lib.hid (Below.refl w.heap.size w)
  clear hT
  go_enter Tryz.func6, Tryz.ntmps6
  go_wp2_with fail
  refine (show Calls Tryz.prog 9 #[.int .i64 5] w (Ret w (.agg #[.int .i64 6, .string ⟨#[]⟩, .int .u64 5, .int .u64 0, .string ⟨#[]⟩, .slice none 0 0, .slice none 0 0, .int .i64 0])) from num_any' 5 (by decide) (by decide) w).mono ?_
  rintro e W1 ⟨rfl, hb⟩
  have HB1 := Lib.hid (HB0.out.next hb)
  clear hb
  go_wp2_with fail
  refine (show Calls Tryz.prog 9 #[.int .i64 1] W1 (Ret W1 (.agg #[.int .i64 6, .string ⟨#[]⟩, .int .u64 1, .int .u64 0, .string ⟨#[]⟩, .slice none 0 0, .slice none 0 0, .int .i64 0])) from num_any' 1 (by decide) (by decide) W1).mono ?_
  rintro e W2 ⟨rfl, hb⟩
  have HB2 := Lib.hid (HB1.out.next hb)
  clear hb
  go_wp2_with fail
  have HP := Lib.hid (parts_new W2 ([numD' 5, numD' 1] : List D) (by decide) (by intro d hd; rcases List.mem_cons.1 hd with rfl | hd; exact plain_num 5 ⟨by decide, by decide⟩; rcases List.mem_cons.1 hd with rfl | hd; exact plain_num 1 ⟨by decide, by decide⟩; cases hd))
  have HTW := Lib.hid (Utf8Tabs.below HT.out (Utf8Tabs.two HT.out) (HB2.out.push (.cells (flatDs ([numD' 5, numD' 1] : List D)).toArray 29)))
  refine (sprintf_any none 0 0 ⟨#[37, 42, 100, 37, 37]⟩ ([numD' 5, numD' 1] : List D) (some ⟨W2.heap.size, 0, none⟩) 2 HP.out showL (fun WB sb av _ => showL_H WB sb 0 av) HTW.out (by decide) ty1 _ ex1).mono ?_
  rintro e W3 ⟨rfl, hb⟩
  have HB3 := Lib.hid ((HB2.out.push (.cells (flatDs ([numD' 5, numD' 1] : List D)).toArray 29)).next hb)
  clear hb HP HTW
  go_wp2_with fail
  refine (show Calls Tryz.prog 9 #[.int .i64 1] W3 (Ret W3 (.agg #[.int .i64 6, .string ⟨#[]⟩, .int .u64 1, .int .u64 0, .string ⟨#[]⟩, .slice none 0 0, .slice none 0 0, .int .i64 0])) from num_any' 1 (by decide) (by decide) W3).mono ?_
  rintro e W4 ⟨rfl, hb⟩
  have HB4 := Lib.hid (HB3.out.next hb)
  clear hb
  go_wp2_with fail
  have HP := Lib.hid (parts_new W4 ([numD' 1] : List D) (by decide) (by intro d hd; rcases List.mem_cons.1 hd with rfl | hd; exact plain_num 1 ⟨by decide, by decide⟩; cases hd))
  have HTW := Lib.hid (Utf8Tabs.below HT.out (Utf8Tabs.two HT.out) (HB4.out.push (.cells (flatDs ([numD' 1] : List D)).toArray 29)))
  refine (sprintf_any none 0 0 ⟨#[120]⟩ ([numD' 1] : List D) (some ⟨W4.heap.size, 0, none⟩) 1 HP.out showL (fun WB sb av _ => showL_H WB sb 0 av) HTW.out (by decide) ty2 _ ex2).mono ?_
  rintro e W5 ⟨rfl, hb⟩
  have HB5 := Lib.hid ((HB4.out.push (.cells (flatDs ([numD' 1] : List D)).toArray 29)).next hb)
  clear hb HP HTW
  go_wp2_with fail
  refine (show Calls Tryz.prog 9 #[.int .i64 1] W5 (Ret W5 (.agg #[.int .i64 6, .string ⟨#[]⟩, .int .u64 1, .int .u64 0, .string ⟨#[]⟩, .slice none 0 0, .slice none 0 0, .int .i64 0])) from num_any' 1 (by decide) (by decide) W5).mono ?_
  rintro e W6 ⟨rfl, hb⟩
  have HB6 := Lib.hid (HB5.out.next hb)
  clear hb
  go_wp2_with fail
  refine (show Calls Tryz.prog 9 #[.int .i64 2] W6 (Ret W6 (.agg #[.int .i64 6, .string ⟨#[]⟩, .int .u64 2, .int .u64 0, .string ⟨#[]⟩, .slice none 0 0, .slice none 0 0, .int .i64 0])) from num_any' 2 (by decide) (by decide) W6).mono ?_
  rintro e W7 ⟨rfl, hb⟩
  have HB7 := Lib.hid (HB6.out.next hb)
  clear hb
  go_wp2_with fail
  refine (show Calls Tryz.prog 11 #[.string ⟨#[97]⟩] W7 (Ret W7 (.agg #[.int .i64 16, .string ⟨#[]⟩, .int .u64 0, .int .u64 0, .string ⟨#[97]⟩, .slice none 0 0, .slice none 0 0, .int .i64 0])) from text_any' ⟨#[97]⟩ W7).mono ?_
  rintro e W8 ⟨rfl, hb⟩
  have HB8 := Lib.hid (HB7.out.next hb)
  clear hb
  go_wp2_with fail
  refine (show Calls Tryz.prog 11 #[.string ⟨#[98]⟩] W8 (Ret W8 (.agg #[.int .i64 16, .string ⟨#[]⟩, .int .u64 0, .int .u64 0, .string ⟨#[98]⟩, .slice none 0 0, .slice none 0 0, .int .i64 0])) from text_any' ⟨#[98]⟩ W8).mono ?_
  rintro e W9 ⟨rfl, hb⟩
  have HB9 := Lib.hid (HB8.out.next hb)
  clear hb
  go_wp2_with fail
  refine (show Calls Tryz.prog 9 #[.int .i64 3] W9 (Ret W9 (.agg #[.int .i64 6, .string ⟨#[]⟩, .int .u64 3, .int .u64 0, .string ⟨#[]⟩, .slice none 0 0, .slice none 0 0, .int .i64 0])) from num_any' 3 (by decide) (by decide) W9).mono ?_
  rintro e W10 ⟨rfl, hb⟩
  have HB10 := Lib.hid (HB9.out.next hb)
  clear hb
  go_wp2_with fail
  have HP := Lib.hid (parts_new W10 ([numD' 1, numD' 2, textD' ⟨#[97]⟩, textD' ⟨#[98]⟩, numD' 3] : List D) (by decide) (by intro d hd; rcases List.mem_cons.1 hd with rfl | hd; exact plain_num 1 ⟨by decide, by decide⟩; rcases List.mem_cons.1 hd with rfl | hd; exact plain_num 2 ⟨by decide, by decide⟩; rcases List.mem_cons.1 hd with rfl | hd; exact plain_text ⟨#[97]⟩ (by decide); rcases List.mem_cons.1 hd with rfl | hd; exact plain_text ⟨#[98]⟩ (by decide); rcases List.mem_cons.1 hd with rfl | hd; exact plain_num 3 ⟨by decide, by decide⟩; cases hd))
  refine (sprint_any none 0 0 ([numD' 1, numD' 2, textD' ⟨#[97]⟩, textD' ⟨#[98]⟩, numD' 3] : List D) (some ⟨W10.heap.size, 0, none⟩) 5 HP.out showL (fun WB sb av _ => showL_H WB sb 0 av) _ ex3).mono ?_
  rw [ex3']
  rintro e W11 ⟨rfl, hb⟩
  have HB11 := Lib.hid ((HB10.out.push (.cells (flatDs ([numD' 1, numD' 2, textD' ⟨#[97]⟩, textD' ⟨#[98]⟩, numD' 3] : List D)).toArray 29)).next hb)
  clear hb HP
  go_wp2_with fail
  go_ret
  exact ⟨rfl, HB11.out⟩
end Go.Proofs.YtnalppgjbllehaaGreatDoor

/- A text without a percent sign is printed as it is (plain); the law PrinterLits (the walk). It wants the tables of utf8 and a text of at most 2^47 bytes. -/
namespace Go.Proofs.YtnalppgjbllehaaGreatDoor
set_option linter.unusedVariables false
set_option linter.unusedSimpArgs false
open Go.RowKit

def NoP (t : ByteArray) : Prop := (37 : UInt8) ∉ t.data.toList
theorem empty_append (a : ByteArray) : (⟨#[]⟩ : ByteArray) ++ a = a := by
  apply ByteArray.ext
  rw [ByteArray.data_append]
  simp
theorem cutP_noP {t : ByteArray} (h : NoP t) : cutP t = t.size := by
  unfold cutP
  by_cases hq : Lib.indexByte t.data.toList 37 < 0
  · rw [if_pos hq]
  · exfalso
    have h2 : Lib.indexByte t.data.toList 37 = ((Lib.indexByte t.data.toList 37).toNat : Int) := by omega
    exact h (List.mem_of_getElem? (Lib.indexByte_some h2).1)
theorem parse_noP {t : ByteArray} (h : NoP t) (h0 : t.size ≠ 0) : parseD t = [{ pieceZ with text := t }] := by
  unfold parseD
  obtain ⟨n, hn⟩ : ∃ n, t.size = n + 1 := ⟨t.size - 1, by omega⟩
  rw [hn, parseF, if_neg h0, cutP_noP h, if_pos (by omega), extract_all t t.size (Nat.le_refl _)]
  have e : (t.extract t.size t.size).size = 0 := by rw [ByteArray.size_extract]; omega
  cases n with
  | zero => rfl
  | succ n => rw [parseF, if_pos e]
theorem at_noP {t : ByteArray} (h : NoP t) : atP showL ((([] : List D).take 16).map buildV) t = some (outT t) := by
  unfold atP formatP
  by_cases h0 : t.size = 0
  · have e : t = ⟨#[]⟩ := by
      apply ByteArray.ext
      exact Array.eq_empty_of_size_eq_zero h0
    rw [e]
    rfl
  · rw [parse_noP h h0]
    show (Option.map (fun s : PrS => outT s.out) (some ⟨⟨#[]⟩ ++ t, 0, false⟩)) = _
    rw [empty_append]
    rfl
theorem noP_byte {t s : ByteArray} (h : NoP t) (k : Nat) (hk : k < s.size) (hb : s[k] ≠ 37) : NoP (t ++ s.extract k (k + 1)) := by
  unfold NoP at h ⊢
  rw [ByteArray.data_append, Array.toList_append, List.mem_append]
  rintro (h1 | h1)
  · exact h h1
  · rw [ByteArray.data_extract, Array.toList_extract, List.extract_eq_take_drop] at h1
    have e : List.take (k + 1 - k) (List.drop k s.data.toList) = [s[k]] := by
      rw [Nat.add_sub_cancel_left, List.drop_eq_getElem_cons (by rw [Array.length_toList]; exact hk), List.take_succ_cons, List.take_zero]
      rfl
    rw [e, List.mem_singleton] at h1
    exact hb h1.symm
end Go.Proofs.YtnalppgjbllehaaGreatDoor
