/- A pointer is written: tree's kind at a Ptr; what a pointer leads to behind an ampersand. Condition: what is said of what it leads to. -/
import Derived.Test.YtkpfeodffhfejaaGreatDoorCA46
import Derived.Test.YtkpfeodffhfejaaGreatDoorCA38
import Derived.Test.YtkpfeodffhfejaaGreatDoorCA37
import Derived.Test.YtkpfeodffhfejaaGreatDoorCA41
namespace Go.Proofs.YtkpfeodffhfejaaGreatDoor
set_option linter.unusedVariables false
set_option linter.unusedSimpArgs false
open Go.RowKit

set_option maxHeartbeats 4000000 in
set_option maxRecDepth 1000000 in
theorem kind_ptr (f : SpecD) (k : Value) (kd : Int) (nm : ByteArray) (hk addr : Int) (u : Value) (dep : Int) (w : World) (r : ByteArray) (ok : Bool) (hu : u = .nilIface ∨ ∃ t y, u = .iface t y)
    (hp : ∀ W, Below w.heap.size w W → Calls Tryz.prog 84 #[.agg #[.bool f.plus, .bool f.minus, .bool f.sharp, .bool f.space, .bool f.zero, .int .i64 f.wid, .int .i64 f.prec, .int .i32 f.verb, k], .agg #[.int .i64 kd, .string nm, .int .i64 hk, .int .u64 addr, u], .int .i64 dep] W (Ret2 W r ok)) :
    Calls Tryz.prog 48 #[.agg #[.bool f.plus, .bool f.minus, .bool f.sharp, .bool f.space, .bool f.zero, .int .i64 f.wid, .int .i64 f.prec, .int .i32 f.verb, k], .iface 106 (.agg #[.int .i64 kd, .string nm, .int .i64 hk, .int .u64 addr, u]), .int .i64 dep] w (Ret2 w r ok) := by
  have tas82 := as82
  have tas85 := as85
  have tas87 := as87
  have tas90 := as90
  have tas92 := as92
  have tas94 := as94
  have tas95 := as95
  have tas104 := as104
  have tas114 := as114
  have tas117 := as117
  have tas108 := as108
  have HP := Lib.hid hp
  clear hp
  rcases hu with rfl | ⟨t, y, rfl⟩
  · have HB := Lib.hid ((Below.new (w := w) (.cells #[.bool f.plus, .bool f.minus, .bool f.sharp, .bool f.space, .bool f.zero, .int .i64 f.wid, .int .i64 f.prec, .int .i32 f.verb, k] 57)).push (.cells #[.int .i64 kd, .string nm, .int .i64 hk, .int .u64 addr, .nilIface] 106))
    go_enter Tryz.func48, Tryz.ntmps48
    go_wp2_with fail
    refine (HP.out _ HB.out).mono ?_
    rintro e w2 ⟨rfl, hb⟩
    have HB2 := Lib.hid (HB.out.next hb)
    clear hb
    go_wp2_with fail
    refine bodyPost_ret (v := .tuple #[.string r, .bool ok]) (by simp [results, Tryz.f48, go_sem]) rfl ?_
    exact ⟨rfl, HB2.out⟩
  · have HB := Lib.hid ((Below.new (w := w) (.cells #[.bool f.plus, .bool f.minus, .bool f.sharp, .bool f.space, .bool f.zero, .int .i64 f.wid, .int .i64 f.prec, .int .i32 f.verb, k] 57)).push (.cells #[.int .i64 kd, .string nm, .int .i64 hk, .int .u64 addr, .iface t y] 106))
    go_enter Tryz.func48, Tryz.ntmps48
    go_wp2_with fail
    refine (HP.out _ HB.out).mono ?_
    rintro e w2 ⟨rfl, hb⟩
    have HB2 := Lib.hid (HB.out.next hb)
    clear hb
    go_wp2_with fail
    refine bodyPost_ret (v := .tuple #[.string r, .bool ok]) (by simp [results, Tryz.f48, go_sem]) rfl ?_
    exact ⟨rfl, HB2.out⟩
set_option maxHeartbeats 4000000 in
set_option maxRecDepth 1000000 in
theorem ptr_deep (f : SpecD) (k : Value) (kd : Int) (nm : ByteArray) (hk addr : Int) (t : TypeId) (y : Value) (w : World) (s : ByteArray) (hv : f.verb = 118) (hs : s.size ≤ 1000000000) (ht : t = 99 ∨ t = 101 ∨ t = 104)
    (hval : ∀ W, Below w.heap.size w W → Calls Tryz.prog 25 #[.agg #[.bool f.plus, .bool f.minus, .bool f.sharp, .bool f.space, .bool f.zero, .int .i64 f.wid, .int .i64 f.prec, .int .i32 f.verb, k], .iface t y, .int .i64 1] W (Ret W (.string s))) :
    Calls Tryz.prog 84 #[.agg #[.bool f.plus, .bool f.minus, .bool f.sharp, .bool f.space, .bool f.zero, .int .i64 f.wid, .int .i64 f.prec, .int .i32 f.verb, k], .agg #[.int .i64 kd, .string nm, .int .i64 hk, .int .u64 addr, .iface t y], .int .i64 0] w (Ret2 w (⟨#[38]⟩ ++ s) true) := by
  have tas104 := as104
  have tas114 := as114
  have tas117 := as117
  have HV := Lib.hid hval
  have HB := Lib.hid ((Below.new (w := w) (.cells #[.bool f.plus, .bool f.minus, .bool f.sharp, .bool f.space, .bool f.zero, .int .i64 f.wid, .int .i64 f.prec, .int .i32 f.verb, k] 57)).push (.cells #[.int .i64 kd, .string nm, .int .i64 hk, .int .u64 addr, .iface t y] 106))
  have v1 : (f.verb == 98) = false := by rw [hv]; rfl
  have v2 : (f.verb == 100) = false := by rw [hv]; rfl
  have v3 : (f.verb == 111) = false := by rw [hv]; rfl
  have v4 : (f.verb == 120) = false := by rw [hv]; rfl
  have v5 : (f.verb == 88) = false := by rw [hv]; rfl
  have v6 : (f.verb == 118) = true := by rw [hv]; rfl
  have hcat : ¬ 9223372036854775807 < (⟨#[38]⟩ : ByteArray).size + s.size := by show ¬ 9223372036854775807 < 1 + _; omega
  clear hval hv
  rcases ht with rfl | rfl | rfl
  all_goals
    go_enter Tryz.func84, Tryz.ntmps84
    go_wp2_with fail
    refine (HV.out _ HB.out).mono ?_
    rintro e w2 ⟨rfl, hb⟩
    have HB2 := Lib.hid (HB.out.next hb)
    clear hb
    go_wp2_with fail
    refine bodyPost_ret (v := .tuple #[.string (⟨#[38]⟩ ++ s), .bool true]) (by simp [results, Tryz.f84, go_sem]) rfl ?_
    exact ⟨rfl, HB2.out⟩
end Go.Proofs.YtkpfeodffhfejaaGreatDoor

/- A rune as a text; the mark of nil by a verb: buf's Rune, bad's Nil. No condition. -/
namespace Go.Proofs.YtkpfeodffhfejaaGreatDoor
set_option linter.unusedVariables false
set_option linter.unusedSimpArgs false
open Go.RowKit

theorem encode_size (n : Int) : (Utf8.encode n).size ≤ 4 := by
  unfold Utf8.encode
  split
  · dsimp only
    split
    · show 1 ≤ 4; omega
    · split
      · show 2 ≤ 4; omega
      · split
        · show 3 ≤ 4; omega
        · show 4 ≤ 4; omega
  · show 3 ≤ 4; omega
set_option maxRecDepth 1000000 in
theorem rune_any (c : Int) (w : World) : Calls Tryz.prog 73 #[.int .i32 c] w (fun e w' => e = .returned (.string (Utf8.encode c)) ∧ w = w') := by
  go_enter Tryz.func73, Tryz.ntmps73
  go_wp2_with fail
  go_ret
  exact ⟨rfl, rfl⟩
def badNilB (c : Int) : ByteArray := insideB (Utf8.encode c) [⟨#[60, 110, 105, 108, 62]⟩]
set_option maxHeartbeats 4000000 in
set_option maxRecDepth 1000000 in
theorem badNil_any (c : Int) (w : World) : Calls Tryz.prog 47 #[.int .i32 c] w (Ret w (.string (badNilB c))) := by
  have HR := Lib.hid (rune_any c)
  have HE := Lib.hid (encode_size c)
  obtain ⟨v, hv⟩ : ∃ v, Utf8.encode c = v := ⟨_, rfl⟩
  have hb : badNilB c = insideB v [⟨#[60, 110, 105, 108, 62]⟩] := by unfold badNilB; rw [hv]
  rw [hb]
  rw [hv] at HR HE
  clear hb hv
  go_enter Tryz.func47, Tryz.ntmps47
  go_wp2_with fail
  refine (HR.out w).mono ?_
  rintro e w2 ⟨rfl, rfl⟩
  go_wp2_with fail
  refine (inside_any v w.heap.size 1 [⟨#[60, 110, 105, 108, 62]⟩] _ (one_cells w _ _) (by simp) (by simp) (Nat.le_refl _) (by have := HE.out; omega) (by decide)).mono ?_
  rintro e w1 ⟨rfl, hB⟩
  have HB := Lib.hid ((Below.new (w := w) (.cells #[.string ⟨#[60, 110, 105, 108, 62]⟩] 9)).next hB)
  clear hB
  go_wp2_with fail
  go_ret
  exact ⟨rfl, HB.out⟩
end Go.Proofs.YtkpfeodffhfejaaGreatDoor

/- A value is written where nobody is asked: tree's value and Show. Condition: what kind says of the value. -/
namespace Go.Proofs.YtkpfeodffhfejaaGreatDoor
set_option linter.unusedVariables false
set_option linter.unusedSimpArgs false
open Go.RowKit

set_option maxHeartbeats 4000000 in
set_option maxRecDepth 1000000 in
theorem value_ok (f : SpecD) (t : TypeId) (y : Value) (dep : Int) (w : World) (r : ByteArray) (ht : t ≠ 112)
    (hk : ∀ W, Below w.heap.size w W → Calls Tryz.prog 48 #[.agg #[.bool f.plus, .bool f.minus, .bool f.sharp, .bool f.space, .bool f.zero, .int .i64 f.wid, .int .i64 f.prec, .int .i32 f.verb, .nilFunc], .iface t y, .int .i64 dep] W (Ret2 W r true)) :
    Calls Tryz.prog 25 #[.agg #[.bool f.plus, .bool f.minus, .bool f.sharp, .bool f.space, .bool f.zero, .int .i64 f.wid, .int .i64 f.prec, .int .i32 f.verb, .nilFunc], .iface t y, .int .i64 dep] w (Ret w (.string r)) := by
  have HNIL := Lib.hid (isNil_no t y ht)
  have HK := Lib.hid hk
  have HB := Lib.hid (Below.new (w := w) (.cells #[.bool f.plus, .bool f.minus, .bool f.sharp, .bool f.space, .bool f.zero, .int .i64 f.wid, .int .i64 f.prec, .int .i32 f.verb, .nilFunc] 57))
  have hrun : ∀ W, Sem.run Tryz.prog (binOp BinOp.neq 35 Value.nilFunc Value.nilFunc) W = .ok (.bool false) W := fun W => by kernel_rfl
  clear hk ht
  go_enter Tryz.func25, Tryz.ntmps25
  go_wp2_with fail
  refine (HNIL.out _).mono ?_
  rintro e w2 ⟨rfl, rfl⟩
  go_wp2_with fail
  refine (HK.out _ HB.out).mono ?_
  rintro e W3 ⟨rfl, hb3⟩
  have HB3 := Lib.hid (HB.out.next hb3)
  clear hb3 HK hrun HB
  go_wp2_with fail
  go_ret
  exact ⟨rfl, HB3.out⟩
set_option maxHeartbeats 4000000 in
set_option maxRecDepth 1000000 in
/-- Where the verb may not be. -/
theorem value_bad (f : SpecD) (t : TypeId) (y : Value) (dep : Int) (w : World) (r : ByteArray) (q : ByteArray) (ht : t ≠ 112)
    (hk : ∀ W, Below w.heap.size w W → Calls Tryz.prog 48 #[.agg #[.bool f.plus, .bool f.minus, .bool f.sharp, .bool f.space, .bool f.zero, .int .i64 f.wid, .int .i64 f.prec, .int .i32 f.verb, .nilFunc], .iface t y, .int .i64 dep] W (Ret2 W q false))
    (hbad : ∀ W, Below w.heap.size w W → Calls Tryz.prog 27 #[.iface t y, .int .i32 f.verb] W (Ret W (.string r))) :
    Calls Tryz.prog 25 #[.agg #[.bool f.plus, .bool f.minus, .bool f.sharp, .bool f.space, .bool f.zero, .int .i64 f.wid, .int .i64 f.prec, .int .i32 f.verb, .nilFunc], .iface t y, .int .i64 dep] w (Ret w (.string r)) := by
  have HNIL := Lib.hid (isNil_no t y ht)
  have HK := Lib.hid hk
  have HBD := Lib.hid hbad
  have HB := Lib.hid (Below.new (w := w) (.cells #[.bool f.plus, .bool f.minus, .bool f.sharp, .bool f.space, .bool f.zero, .int .i64 f.wid, .int .i64 f.prec, .int .i32 f.verb, .nilFunc] 57))
  have HC := Lib.hid (heap_alloc_new w (.cells #[.bool f.plus, .bool f.minus, .bool f.sharp, .bool f.space, .bool f.zero, .int .i64 f.wid, .int .i64 f.prec, .int .i32 f.verb, .nilFunc] 57))
  have hrun : ∀ W, Sem.run Tryz.prog (binOp BinOp.neq 35 Value.nilFunc Value.nilFunc) W = .ok (.bool false) W := fun W => by kernel_rfl
  clear hk ht hbad
  go_enter Tryz.func25, Tryz.ntmps25
  go_wp2_with fail
  refine (HNIL.out _).mono ?_
  rintro e w2 ⟨rfl, rfl⟩
  go_wp2_with fail
  refine (HK.out _ HB.out).mono ?_
  rintro e W3 ⟨rfl, hb3⟩
  have HB3 := Lib.hid (HB.out.next hb3)
  have c7 : W3.cell? ⟨w.heap.size, 7, none⟩ = some (.int .i32 f.verb) := cell_of_heap' ((hb3.block _ (lt_of_some HC.out)).trans HC.out) 7
  clear hb3 HK hrun HB HC
  go_wp2_with fail
  refine (HBD.out _ HB3.out).mono ?_
  rintro e W4 ⟨rfl, hb4⟩
  have HB4 := Lib.hid (HB3.out.next hb4)
  clear hb4 HBD HB3
  go_wp2_with fail
  go_ret
  exact ⟨rfl, HB4.out⟩
/-- A value of the kind Nil. -/
def NilV (v : Value) : Prop := v = .nilIface ∨ v = .iface 112 (.agg #[])
theorem isNil_yes (v : Value) (h : NilV v) (w : World) : Calls Tryz.prog 46 #[v] w (fun e w' => e = .returned (.bool true) ∧ w = w') := by
  rcases h with rfl | rfl
  · exact isNil_nil w
  · exact isNil_zero w
def nilB : ByteArray := ⟨#[60, 110, 105, 108, 62]⟩
set_option maxHeartbeats 4000000 in
set_option maxRecDepth 1000000 in
theorem value_nil (f : SpecD) (k v : Value) (hv : NilV v) (dep : Int) (w : World) (hf : f.Rng) :
    Calls Tryz.prog 25 #[.agg #[.bool f.plus, .bool f.minus, .bool f.sharp, .bool f.space, .bool f.zero, .int .i64 f.wid, .int .i64 f.prec, .int .i32 f.verb, k], v, .int .i64 dep] w (Ret w (.string (if f.verb = 118 then padB nilB f else badNilB f.verb))) := by
  have HNIL := Lib.hid (isNil_yes v hv)
  have HPD := Lib.hid (fun W => pad_any nilB f W (by decide) hf)
  have HBN := Lib.hid (fun W => badNil_any f.verb W)
  have HB := Lib.hid (Below.new (w := w) (.cells #[.bool f.plus, .bool f.minus, .bool f.sharp, .bool f.space, .bool f.zero, .int .i64 f.wid, .int .i64 f.prec, .int .i32 f.verb, k] 57))
  clear hv hf
  by_cases h : f.verb = 118
  · rw [if_pos h]
    have h' : (f.verb == 118) = true := by rw [h]; rfl
    unfold nilB at HPD ⊢
    clear h
    go_enter Tryz.func25, Tryz.ntmps25
    go_wp2_with fail
    refine (HNIL.out _).mono ?_
    rintro e w2 ⟨rfl, rfl⟩
    go_wp2_with fail
    refine (HPD.out _).mono ?_
    rintro e W3 ⟨rfl, hb3⟩
    have HB3 := Lib.hid (HB.out.next hb3)
    clear hb3 HPD HB
    go_wp2_with fail
    go_ret
    exact ⟨rfl, HB3.out⟩
  · rw [if_neg h]
    have h' : (f.verb == 118) = false := by simpa using h
    clear h
    go_enter Tryz.func25, Tryz.ntmps25
    go_wp2_with fail
    refine (HNIL.out _).mono ?_
    rintro e w2 ⟨rfl, rfl⟩
    go_wp2_with fail
    refine (HBN.out _).mono ?_
    rintro e W3 ⟨rfl, hb3⟩
    have HB3 := Lib.hid (HB.out.next hb3)
    clear hb3 HPD HB
    go_wp2_with fail
    go_ret
    exact ⟨rfl, HB3.out⟩
set_option maxHeartbeats 4000000 in
set_option maxRecDepth 1000000 in
theorem show_nil (f : SpecD) (v : Value) (w : World) (r : ByteArray) (hv : f.verb ≠ 84)
    (hval : ∀ W, Below w.heap.size w W → Calls Tryz.prog 25 #[.agg #[.bool f.plus, .bool f.minus, .bool f.sharp, .bool f.space, .bool f.zero, .int .i64 f.wid, .int .i64 f.prec, .int .i32 f.verb, .nilFunc], v, .int .i64 0] W (Ret W (.string r))) :
    Calls Tryz.prog 10 #[v, .agg #[.bool f.plus, .bool f.minus, .bool f.sharp, .bool f.space, .bool f.zero, .int .i64 f.wid, .int .i64 f.prec, .int .i32 f.verb], .nilFunc] w (Ret w (.string r)) := by
  have HV := Lib.hid hval
  have HB := Lib.hid (Below.new (w := w) (.cells #[.bool f.plus, .bool f.minus, .bool f.sharp, .bool f.space, .bool f.zero, .int .i64 f.wid, .int .i64 f.prec, .int .i32 f.verb] 33))
  have hv' : (f.verb == 84) = false := by simpa using hv
  clear hval hv
  go_enter Tryz.func10, Tryz.ntmps10
  go_wp2_with fail
  refine (HV.out _ HB.out).mono ?_
  rintro e W2 ⟨rfl, hb2⟩
  have HB2 := Lib.hid (HB.out.next hb2)
  clear hb2
  go_wp2_with fail
  go_ret
  exact ⟨rfl, HB2.out⟩
end Go.Proofs.YtkpfeodffhfejaaGreatDoor

/- A value is shown: tree's kind at a Text, value, Show. Condition: what kind says of the value; no hook answers. -/
namespace Go.Proofs.YtkpfeodffhfejaaGreatDoor
set_option linter.unusedVariables false
set_option linter.unusedSimpArgs false
open Go.RowKit

set_option maxHeartbeats 4000000 in
set_option maxRecDepth 1000000 in
theorem kind_text (f : SpecD) (k : Value) (b : B) (s : ByteArray) (dep : Int) (w : World) (hs : s.size ≤ 140737488355328) (hf : f.Rng) (hv : (f.verb = 118 ∧ f.sharp = false) ∨ f.verb = 115) :
    Calls Tryz.prog 48 #[.agg #[.bool f.plus, .bool f.minus, .bool f.sharp, .bool f.space, .bool f.zero, .int .i64 f.wid, .int .i64 f.prec, .int .i32 f.verb, k], (Leaf.text b s).val, .int .i64 dep] w (Ret2 w (padB (cutB s f.prec) f) true) := by
  unfold Leaf.val
  have t82 := as82
  have t85 := as85
  have t87 := as87
  have t90 := as90
  have t92 := as92
  have t94 := as94
  obtain ⟨r, hr⟩ : ∃ r, padB (cutB s f.prec) f = r := ⟨_, rfl⟩
  have HQT : Hid (∀ W, Calls Tryz.prog 24 #[.string s, .agg #[.bool f.plus, .bool f.minus, .bool f.sharp, .bool f.space, .bool f.zero, .int .i64 f.wid, .int .i64 f.prec, .int .i32 f.verb]] W (Ret2 W r true)) := Lib.hid fun W => hr ▸ qtext_any s f W hs hf hv
  rw [hr]
  clear hr hs hf hv
  have HB0 := Lib.hid ((Below.new (w := w) (.cells #[.bool f.plus, .bool f.minus, .bool f.sharp, .bool f.space, .bool f.zero, .int .i64 f.wid, .int .i64 f.prec, .int .i32 f.verb, k] 57)).push (.cells #[.int .i64 b.kind, .string b.name, .int .i64 b.hook, .string s] 95))
  go_enter Tryz.func48, Tryz.ntmps48
  go_wp2_with fail
  refine (HQT.out _).mono ?_
  rintro e w2 ⟨rfl, hb⟩
  have HB := Lib.hid (HB0.out.next hb)
  clear hb
  go_wp2_with fail
  refine bodyPost_ret (v := .tuple #[.string r, .bool true]) (by simp [results, Tryz.f48, go_sem]) rfl ?_
  exact ⟨rfl, HB.out⟩
end Go.Proofs.YtkpfeodffhfejaaGreatDoor

/- A plain text as in a program's text: quote's Text by sharp v; tree's kind at a Text, whatever Text says. Condition: the text's size. -/
namespace Go.Proofs.YtkpfeodffhfejaaGreatDoor
set_option linter.unusedVariables false
set_option linter.unusedSimpArgs false
open Go.RowKit

set_option maxHeartbeats 4000000 in
set_option maxRecDepth 1000000 in
theorem qtextQ (s : ByteArray) (f : SpecD) (w : World) (hs : s.size ≤ 100000000000) (hf : f.Rng) (h1 : f.verb = 118) (h2 : f.sharp = true) (hp : asIs s) :
    Calls Tryz.prog 24 #[.string s, .agg #[.bool f.plus, .bool f.minus, .bool f.sharp, .bool f.space, .bool f.zero, .int .i64 f.wid, .int .i64 f.prec, .int .i32 f.verb]] w (Ret2 w (padB (⟨#[34]⟩ ++ s ++ ⟨#[34]⟩) f) true) := by
  have HQ : Hid (∀ W, Calls Tryz.prog 42 #[.string s, .bool false] W (Ret W (.string (⟨#[34]⟩ ++ s ++ ⟨#[34]⟩)))) := Lib.hid fun W => quote_plain s false W hs hp
  have HP : Hid (∀ W, Calls Tryz.prog 41 #[.string (⟨#[34]⟩ ++ s ++ ⟨#[34]⟩), .agg #[.bool f.plus, .bool f.minus, .bool true, .bool f.space, .bool f.zero, .int .i64 f.wid, .int .i64 f.prec, .int .i32 118]] W (Ret W (.string (padB (⟨#[34]⟩ ++ s ++ ⟨#[34]⟩) f)))) := Lib.hid fun W => by
    have := pad_any (⟨#[34]⟩ ++ s ++ ⟨#[34]⟩) f W (by rw [ByteArray.size_append, ByteArray.size_append]; show 1 + _ + 1 ≤ _; omega) hf
    rw [h1, h2] at this
    exact this
  rw [h1, h2]
  obtain ⟨q, hq⟩ : ∃ q, (⟨#[34]⟩ : ByteArray) ++ s ++ ⟨#[34]⟩ = q := ⟨_, rfl⟩
  rw [hq] at HQ HP ⊢
  obtain ⟨r, hr⟩ : ∃ r, padB q f = r := ⟨_, rfl⟩
  rw [hr] at HP ⊢
  clear hs hf h1 h2 hp hq hr
  go_enter Tryz.func24, Tryz.ntmps24
  go_upto_region 5 with fail
  have HB := Lib.hid (Below.new (w := w) (.cells #[.bool f.plus, .bool f.minus, .bool true, .bool f.space, .bool f.zero, .int .i64 f.wid, .int .i64 f.prec, .int .i32 118] 33))
  have hA := cell_of_heap' (heap_alloc_new w (.cells #[.bool f.plus, .bool f.minus, .bool true, .bool f.space, .bool f.zero, .int .i64 f.wid, .int .i64 f.prec, .int .i32 118] 33))
  generalize w.alloc (.cells #[.bool f.plus, .bool f.minus, .bool true, .bool f.space, .bool f.zero, .int .i64 f.wid, .int .i64 f.prec, .int .i32 118] 33) = W1 at HB hA ⊢
  have c0 : W1.cell? ⟨w.heap.size, 0, none⟩ = some (.bool f.plus) := hA 0
  have c1 : W1.cell? ⟨w.heap.size, 1, none⟩ = some (.bool f.minus) := hA 1
  have c2 : W1.cell? ⟨w.heap.size, 2, none⟩ = some (.bool true) := hA 2
  have c3 : W1.cell? ⟨w.heap.size, 3, none⟩ = some (.bool f.space) := hA 3
  have c4 : W1.cell? ⟨w.heap.size, 4, none⟩ = some (.bool f.zero) := hA 4
  have c5 : W1.cell? ⟨w.heap.size, 5, none⟩ = some (.int .i64 f.wid) := hA 5
  have c6 : W1.cell? ⟨w.heap.size, 6, none⟩ = some (.int .i64 f.prec) := hA 6
  have c7 : W1.cell? ⟨w.heap.size, 7, none⟩ = some (.int .i32 118) := hA 7
  clear hA
  have HB := Lib.hid (HB.out.next (Below.refl _ W1).drew)
  go_region_with (first
    | ((with_reducible refine (HQ.out _).mono ?_); rintro e wa ⟨rfl, hwa⟩; have c0 := cell_below hwa c0; have c1 := cell_below hwa c1; have c2 := cell_below hwa c2; have c3 := cell_below hwa c3; have c4 := cell_below hwa c4; have c5 := cell_below hwa c5; have c6 := cell_below hwa c6; have c7 := cell_below hwa c7; have HB := Lib.hid (HB.out.next hwa); clear hwa)
    | ((with_reducible refine (HP.out _).mono ?_); rintro e wb ⟨rfl, hwb⟩; have HB := Lib.hid (HB.out.next hwb); clear hwb))
  all_goals
    have HE := HB
    go_wp2_with fail
    refine bodyPost_ret (v := .tuple #[.string r, .bool true]) (by simp [results, Tryz.f24, go_sem]) rfl ?_
    exact ⟨rfl, HE.out⟩
set_option maxHeartbeats 4000000 in
set_option maxRecDepth 1000000 in
theorem kind_text_of (f : SpecD) (k : Value) (b : B) (s r : ByteArray) (dep : Int) (w : World)
    (hq : ∀ W, Calls Tryz.prog 24 #[.string s, .agg #[.bool f.plus, .bool f.minus, .bool f.sharp, .bool f.space, .bool f.zero, .int .i64 f.wid, .int .i64 f.prec, .int .i32 f.verb]] W (Ret2 W r true)) :
    Calls Tryz.prog 48 #[.agg #[.bool f.plus, .bool f.minus, .bool f.sharp, .bool f.space, .bool f.zero, .int .i64 f.wid, .int .i64 f.prec, .int .i32 f.verb, k], (Leaf.text b s).val, .int .i64 dep] w (Ret2 w r true) := by
  unfold Leaf.val
  have t82 := as82
  have t85 := as85
  have t87 := as87
  have t90 := as90
  have t92 := as92
  have t94 := as94
  have HQT := Lib.hid hq
  clear hq
  have HB0 := Lib.hid ((Below.new (w := w) (.cells #[.bool f.plus, .bool f.minus, .bool f.sharp, .bool f.space, .bool f.zero, .int .i64 f.wid, .int .i64 f.prec, .int .i32 f.verb, k] 57)).push (.cells #[.int .i64 b.kind, .string b.name, .int .i64 b.hook, .string s] 95))
  go_enter Tryz.func48, Tryz.ntmps48
  go_wp2_with fail
  refine (HQT.out _).mono ?_
  rintro e w2 ⟨rfl, hb⟩
  have HB := Lib.hid (HB0.out.next hb)
  clear hb
  go_wp2_with fail
  refine bodyPost_ret (v := .tuple #[.string r, .bool true]) (by simp [results, Tryz.f48, go_sem]) rfl ?_
  exact ⟨rfl, HB.out⟩
end Go.Proofs.YtkpfeodffhfejaaGreatDoor

/- The specs that the law hands in, and Show by T: the type's name. Condition: the value's kind, the name's size. -/
namespace Go.Proofs.YtkpfeodffhfejaaGreatDoor
set_option linter.unusedVariables false
set_option linter.unusedSimpArgs false
open Go.RowKit

def bareS (v : Int) : SpecD := ⟨false, false, false, false, false, -1, -1, v⟩
theorem bareS_rng (v : Int) : (bareS v).Rng := ⟨(show (-9223372036854775808 : Int) ≤ -1 by decide), (show (-1 : Int) ≤ 9223372036854775807 by decide), (show (-9223372036854775808 : Int) ≤ -1 by decide), (show (-1 : Int) ≤ 9223372036854775807 by decide)⟩
set_option maxRecDepth 1000000 in
theorem bare12_any (v : Int) (w : World) : Calls Tryz.prog 11 #[.int .i32 v] w (Ret w (.agg #[.bool false, .bool false, .bool false, .bool false, .bool false, .int .i64 (-1), .int .i64 (-1), .int .i32 v])) := by
  go_enter Tryz.func11, Tryz.ntmps11
  go_wp2_with fail
  refine bodyPost_ret (v := .agg (specCells (bareS v))) ?_ rfl ?_
  · have h : SpecB (w.alloc (.cells #[.bool false, .bool false, .bool false, .bool false, .bool false, .int .i64 (-1), .int .i64 (-1), .int .i32 v] 33)) w.heap.size (bareS v) := heap_alloc_new w _
    have hl := load_spec h
    simp only [results, Tryz.f11]
    simp [asAddr, hl]
  · exact ⟨rfl, Below.new _⟩
theorem padB_bare (s : ByteArray) (f : SpecD) (h : f.wid = -1) : padB s f = s := by
  have : padN s f ≤ 0 := by unfold padN; rw [h]; have := Lib.runeCount_le s; omega
  unfold padB
  rw [if_pos this]
theorem cutB_bare (s : ByteArray) (n : Int) (h : n = -1) : cutB s n = s := by
  unfold cutB; rw [if_pos (by omega)]
set_option maxHeartbeats 4000000 in
set_option maxRecDepth 1000000 in
theorem show_T {v : Value} {x : V} (k : Value) {w : World} (h : IsV w v x) (hk : 0 ≤ x.base.kind ∧ x.base.kind ≤ 22) (hs : (typeV x).size ≤ 140737488355328) :
    Calls Tryz.prog 10 #[v, .agg #[.bool false, .bool false, .bool false, .bool false, .bool false, .int .i64 (-1), .int .i64 (-1), .int .i32 84], k] w (Ret w (.string (typeV x))) := by
  have HTY : Hid (∀ W, Below w.heap.size w W → Calls Tryz.prog 13 #[v] W fun e w' => e = .returned (.string (typeV x)) ∧ Below W.heap.size W w') := Lib.hid fun W hW => Type_any (h.later hW) hk
  have HQT : Hid (∀ W, Calls Tryz.prog 24 #[.string (typeV x), .agg #[.bool false, .bool false, .bool false, .bool false, .bool false, .int .i64 (-1), .int .i64 (-1), .int .i32 115]] W (Ret2 W (typeV x) true)) := Lib.hid fun W => by
    have := qtext_any (typeV x) (bareS 115) W hs (bareS_rng _) (.inr rfl)
    rw [cutB_bare (typeV x) (bareS 115).prec rfl, padB_bare (typeV x) (bareS 115) rfl] at this
    exact this
  obtain ⟨T, hT⟩ : ∃ T, typeV x = T := ⟨_, rfl⟩
  rw [hT] at HTY HQT ⊢
  clear h hk hs hT
  go_enter Tryz.func10, Tryz.ntmps10
  go_upto_region 3 with fail
  have HB := Lib.hid (Below.new (w := w) (.cells #[.bool false, .bool false, .bool false, .bool false, .bool false, .int .i64 (-1), .int .i64 (-1), .int .i32 115] 33))
  have hA := cell_of_heap' (heap_alloc_new w (.cells #[.bool false, .bool false, .bool false, .bool false, .bool false, .int .i64 (-1), .int .i64 (-1), .int .i32 115] 33))
  generalize w.alloc (.cells #[.bool false, .bool false, .bool false, .bool false, .bool false, .int .i64 (-1), .int .i64 (-1), .int .i32 115] 33) = W1 at HB hA ⊢
  have c0 : W1.cell? ⟨w.heap.size, 0, none⟩ = some (.bool false) := hA 0
  have c1 : W1.cell? ⟨w.heap.size, 1, none⟩ = some (.bool false) := hA 1
  have c2 : W1.cell? ⟨w.heap.size, 2, none⟩ = some (.bool false) := hA 2
  have c3 : W1.cell? ⟨w.heap.size, 3, none⟩ = some (.bool false) := hA 3
  have c4 : W1.cell? ⟨w.heap.size, 4, none⟩ = some (.bool false) := hA 4
  have c5 : W1.cell? ⟨w.heap.size, 5, none⟩ = some (.int .i64 (-1)) := hA 5
  have c6 : W1.cell? ⟨w.heap.size, 6, none⟩ = some (.int .i64 (-1)) := hA 6
  have c7 : W1.cell? ⟨w.heap.size, 7, none⟩ = some (.int .i32 115) := hA 7
  clear hA
  have HB := Lib.hid (HB.out.next (Below.refl _ W1).drew)
  go_region_with (first
    | ((with_reducible refine (HTY.out _ HB.out).mono ?_); rintro e wa ⟨rfl, hwa⟩; have c0 := cell_below hwa c0; have c1 := cell_below hwa c1; have c2 := cell_below hwa c2; have c3 := cell_below hwa c3; have c4 := cell_below hwa c4; have c5 := cell_below hwa c5; have c6 := cell_below hwa c6; have c7 := cell_below hwa c7; have HB := Lib.hid (HB.out.next hwa); clear hwa)
    | ((with_reducible refine (HQT.out _).mono ?_); rintro e wb ⟨rfl, hwb⟩; have HB := Lib.hid (HB.out.next hwb); clear hwb))
  all_goals
    have HE := HB
    go_wp2_with fail
    go_ret
    exact ⟨rfl, HE.out⟩
end Go.Proofs.YtkpfeodffhfejaaGreatDoor
