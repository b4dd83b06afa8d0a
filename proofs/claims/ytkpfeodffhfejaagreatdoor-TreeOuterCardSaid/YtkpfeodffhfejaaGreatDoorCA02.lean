/- How deep a descriptor stands, and what is asked of each descriptor that is looked at: the functions depth, must, each, width, low. No condition but that the argument is a descriptor. -/
import Derived.Test.YtkpfeodffhfejaaGreatDoorCA01
namespace Go.Proofs.YtkpfeodffhfejaaGreatDoor
set_option linter.unusedVariables false
set_option maxRecDepth 1000000
open Go.RowKit

mutual
/-- depth. -/
def depthD : D → Nat
  | .mk k _ _ _ _ _ p _ => if greatK k then depthL p + 1 else 1
def depthL : List D → Nat
  | [] => 0
  | x :: l => max (depthD x) (depthL l)
end
theorem depthD_eq (d : D) : depthD d = depthL (partsOf d) + 1 := by
  cases d with
  | mk k t b i x n p h =>
    by_cases hg : greatK k = true
    · have e : partsOf (.mk k t b i x n p h) = p := if_pos hg
      rw [e, depthD, if_pos hg]
    · have e : partsOf (.mk k t b i x n p h) = [] := if_neg hg
      rw [e, depthD, if_neg hg]; rfl
theorem depthL_mem {x : D} : ∀ {l : List D}, x ∈ l → depthD x ≤ depthL l
  | y :: l, h => by
    rw [depthL]
    rcases List.mem_cons.1 h with rfl | h
    · omega
    · have := depthL_mem h; omega

mutual
/-- All that are looked at. -/
def allD (g : D → Bool) : D → Bool
  | .mk k t b i x n p h => g (.mk k t b i x n p h) && (if greatK k then allL g p else true)
def allL (g : D → Bool) : List D → Bool
  | [] => true
  | x :: l => allD g x && allL g l
end
theorem allD_eq (g : D → Bool) (d : D) : allD g d = (g d && allL g (partsOf d)) := by
  cases d with
  | mk k t b i x n p h =>
    by_cases hg : greatK k = true
    · have e : partsOf (.mk k t b i x n p h) = p := if_pos hg
      rw [e, allD, if_pos hg]
    · have e : partsOf (.mk k t b i x n p h) = [] := if_neg hg
      rw [e, allD, if_neg hg]; rfl
theorem allL_cons_drop (g : D → Bool) {l : List D} {i : Nat} (h : i < l.length) : allL g (l.drop i) = (allD g l[i] && allL g (l.drop (i + 1))) := by rw [drop_cons h, allL]

/-- An element of a slice of descriptors, in a later world. -/
theorem PartsAt.elem {w wr : World} {a : Option Addr} {c : Nat} {l : List D} (h : PartsAt w a c l) (hb : Below w.heap.size w wr) {i : Nat} (hi : i < l.length) :
    ∃ b o p5 q5 p6 q6, a = some ⟨b, o, none⟩ ∧ RowD wr b (o + i * 8) l[i] p5 q5 p6 q6 ∧ IsD wr (aggD l[i] p5 q5 p6 q6) l[i] := by
  obtain ⟨h1, h2, b, o, h3, h4⟩ := h
  obtain ⟨p5, q5, p6, q6, hr, hd⟩ := (h4 i hi).row
  exact ⟨b, o, p5, q5, p6, q6, h3 (by omega), hr.below hb, hd.later hb⟩

set_option maxHeartbeats 1000000 in
theorem depth_any : ∀ (d : D) (w : World) (v : Value), IsD w v d → depthD d ≤ 1000 → Calls Tryz.prog 31 #[v] w fun e w' => e = .returned (.int .i64 (depthD d)) ∧ Below w.heap.size w w' := by
  refine D.induct_d fun d ih w v h hd => ?_
  have IH := Lib.hid ih
  have HD := Lib.hid h
  have HE := Lib.hid (depthD_eq d)
  obtain ⟨a5, c5, a6, c6, rfl, hk, hb, hi, ht, hx, hn, hp⟩ := h.open
  clear hp hn hb hi hk ht hx h ih
  unfold aggD at HD ⊢
  go_enter Tryz.func31, Tryz.ntmps31
  go_wp2_with fail
  refine (parts_any (HD.out.later (Below.new _))).mono ?_
  rintro e w1 ⟨a, c, rfl, hp1, hB1⟩
  have HB1 := Lib.hid ((Below.new _).next hB1)
  have HPM := Lib.hid (fun x (hx : x ∈ partsOf d) => IH.out x (partsOf_mem hx))
  obtain ⟨ps, hps⟩ : ∃ ps, ps = partsOf d := ⟨_, rfl⟩
  rw [← hps] at hp1 HPM HE ⊢
  have hdl : depthL ps ≤ 999 := by have := HE.out; omega
  have hl2 : ps.length ≤ 9223372036854775807 := by have := hp1.1; have := hp1.2.1; unfold cap47 at this; omega
  have HP := Lib.hid hp1
  clear hps HD hp1 hB1 IH hd
  go_wp2_with fail
  go_loopw [3, 9] (fun m k wr => ∃ (i M : Nat), i ≤ ps.length ∧ m = .int .i64 M ∧ k = .int .i64 i ∧ depthL ps = max M (depthL (ps.drop i)) ∧ M ≤ 1000 ∧ Below w1.heap.size w1 wr) (fun _ k _ => ps.length - (intOf k).toNat)
  case atStart => exact ⟨0, 0, by omega, rfl, rfl, by simp, by omega, Below.refl _ _⟩
  case round =>
    obtain ⟨i, M, hi, rfl, rfl, hrec, hM, hB⟩ := hrel
    have HB := Lib.hid hB
    have HRec := Lib.hid hrec
    clear hB hrec
    by_cases hin : i < ps.length
    · obtain ⟨b, o, p5, q5, p6, q6, rfl, hrow, hD⟩ := HP.out.elem HB.out hin
      obtain ⟨k0, k1, k2, k3, k4, k5, k6, k7⟩ := hrow
      have hrc := HRec.out
      rw [drop_cons hin, depthL] at hrc
      have HRec2 := Lib.hid hrc
      have HX := Lib.hid hD
      have hle : depthD ps[i] ≤ 1000 := by have := depthL_mem (List.getElem_mem hin); omega
      have HIH := Lib.hid (HPM.out ps[i] (List.getElem_mem _))
      clear hrc hD
      obtain ⟨x, hx⟩ : ∃ x, x = ps[i] := ⟨_, rfl⟩
      rw [← hx] at k0 k1 k2 k3 k4 k5 k6 k7 HRec2 HX HIH hle
      unfold aggD at HX
      clear hx
      go_wp2_with fail
      refine (HIH.out _ _ (HX.out.later (Below.new _)) hle).mono ?_
      rintro e w3 ⟨rfl, hB3⟩
      have HB3 := Lib.hid ((HB.out.push _).next hB3)
      obtain ⟨q, hq⟩ : ∃ q, q = depthD x := ⟨_, rfl⟩
      rw [← hq] at HRec2 hle ⊢
      clear hq hB3 k0 k1 k2 k3 k4 k5 k6 k7 HX HIH
      by_cases hxq : M < q
      · have hxq' : (M : Int) < (q : Int) := by omega
        go_wp2_with fail
        go_roundw
        case rel => exact ⟨i + 1, q, by omega, (by first | rfl | (congr 1; omega)), by go_num, by rw [HRec2.out]; omega, by omega, HB3.out⟩
        case measure => simp [intOf]; omega
      · have hxq' : ¬ (M : Int) < (q : Int) := by omega
        go_wp2_with fail
        go_roundw
        case rel => exact ⟨i + 1, M, by omega, (by first | rfl | (congr 1; omega)), by go_num, by rw [HRec2.out]; omega, by omega, HB3.out⟩
        case measure => simp [intOf]; omega
    · go_wp2_with fail
      go_ret
      have h3 := HRec.out
      rw [List.drop_of_length_le (by omega), depthL] at h3
      refine ⟨?_, HB1.out.next HB.out⟩
      rw [HE.out, show depthL ps = M from by omega]
      rfl

/-- What must throws. -/
abbrev thrown (e : Int) : Ending := .panicked [{ v := .iface 66 (.agg #[.int .i64 e]), recovered := false }]

theorem must_ok (e : Int) (w : World) : Calls Tryz.prog 30 #[.bool true, .int .i64 e] w fun x w' => x = .returned (.tuple #[]) ∧ w = w' := by
  go_enter Tryz.func30, Tryz.ntmps30
  go_wp2
  go_end0
  exact ⟨rfl, rfl⟩
theorem must_bad (e : Int) (w : World) : Calls Tryz.prog 30 #[.bool false, .int .i64 e] w fun x w' => x = thrown e ∧ w = w' := by
  go_enter Tryz.func30, Tryz.ntmps30
  go_wp2
  exact ⟨rfl, rfl, rfl⟩

set_option maxHeartbeats 1000000 in
theorem each_ok (g : D → Bool) (F : Nat) (c : Int) (hcf : ∀ (args : Array Value) (W : World), Sem.run Tryz.prog (callFunc F args) W = .ok (.enter F args) W)
    (hok : ∀ (d : D) (w : World) (v : Value), IsD w v d → g d = true → Calls Tryz.prog F #[v] w fun e w' => e = .returned (.tuple #[]) ∧ Below w.heap.size w w')
    (hbad : ∀ (d : D) (w : World) (v : Value), IsD w v d → g d = false → Calls Tryz.prog F #[v] w fun e w' => e = thrown c ∧ Below w.heap.size w w') :
    ∀ (d : D) (w : World) (v : Value), IsD w v d → allD g d = true → Calls Tryz.prog 32 #[v, .func (.func F) #[] #[]] w fun e w' => e = .returned (.tuple #[]) ∧ Below w.heap.size w w' := by
  have HOK := Lib.hid hok
  have HBAD := Lib.hid hbad
  clear hok hbad
  refine D.induct_d fun d ih w v h hg => ?_
  have IH := Lib.hid ih
  have HD := Lib.hid h
  rw [allD_eq] at hg
  obtain ⟨a5, c5, a6, c6, rfl, hk, hb, hi, ht, hx, hn, hp⟩ := h.open
  clear hp hn hb hi hk ht hx h ih
  unfold aggD at HD ⊢
  have hg' := Bool.and_eq_true_iff.1 hg
  obtain ⟨hg0, hg1⟩ := hg'
  have HG0 := Lib.hid hg0
  have HG1 := Lib.hid hg1
  clear hg hg0 hg1
  go_enter Tryz.func32, Tryz.ntmps32
  go_wp2_with fail
  refine (HOK.out d _ _ (HD.out.later (Below.new _)) HG0.out).mono ?_
  rintro e w0 ⟨rfl, hB0⟩
  have HB0 := Lib.hid hB0
  have hz0 : w.heap.size < w0.heap.size := by have := hB0.size; simp at this; omega
  have hblk : w0.heap[w.heap.size]? = some (.cells #[.int .i64 d.kind, .string d.type, .int .u64 d.bits, .int .u64 d.imag, .string d.text, .slice a5 d.names.length c5, .slice a6 d.parts.length c6, .int .i64 d.hook] 26 (0, 0)) := by
    rw [hB0.block _ (by simp)]; exact heap_alloc_new w _
  have q0 : w0.cell? ⟨w.heap.size, 0, none⟩ = some (.int .i64 d.kind) := by simp [World.cell?, hblk]
  have q1 : w0.cell? ⟨w.heap.size, 1, none⟩ = some (.string d.type) := by simp [World.cell?, hblk]
  have q2 : w0.cell? ⟨w.heap.size, 2, none⟩ = some (.int .u64 d.bits) := by simp [World.cell?, hblk]
  have q3 : w0.cell? ⟨w.heap.size, 3, none⟩ = some (.int .u64 d.imag) := by simp [World.cell?, hblk]
  have q4 : w0.cell? ⟨w.heap.size, 4, none⟩ = some (.string d.text) := by simp [World.cell?, hblk]
  have q5' : w0.cell? ⟨w.heap.size, 5, none⟩ = some (.slice a5 d.names.length c5) := by simp [World.cell?, hblk]
  have q6' : w0.cell? ⟨w.heap.size, 6, none⟩ = some (.slice a6 d.parts.length c6) := by simp [World.cell?, hblk]
  have q7 : w0.cell? ⟨w.heap.size, 7, none⟩ = some (.int .i64 d.hook) := by simp [World.cell?, hblk]
  clear hB0 hblk
  go_wp2_with fail
  refine (parts_any (HD.out.later ((Below.new _).next HB0.out))).mono ?_
  rintro e w1 ⟨a, ca, rfl, hp1, hB1⟩
  have HB1 := Lib.hid (((Below.new _).next HB0.out).next hB1)
  have HPM := Lib.hid (fun x (hx : x ∈ partsOf d) => IH.out x (partsOf_mem hx))
  obtain ⟨ps, hps⟩ : ∃ ps, ps = partsOf d := ⟨_, rfl⟩
  rw [← hps] at hp1 HPM HG1 ⊢
  have hl2 : ps.length ≤ 9223372036854775807 := by have := hp1.1; have := hp1.2.1; unfold cap47 at this; omega
  have HP := Lib.hid hp1
  clear hps HD hp1 hB1 IH HG0 HB0 HOK HBAD q0 q1 q2 q3 q4 q5' q6' q7
  go_wp2_with fail
  go_loopw [12] (fun k wr => ∃ i : Nat, i ≤ ps.length ∧ k = .int .i64 i ∧ Hid (allL g (ps.drop i) = true) ∧ Below w1.heap.size w1 wr) (fun k _ => ps.length - (intOf k).toNat)
  case atStart => exact ⟨0, by omega, rfl, HG1, Below.refl _ _⟩
  case round =>
    obtain ⟨i, hi, rfl, HRec, hB⟩ := hrel
    have HB := Lib.hid hB
    clear hB
    by_cases hin : i < ps.length
    · obtain ⟨b, o, p5, q5, p6, q6, rfl, hrow, hD⟩ := HP.out.elem HB.out hin
      obtain ⟨k0, k1, k2, k3, k4, k5, k6, k7⟩ := hrow
      have hrc := HRec.out
      rw [allL_cons_drop g hin] at hrc
      have HRec2 := Lib.hid hrc
      have HX := Lib.hid hD
      have HIH := Lib.hid (HPM.out ps[i] (List.getElem_mem _))
      clear hrc hD
      obtain ⟨x, hx⟩ : ∃ x, x = ps[i] := ⟨_, rfl⟩
      rw [← hx] at k0 k1 k2 k3 k4 k5 k6 k7 HRec2 HX HIH
      unfold aggD at HX
      clear hx
      go_wp2_with fail
      refine (HIH.out _ _ (HX.out.later (Below.new _)) (Bool.and_eq_true_iff.1 HRec2.out).1).mono ?_
      rintro e w3 ⟨rfl, hB3⟩
      have HB3 := Lib.hid ((HB.out.push _).next hB3)
      clear hB3 k0 k1 k2 k3 k4 k5 k6 k7 HX HIH
      go_wp2_with fail
      go_roundw
      case rel => exact ⟨i + 1, by omega, by go_num, (Bool.and_eq_true_iff.1 HRec2.out).2, HB3.out⟩
      case measure => simp [intOf]; omega
    · go_wp2_with fail
      go_end0
      exact ⟨rfl, HB1.out.next HB.out⟩

set_option maxHeartbeats 1000000 in
theorem each_bad (g : D → Bool) (F : Nat) (c : Int) (hcf : ∀ (args : Array Value) (W : World), Sem.run Tryz.prog (callFunc F args) W = .ok (.enter F args) W)
    (hok : ∀ (d : D) (w : World) (v : Value), IsD w v d → g d = true → Calls Tryz.prog F #[v] w fun e w' => e = .returned (.tuple #[]) ∧ Below w.heap.size w w')
    (hbad : ∀ (d : D) (w : World) (v : Value), IsD w v d → g d = false → Calls Tryz.prog F #[v] w fun e w' => e = thrown c ∧ Below w.heap.size w w') :
    ∀ (d : D) (w : World) (v : Value), IsD w v d → allD g d = false → Calls Tryz.prog 32 #[v, .func (.func F) #[] #[]] w fun e w' => e = thrown c ∧ Below w.heap.size w w' := by
  have HOK := Lib.hid hok
  have HBAD := Lib.hid hbad
  have HOK2 := Lib.hid hok
  have HBAD2 := Lib.hid hbad
  clear hok hbad
  refine D.induct_d fun d ih w v h hg => ?_
  have IH := Lib.hid ih
  have HD := Lib.hid h
  rw [allD_eq] at hg
  obtain ⟨a5, c5, a6, c6, rfl, hk, hb, hi, ht, hx, hn, hp⟩ := h.open
  clear hp hn hb hi hk ht hx h ih
  unfold aggD at HD ⊢
  have HG := Lib.hid hg
  clear hg
  by_cases hg0 : g d = true
  rotate_left
  · have HG0 := Lib.hid hg0
    clear hg0
    go_enter Tryz.func32, Tryz.ntmps32
    go_wp2_with fail
    refine (HBAD.out d _ _ (HD.out.later (Below.new _)) (by simpa using HG0.out)).mono ?_
    rintro e w1 ⟨rfl, hB1⟩
    have HB1 := Lib.hid ((Below.new _).next hB1)
    clear hB1
    go_wp2_with fail
    exact ⟨rfl, rfl, HB1.out⟩
  have HG0 := Lib.hid hg0
  have HG1 : Hid (allL g (partsOf d) = false) := by have := HG.out; rw [hg0] at this; show _ = _; simpa using this
  clear hg0 HG
  go_enter Tryz.func32, Tryz.ntmps32
  go_wp2_with fail
  refine (HOK.out d _ _ (HD.out.later (Below.new _)) HG0.out).mono ?_
  rintro e w0 ⟨rfl, hB0⟩
  have HB0 := Lib.hid hB0
  have hz0 : w.heap.size < w0.heap.size := by have := hB0.size; simp at this; omega
  have hblk : w0.heap[w.heap.size]? = some (.cells #[.int .i64 d.kind, .string d.type, .int .u64 d.bits, .int .u64 d.imag, .string d.text, .slice a5 d.names.length c5, .slice a6 d.parts.length c6, .int .i64 d.hook] 26 (0, 0)) := by
    rw [hB0.block _ (by simp)]; exact heap_alloc_new w _
  have q0 : w0.cell? ⟨w.heap.size, 0, none⟩ = some (.int .i64 d.kind) := by simp [World.cell?, hblk]
  have q1 : w0.cell? ⟨w.heap.size, 1, none⟩ = some (.string d.type) := by simp [World.cell?, hblk]
  have q2 : w0.cell? ⟨w.heap.size, 2, none⟩ = some (.int .u64 d.bits) := by simp [World.cell?, hblk]
  have q3 : w0.cell? ⟨w.heap.size, 3, none⟩ = some (.int .u64 d.imag) := by simp [World.cell?, hblk]
  have q4 : w0.cell? ⟨w.heap.size, 4, none⟩ = some (.string d.text) := by simp [World.cell?, hblk]
  have q5' : w0.cell? ⟨w.heap.size, 5, none⟩ = some (.slice a5 d.names.length c5) := by simp [World.cell?, hblk]
  have q6' : w0.cell? ⟨w.heap.size, 6, none⟩ = some (.slice a6 d.parts.length c6) := by simp [World.cell?, hblk]
  have q7 : w0.cell? ⟨w.heap.size, 7, none⟩ = some (.int .i64 d.hook) := by simp [World.cell?, hblk]
  clear hB0 hblk
  go_wp2_with fail
  refine (parts_any (HD.out.later ((Below.new _).next HB0.out))).mono ?_
  rintro e w1 ⟨a, ca, rfl, hp1, hB1⟩
  have HB1 := Lib.hid (((Below.new _).next HB0.out).next hB1)
  have HPM := Lib.hid (fun x (hx : x ∈ partsOf d) => IH.out x (partsOf_mem hx))
  obtain ⟨ps, hps⟩ : ∃ ps, ps = partsOf d := ⟨_, rfl⟩
  rw [← hps] at hp1 HPM HG1 ⊢
  have hl2 : ps.length ≤ 9223372036854775807 := by have := hp1.1; have := hp1.2.1; unfold cap47 at this; omega
  have HP := Lib.hid hp1
  clear hps HD hp1 hB1 IH HG0 HB0 HOK HBAD q0 q1 q2 q3 q4 q5' q6' q7
  go_wp2_with fail
  go_loopw [12] (fun k wr => ∃ i : Nat, i ≤ ps.length ∧ k = .int .i64 i ∧ Hid (allL g (ps.drop i) = false) ∧ Below w1.heap.size w1 wr) (fun k _ => ps.length - (intOf k).toNat)
  case atStart => exact ⟨0, by omega, rfl, HG1, Below.refl _ _⟩
  case round =>
    obtain ⟨i, hi, rfl, HRec, hB⟩ := hrel
    have HB := Lib.hid hB
    clear hB
    by_cases hin : i < ps.length
    · obtain ⟨b, o, p5, q5, p6, q6, rfl, hrow, hD⟩ := HP.out.elem HB.out hin
      obtain ⟨k0, k1, k2, k3, k4, k5, k6, k7⟩ := hrow
      have hrc := HRec.out
      rw [allL_cons_drop g hin] at hrc
      have HRec2 := Lib.hid hrc
      have HX := Lib.hid hD
      have HIH := Lib.hid (HPM.out ps[i] (List.getElem_mem _))
      clear hrc hD
      obtain ⟨x, hx⟩ : ∃ x, x = ps[i] := ⟨_, rfl⟩
      rw [← hx] at k0 k1 k2 k3 k4 k5 k6 k7 HRec2 HX HIH
      unfold aggD at HX
      clear hx
      by_cases hxx : allD g x = false
      · have HXX := Lib.hid hxx
        clear hxx
        go_wp2_with fail
        refine (HIH.out _ _ (HX.out.later (Below.new _)) HXX.out).mono ?_
        rintro e w3 ⟨rfl, hB3⟩
        have HB3 := Lib.hid ((HB.out.push _).next hB3)
        clear hB3 k0 k1 k2 k3 k4 k5 k6 k7 HX HIH
        go_wp2_with fail
        exact ⟨rfl, rfl, HB1.out.next HB3.out⟩
      · have HXX : Hid (allD g x = true) := by show _ = _; simpa using hxx
        have HXY : Hid (allL g (ps.drop (i + 1)) = false) := by have := HRec2.out; rw [HXX.out] at this; show _ = _; simpa using this
        clear hxx HRec2
        go_wp2_with fail
        refine (each_ok g F c hcf HOK2.out HBAD2.out x _ _ (HX.out.later (Below.new _)) HXX.out).mono ?_
        rintro e w3 ⟨rfl, hB3⟩
        have HB3 := Lib.hid ((HB.out.push _).next hB3)
        clear hB3 k0 k1 k2 k3 k4 k5 k6 k7 HX HIH
        go_wp2_with fail
        go_roundw
        case rel => exact ⟨i + 1, by omega, by go_num, HXY, HB3.out⟩
        case measure => simp [intOf]; omega
    · exfalso
      have := HRec.out
      rw [List.drop_of_length_le (by omega)] at this
      simp [allL] at this

/-- Is a kind one of api's? -/
def kindB (d : D) : Bool := decide (0 ≤ d.kind ∧ d.kind ≤ 22)
theorem cf39 (c : Array Value) (W : World) : Sem.run Tryz.prog (callFunc 33 c) W = .ok (.enter 33 c) W := by kernel_rfl
theorem cf40 (c : Array Value) (W : World) : Sem.run Tryz.prog (callFunc 34 c) W = .ok (.enter 34 c) W := by kernel_rfl
theorem kind_ok (d : D) (w : World) (v : Value) (h : IsD w v d) (hg : kindB d = true) : Calls Tryz.prog 33 #[v] w fun e w' => e = .returned (.tuple #[]) ∧ Below w.heap.size w w' := by
  obtain ⟨a5, c5, a6, c6, rfl, hk, hb, hi, ht, hx, hn, hp⟩ := h.open
  clear hp hn hb hi hk ht hx h
  unfold aggD
  have h1 : 0 ≤ d.kind ∧ d.kind ≤ 22 := by simpa [kindB] using hg
  obtain ⟨h1, h2⟩ := h1
  clear hg
  have hB := Lib.hid (Below.new (w := w))
  go_enter Tryz.func33, Tryz.ntmps33
  go_wp2_with fail
  refine (must_ok 3 _).mono ?_
  rintro e w1 ⟨rfl, rfl⟩
  go_wp2_with fail
  go_end0
  exact ⟨rfl, hB.out _⟩
theorem kind_bad (d : D) (w : World) (v : Value) (h : IsD w v d) (hg : kindB d = false) : Calls Tryz.prog 33 #[v] w fun e w' => e = thrown 3 ∧ Below w.heap.size w w' := by
  obtain ⟨a5, c5, a6, c6, rfl, hk, hb, hi, ht, hx, hn, hp⟩ := h.open
  clear hp hn hb hi hk ht hx h
  unfold aggD
  have hB := Lib.hid (Below.new (w := w))
  by_cases h1 : 0 ≤ d.kind
  · have h2 : 22 < d.kind := by simp [kindB] at hg; omega
    have h3 : decide (d.kind ≤ 22) = false := by simp; omega
    clear hg
    go_enter Tryz.func33, Tryz.ntmps33
    go_wp2_with fail
    refine (must_bad 3 _).mono ?_
    rintro e w1 ⟨rfl, rfl⟩
    go_wp2_with fail
    exact ⟨rfl, rfl, hB.out _⟩
  · clear hg
    go_enter Tryz.func33, Tryz.ntmps33
    go_wp2_with fail
    refine (must_bad 3 _).mono ?_
    rintro e w1 ⟨rfl, rfl⟩
    go_wp2_with fail
    exact ⟨rfl, rfl, hB.out _⟩
end Go.Proofs.YtkpfeodffhfejaaGreatDoor
