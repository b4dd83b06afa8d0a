/- The law PrinterLits is true of any text and number: the walk. Condition: the tables of utf8, the text's size. -/
import Derived.Test.YtnalppgjbllehaaGreatDoorL48
import Derived.Test.YtnalppgjbllehaaGreatDoorL09
import Derived.WalkKit
import Derived.ProofKit
import Derived.OpenShut
import Derived.SizedLaws
import Derived.Test.YtnalppgjbllehaaGreatDoorL00
import Derived.Lib.LaidIn
import Derived.Lib.LaidU8T
import Derived.PinnedBridge
import Derived.LaidMore
import Derived.Lay
import Derived.Test.YtnalppgjbllehaaGreatDoorCards
import Derived.Test.YtnalppgjbllehaaGreatDoorTie
import Derived.SevenTiedAt
import Derived.Stop.Joined
namespace Go.Proofs.YtnalppgjbllehaaGreatDoor
set_option linter.unusedVariables false
set_option linter.unusedSimpArgs false
open Go.RowKit

theorem index_is (t : ByteArray) (k : Nat) (W : World) (h : k < t.size) : (Instr.index 9 (.string t) (.int .i64 (k : Int))).run Tryz.prog W = .ok (.int .u8 (t[k].toNat : Int)) W := by
  rw [run_index_string (P := Tryz.prog) W 9 t .i64 _ Tryz.underlying9, dif_pos ⟨by omega, by omega⟩]
  rfl
set_option maxHeartbeats 4000000 in
set_option maxRecDepth 1000000 in
theorem lits_any (s : ByteArray) (times : Int) (w : World) (hT : Lib.Utf8Tabs 1 2 w) (hs : s.size ≤ 9223372036854775807) : Calls Tryz.prog 3 #[.string s, .int .i64 times] w (Ret w (.bool true)) := by
  have HT := Lib.hid hT
  clear hT
  obtain ⟨m, hm⟩ : ∃ m, max 1 (min times 200) = m := ⟨_, rfl⟩
  have hm1 : 1 ≤ m := by omega
  have hm2 : m ≤ 200 := by omega
  go_enter Tryz.func3, Tryz.ntmps3
  go_wp2_with fail
  go_loopw [5, 6] (fun v5 k wr => ∃ (t : ByteArray) (i : Int), v5 = .string t ∧ k = .int .i64 i ∧ 0 ≤ i ∧ i ≤ m ∧ t.size ≤ 6999 ∧ Hid (NoP t) ∧ wr = w) (fun _ k _ => (m - intOf k).toNat)
  case atStart => exact ⟨⟨#[]⟩, 0, rfl, rfl, Int.le_refl _, by omega, by decide, Lib.hid (by unfold NoP; simp), rfl⟩
  case round =>
    obtain ⟨t, i, rfl, rfl, hi0, him, htz, HN, rfl⟩ := hrel
    by_cases h1 : i < m
    · by_cases h2 : t.size < 6000
      · have h2' : (t.size : Int) < 6000 := by omega
        go_wp2_with fail
        go_loopw [5, 7] (fun v5 k wr' => ∃ (t' : ByteArray) (j : Nat), v5 = .string t' ∧ k = .int .i64 (j : Int) ∧ j ≤ s.size ∧ j ≤ 1000 ∧ t'.size ≤ 5999 + j ∧ Hid (NoP t') ∧ wr' = wr) (fun _ k _ => 1000 - (intOf k).toNat)
        case atStart => exact ⟨t, 0, rfl, rfl, Nat.zero_le _, by omega, by omega, HN, rfl⟩
        case round =>
          obtain ⟨t', j, rfl, rfl, hjs, hj1, htz', HN', rfl⟩ := hrel
          by_cases h3 : j < s.size
          · have h3' : (j : Int) < (s.size : Int) := by omega
            by_cases h4 : j < 1000
            · have h4' : (j : Int) < 1000 := by omega
              have hix := fun W => index_is s j W h3
              have hz1 : (s.extract j (j + 1)).size = 1 := by rw [ByteArray.size_extract]; omega
              have hcat : ¬ 9223372036854775807 < t'.size + (s.extract j (j + 1)).size := by rw [hz1]; omega
              have HCZ : Hid ((t' ++ s.extract j (j + 1)).size = t'.size + 1) := by show _ = _; rw [ByteArray.size_append, hz1]
              by_cases h5 : s[j] = 37
              · have e5 : ((s[j].toNat : Int) != 37) = false := by rw [h5]; rfl
                clear h5 hz1
                go_wp2_with fail
                go_roundw
                case rel => exact ⟨t', j + 1, rfl, by go_num, by omega, by omega, by omega, HN', (by first | rfl | trivial)⟩
                case measure => simp [intOf]; omega
              · have e5 : ((s[j].toNat : Int) != 37) = true := by
                  have h : s[j].toNat ≠ 37 := fun h => h5 (UInt8.toNat_inj.1 h)
                  simp
                  omega
                have HNN := Lib.hid (noP_byte HN'.out j h3 h5)
                clear h5 hz1
                go_wp2_with fail
                go_roundw
                case rel => exact ⟨_, j + 1, rfl, by go_num, by omega, by omega, by rw [HCZ.out]; omega, HNN, (by first | rfl | trivial)⟩
                case measure => simp [intOf]; omega
            · have h4' : ¬ (j : Int) < 1000 := by omega
              go_wp2_with fail
              go_roundw
              case rel => exact ⟨t', i + 1, rfl, by go_num, by omega, by omega, by omega, HN', (by first | rfl | trivial)⟩
              case measure => simp [intOf]; omega
          · have h3' : ¬ (j : Int) < (s.size : Int) := by omega
            go_wp2_with fail
            go_roundw
            case rel => exact ⟨t', i + 1, rfl, by go_num, by omega, by omega, by omega, HN', (by first | rfl | trivial)⟩
            case measure => simp [intOf]; omega
      · have h2' : ¬ (t.size : Int) < 6000 := by omega
        have HSP := Lib.hid (sprintf_any (w := wr) none 0 0 t [] none 0 (PartsAt.nil wr) showL (fun WB sb av _ => showL_H WB sb 0 av) HT.out (by omega) (fun x hx => by cases hx) _ (at_noP HN.out))
        by_cases h6 : 4096 < t.size
        · have h6' : (4096 : Int) < (t.size : Int) := by omega
          have e6 : outT t = t.extract 0 4096 ++ ⟨#[37, 33, 40, 84, 79, 79, 76, 79, 78, 71, 41]⟩ := by unfold outT; rw [if_pos h6]; rfl
          have hz6 : (t.extract 0 4096).size = 4096 := by rw [ByteArray.size_extract]; omega
          have hcat : ¬ 9223372036854775807 < (t.extract 0 4096).size + (⟨#[37, 33, 40, 84, 79, 79, 76, 79, 78, 71, 41]⟩ : ByteArray).size := by rw [hz6]; decide
          rw [e6] at HSP
          clear e6 hz6
          go_wp2_with fail
          refine HSP.out.mono ?_
          rintro e W2 ⟨rfl, hb⟩
          have HB := Lib.hid hb
          have HT2 := Lib.hid (Utf8Tabs.below HT.out (Utf8Tabs.two HT.out) hb)
          clear hb HSP
          go_wp2_with fail
          refine (lives_any W2 HT2.out).mono ?_
          rintro e W3 ⟨rfl, hb⟩
          have HB3 := Lib.hid (HB.out.next hb)
          clear hb
          go_wp2_with fail
          go_ret
          exact ⟨rfl, HB3.out⟩
        · omega
    · have hi' : ¬ i < m := h1
      have HSP := Lib.hid (sprintf_any (w := wr) none 0 0 t [] none 0 (PartsAt.nil wr) showL (fun WB sb av _ => showL_H WB sb 0 av) HT.out (by omega) (fun x hx => by cases hx) _ (at_noP HN.out))
      by_cases h6 : 4096 < t.size
      · have h6' : (4096 : Int) < (t.size : Int) := by omega
        have e6 : outT t = t.extract 0 4096 ++ ⟨#[37, 33, 40, 84, 79, 79, 76, 79, 78, 71, 41]⟩ := by unfold outT; rw [if_pos h6]; rfl
        have hz6 : (t.extract 0 4096).size = 4096 := by rw [ByteArray.size_extract]; omega
        have hcat : ¬ 9223372036854775807 < (t.extract 0 4096).size + (⟨#[37, 33, 40, 84, 79, 79, 76, 79, 78, 71, 41]⟩ : ByteArray).size := by rw [hz6]; decide
        rw [e6] at HSP
        clear e6 hz6
        go_wp2_with fail
        refine HSP.out.mono ?_
        rintro e W2 ⟨rfl, hb⟩
        have HB := Lib.hid hb
        have HT2 := Lib.hid (Utf8Tabs.below HT.out (Utf8Tabs.two HT.out) hb)
        clear hb HSP
        go_wp2_with fail
        refine (lives_any W2 HT2.out).mono ?_
        rintro e W3 ⟨rfl, hb⟩
        have HB3 := Lib.hid (HB.out.next hb)
        clear hb
        go_wp2_with fail
        go_ret
        exact ⟨rfl, HB3.out⟩
      · have h6' : ¬ (4096 : Int) < (t.size : Int) := by omega
        have e6 : outT t = t := by unfold outT; rw [if_neg h6]
        rw [e6] at HSP
        clear e6
        go_wp2_with fail
        refine HSP.out.mono ?_
        rintro e W2 ⟨rfl, hb⟩
        have HB := Lib.hid hb
        have HT2 := Lib.hid (Utf8Tabs.below HT.out (Utf8Tabs.two HT.out) hb)
        clear hb HSP
        go_wp2_with fail
        refine (lives_any W2 HT2.out).mono ?_
        rintro e W3 ⟨rfl, hb⟩
        have HB3 := Lib.hid (HB.out.next hb)
        clear hb
        go_wp2_with fail
        go_ret
        exact ⟨rfl, HB3.out⟩
end Go.Proofs.YtnalppgjbllehaaGreatDoor

/- A law's row out of its walk: a general step for rows that say 'true, the input reads as it did'. No condition. -/
namespace Go.Proofs.YtnalppgjbllehaaGreatDoor
open Go.ChangeShapes Go.WideShapes Go.ChangeAt Go.RowKit Go.WideElems

theorem Tryz.laidOut : laidOutB Tryz.prog = true := by kernel_rfl
theorem i64_of_wf {x : Int} (h : (Lit.int .i64 x).wf = true) : I64 x := by
  simp only [Lit.wf, Bool.and_eq_true, decide_eq_true_eq] at h
  rw [show IntKind.i64.min = -9223372036854775808 from rfl, show IntKind.i64.max = 9223372036854775807 from rfl] at h
  unfold I64; omega
theorem u64_of_wf {x : Int} (h : (Lit.int .u64 x).wf = true) : U64 x := by
  simp only [Lit.wf, Bool.and_eq_true, decide_eq_true_eq] at h
  rw [show IntKind.u64.min = 0 from rfl, show IntKind.u64.max = 18446744073709551615 from rfl] at h
  unfold U64; omega

theorem trodAll_keep {H : Type} {enc : TypeId × Value → H} {P : Program} (hl : laidOutB P = true) {W W' : World} (hb : Below W.heap.size W W') :
    ∀ {ts : List TypeId} {vs : List Value} {ds : List (DataW H)} {ps : List MemPlace}, (ts.all fun t => P.readableRec t && decide (t < P.types.size)) = true →
      DataW.TrodAll enc P W 0 (fun _ => true) true ts vs ds ps → (∀ x ∈ ps, x.block < W.heap.size) →
      DataW.TrodAll enc P W' 0 (fun b => decide (b < W.heap.size)) true ts vs ds ps
  | [], _, _, _, _, h, _ => by
    obtain ⟨rfl, rfl, rfl⟩ := trodAll_nil h
    exact rfl
  | t :: ts, _, _, _, ht, h, hlt => by
    obtain ⟨v, vs, d, ds, p, q, rfl, rfl, rfl, h0, r0⟩ := trodAll_cons h
    simp only [List.all_cons, Bool.and_eq_true, decide_eq_true_eq] at ht
    exact trodAll_cons_mk (Trod_stays hl ht.1.1 ht.1.2 h0 (fun x hx => hb.same (hlt x (by simp [hx]))) (fun x hx => by simpa using hlt x (by simp [hx])))
      (trodAll_keep hl hb ht.2 r0 (fun x hx => hlt x (by simp [hx])))

/-- A law's row out of its walk: true; the input reads as it did. -/
theorem true_contract {H : Type} {enc : TypeId × Value → H} {C : Checked} {f : FuncId} {fn : Func} {s : ChangeSpec} {tb : TypeId}
    (hl : laidOutB C.prog = true) (hts : (fn.params.toList.all fun t => C.prog.readableRec t && decide (t < C.prog.types.size)) = true)
    (hres : fn.resultTypes = #[tb]) (htb : C.prog.underlying tb = some .bool) (hv : s.vars = [])
    (hs : ∀ ds : List (DataW H), ds.length = fn.params.size → s.fn H ds = { results := [.lit (.bool true)], args := ds })
    {W : World} {args : Array Value} {ds gs : List (DataW H)} {before : List MemPlace}
    (hW : DataW.Whole enc C.prog fn.params.toList s.vars false W args.toList ds gs before)
    (walk : DataW.TrodAll enc C.prog W 0 (fun _ => true) true fn.params.toList args.toList ds before → (∀ x ∈ before, x.block < W.heap.size) →
      Calls C.prog f args W fun e W' => e = .returned (.bool true) ∧ Below W.heap.size W W') :
    Calls C.prog f args W fun e W' => ∃ v, e = .returned v ∧ s.post enc C.prog fn false true false false W args v W' := by
  have hlt := hW.lt
  have hW' := hW
  obtain ⟨p, q, hA, hV, rfl, hfz, hnd⟩ := hW
  rw [hv] at hV
  have hq : gs = [] ∧ q = [] := by
    cases gs with
    | nil => exact ⟨rfl, hV⟩
    | cons a b => exact hV.elim
  obtain ⟨rfl, rfl⟩ := hq
  simp only [List.append_nil] at hlt hW'
  have hlen : ds.length = fn.params.size := by
    have : ∀ {ts : List TypeId} {vs : List Value} {ds : List (DataW H)} {ps : List MemPlace}, DataW.TrodAll enc C.prog W 0 (fun _ => true) true ts vs ds ps → ds.length = ts.length := by
      intro ts
      induction ts with
      | nil => intro vs ds ps h; obtain ⟨_, rfl, _⟩ := trodAll_nil h; rfl
      | cons t ts ih => intro vs ds ps h; obtain ⟨v, vs, d, ds, p, q, rfl, rfl, rfl, h0, r0⟩ := trodAll_cons h; simp [ih r0]
    simpa using this hA
  simp only [List.append_nil] at walk
  refine (walk hA hlt).mono fun e W' ⟨he, hb⟩ => ?_
  subst he
  refine ⟨_, rfl, ds, [], p, [], p, [], hW', ?_, ?_, ?_, World.keptBut_mono (fun _ h => h.elim) (hb.frame (fun _ => False)), fun h => by cases h⟩
  · rw [List.append_nil, hs ds hlen, hres]
    exact trodAll_mk1 (shut_bool htb true)
  · rw [List.append_nil, hs ds hlen]
    exact trodAll_keep hl hb hts hA hlt
  · rw [List.append_nil, hs ds hlen, hv]
    rfl

end Go.Proofs.YtnalppgjbllehaaGreatDoor

/- A row that lists the tables of utf8 and unicode's case ranges: the world in which they are laid, and the tables out of the row's own premise. No condition. -/
namespace Go.Proofs.YtnalppgjbllehaaGreatDoor
open Go.Shelf Go.ChangeShapes Go.WideShapes Go.ChangeAt Go.RowKit Go.Lib

theorem own : ownKnob Tryz.prog.godebug = none := by kernel_rfl
theorem tabs_of_laid {W : World} (h : laidMetH Tryz.prog Rows.printerLitsRow.laid W) : Lib.Utf8Tabs 1 2 W := by
  rw [MakeChecks.laidMetH_plain _ _ _ (by kernel_rfl)] at h
  have e0 : (Rows.laid_unicode_utf8_acceptRanges : DataW Unit) = acceptData := by kernel_rfl
  have e1 : Rows.laid_unicode_utf8_first = firstData := Pinned.utf8First_eq
  exact utf8Tabs_of_reads (ρ := Tryz.lays197_ren) { Tryz.lays197 with } ⟨by kernel_rfl, by kernel_rfl, by kernel_rfl, by kernel_rfl, by kernel_rfl, by kernel_rfl, by kernel_rfl⟩ (e1 ▸ Lib.laidMet.reads h (.tail _ (.tail _ (.head _)))) (e0 ▸ Lib.laidMet.reads h (.head _))
theorem laid_fits (os : Os) : (World.holding Tryz.prog os ⟨#[], #[], []⟩).layFits Tryz.prog Rows.printerLitsRow.laid [] = true := by kernel_rfl
theorem laid_ifaces (os : Os) : (World.holding Tryz.prog os ⟨#[], #[], []⟩).layIfaces Tryz.prog Rows.printerLitsRow.laid (World.laidAll Tryz.prog os Rows.printerLitsRow.laid) = true := by kernel_rfl
theorem laid_met (os : Os) (args : Array Value) : laidMetH Tryz.prog Rows.printerLitsRow.laid ((World.laidAll Tryz.prog os Rows.printerLitsRow.laid).forCall (fun _ _ => 0) ⟨#[], args, []⟩).memory := by
  rw [MakeChecks.laidMetH_plain _ _ _ (by kernel_rfl)]
  exact laidMet_laidAll _ (laid_fits os) (laid_ifaces os)
end Go.Proofs.YtnalppgjbllehaaGreatDoor

/- The row of PrinterLits: a format without a percent sign is printed as it is: the law returns true and its arguments read as they did, for every input. -/
namespace Go.Proofs.YtnalppgjbllehaaGreatDoor.printerLits
open Go.Shelf Go.ChangeShapes Go.WideShapes Go.ChangeAt Go.RowKit Go.Lib
open Go.ChangeMaps (open_string)

set_option maxRecDepth 100000 in
theorem lifted (os : Os) (started : os.Started) (H : Type) (enc : TypeId × Value → H) :
    ReturnsInHanded {} Tryz.checked os 3 .any (fun w args => (Rows.printerLitsSpec.pre enc Tryz.prog Tryz.f3 Rows.printerLitsRow.domain false w args ∧ laidMetH Tryz.prog Rows.printerLitsRow.laid w) ∧ sizedMet enc Tryz.prog Tryz.f3 (OpenSpec.ofChange Rows.printerLitsSpec) false w args)
      (Rows.printerLitsSpec.post enc Tryz.prog Tryz.f3 false true false false) := by
  refine returnsInHanded_of_change_and (C := Tryz.checked) (X := fun w _ => laidMetH Tryz.prog Rows.printerLitsRow.laid w) (fun _ _ _ hh h => h.of_heap hh) own started (by kernel_rfl) Tryz.func3
    (ChangeSpec.witness_shaped (enc := enc) (C := Tryz.checked) (os := os) (X := fun w _ => laidMetH Tryz.prog Rows.printerLitsRow.laid w) false (World.laidAll Tryz.prog os Rows.printerLitsRow.laid) #[.string ⟨#[]⟩, .int .i64 0] 8 (World.laidAll_os _ _ _)
      (World.shaped_of_ZipB (by kernel_rfl) (by kernel_rfl)) (by kernel_rfl) (by kernel_rfl) (by kernel_rfl)
      (laid_met os _)) ?_
  intro W base args ds gs before hval0 hW hc _ hL _
  have hval : ∀ (j : Nat) t v, Tryz.f3.params[j]? = some t → args[j]? = some v → Value.okWide Tryz.prog W .any base t v := hval0
  refine true_contract Tryz.laidOut (by kernel_rfl) rfl Tryz.underlying4 rfl (fun ds h => ?_) hW (fun hA hlt => ?_)
  · match ds, h with
    | [_, _], _ => rfl
  rw [Tryz.params3] at hA hval
  obtain ⟨v0, vs0, d0, ds0, p0, q0, hargs, rfl, rfl, h0, r0⟩ := trodAll_cons hA
  obtain ⟨v1, vs1, d1, ds1, p1, q1, rfl, rfl, rfl, h1, r1⟩ := trodAll_cons r0
  obtain ⟨rfl, rfl, rfl⟩ := trodAll_nil r1
  obtain rfl : args = #[v0, v1] := by cases args; simp_all
  obtain ⟨s, rfl, _, _, ws⟩ := open_string Tryz.underlying9 (hval 0 9 v0 rfl rfl) h0
  obtain ⟨y, rfl, _, _, wy⟩ := open_int Tryz.underlying3 (hval 1 3 v1 rfl rfl) h1
  exact lits_any s y W (tabs_of_laid hL) (by unfold maxLen at ws; omega)

theorem over : Rows.PrinterLitsSaid :=
  OpenClaim.holds_of_wide 3 Tryz.f3 rfl rfl rfl rfl rfl rfl rfl ⟨rfl, rfl, rfl, rfl, rfl⟩ rfl rfl rfl rfl rfl (by kernel_rfl) Tryz.func3 (by kernel_rfl)
    (of_decide_eq_true (by kernel_rfl)) (by unfold Func.isWrapper; rw [if_neg (of_decide_eq_false (by kernel_rfl))]; exact ⟨rfl, rfl⟩)
    (fun os started H enc _ => lifted os started H enc)
theorem proved : Rows.PrinterLitsCardSaid :=
  Claim7.holds_tied_plain_at .later [] [.data, .pinned, .pinned] true (true, "64683b780938099b14a5c08c680f6944452450151a2f799ad6971889380d8fab") true over (fun _ h => by cases h) (by kernel_rfl) (fun _ h => by cases h) printerLits_row_tie rfl ⟨rfl, rfl⟩ (by kernel_rfl) rfl
    (fun f fn hf hfn => by
      obtain rfl : f = 3 := Option.some.inj ((show Tryz.prog.funcNamed "platen/platenlaw14.PrinterLits" = some 3 by kernel_rfl).symm.trans hf) |>.symm
      obtain rfl : fn = Tryz.f3 := (Option.some.inj (Tryz.func3.symm.trans hfn)).symm
      exact ⟨by kernel_rfl, fun j t ht => by
        rw [Tryz.params3] at ht
        have hm : t ∈ [9, 3] := by simpa using Array.mem_of_getElem? ht
        have hall : ([9, 3].all fun u => !Tryz.prog.wantsStandIn u) = true := by kernel_rfl
        exact (show Tryz.prog.wantsStandIn t = false by simpa using List.all_eq_true.1 hall t hm)⟩)
    (by kernel_rfl)
#print axioms proved
end Go.Proofs.YtnalppgjbllehaaGreatDoor.printerLits
