/- All arguments, without a format: printer's List (without lines). Condition: as Format's. -/
import Derived.Test.YtnalppgjbllehaaGreatDoorL46
namespace Go.Proofs.YtnalppgjbllehaaGreatDoor
set_option linter.unusedVariables false
set_option linter.unusedSimpArgs false
open Go.RowKit

def isText : V → Bool
  | .leaf (.text _ _) => true
  | _ => false
/-- A blank stands between two that are no texts. -/
def gapB (i : Nat) (t s : Bool) : ByteArray := if 0 < i ∧ t = false ∧ s = false then ⟨#[32]⟩ else ⟨#[]⟩
def listF (sh : V → SpecD → Option ByteArray) : List V → Nat → Bool → ByteArray → Option ByteArray
  | [], _, _, out => some out
  | x :: l, i, t, out => (sh x bareD).bind fun s => listF sh l (i + 1) (isText x) (out ++ gapB i t (isText x) ++ s)
theorem append_empty (a : ByteArray) : a ++ (⟨#[]⟩ : ByteArray) = a := by
  apply ByteArray.ext
  rw [ByteArray.data_append]
  simp
theorem gapB_size (i : Nat) (t s : Bool) : (gapB i t s).size ≤ 1 := by
  unfold gapB
  split
  · exact Nat.le_refl _
  · exact Nat.zero_le _
theorem text_or {w : World} {v : Value} {x : V} (h : IsV w v x) : (isText x = true ∧ ∃ b s, v = (Leaf.text b s).val) ∨ (isText x = false ∧ (v = .nilIface ∨ ∃ t y, v = .iface t y ∧ t ≠ 78)) := by
  cases h with
  | nil => exact .inr ⟨rfl, .inr ⟨_, _, rfl, by decide⟩⟩
  | nil0 => exact .inr ⟨rfl, .inl rfl⟩
  | leaf l =>
    cases l with
    | text b s => exact .inl ⟨rfl, b, s, rfl⟩
    | int b x => exact .inr ⟨rfl, .inr ⟨_, _, rfl, by decide⟩⟩
    | uint b x => exact .inr ⟨rfl, .inr ⟨_, _, rfl, by decide⟩⟩
    | bool b v => exact .inr ⟨rfl, .inr ⟨_, _, rfl, by decide⟩⟩
    | float b v n => exact .inr ⟨rfl, .inr ⟨_, _, rfl, by decide⟩⟩
    | cplx b v u n => exact .inr ⟨rfl, .inr ⟨_, _, rfl, by decide⟩⟩
    | bytes b s => exact .inr ⟨rfl, .inr ⟨_, _, rfl, by decide⟩⟩
  | list => exact .inr ⟨rfl, .inr ⟨_, _, rfl, by decide⟩⟩
  | struct => exact .inr ⟨rfl, .inr ⟨_, _, rfl, by decide⟩⟩
  | map => exact .inr ⟨rfl, .inr ⟨_, _, rfl, by decide⟩⟩
  | ptr0 => exact .inr ⟨rfl, .inr ⟨_, _, rfl, by decide⟩⟩
  | ptr1 => exact .inr ⟨rfl, .inr ⟨_, _, rfl, by decide⟩⟩
structure LW (WB : World) (sb : Nat) (depth : Int) (tab av : Value) (nx : Int) (re : Bool) (w : World) (sh : V → SpecD → Option ByteArray) (xs : List V) (tot : ByteArray) (i : Nat) (t : Bool) (o : ByteArray) (W : World) : Prop where
  st : ∃ bv, StW WB sb o bv depth tab av nx re W
  ke : Ke sb w W
  run : listF sh (xs.drop i) i t o = some tot
  out : o.size ≤ i * 1000000001
set_option maxHeartbeats 4000000 in
set_option maxRecDepth 1000000 in
theorem list_any {WB : World} {sb : Nat} {bv : Value} {depth : Int} {tab av : Value} {us : List Value} {xs : List V} {nx : Int} {re : Bool} {w : World} (sh : V → SpecD → Option ByteArray) (tot : ByteArray)
    (hs : StW WB sb ⟨#[]⟩ bv depth tab av nx re w) (ha : ArgsW WB sb av us xs) (hsh : ShowH WB sb depth tab av sh) (hf : listF sh xs 0 true ⟨#[]⟩ = some tot) :
    Calls Tryz.prog 16 #[.pointer (some ⟨sb, 0, none⟩), .bool false] w (DirPost WB sb depth tab av ⟨tot, nx, re⟩ w) := by
  have HA := Lib.hid ha
  have HSH := Lib.hid hsh
  have HLEN := Lib.hid ha.len
  have hroom := ha.room
  have HL0 : Hid (LW WB sb depth tab av nx re w sh xs tot 0 true ⟨#[]⟩ w) := ⟨⟨bv, hs⟩, Ke.refl _ _, by rw [List.drop_zero]; exact hf, by decide⟩
  obtain ⟨aa, ac, hav⟩ := own_slice ha.own
  have HAV := Lib.hid hav
  obtain ⟨m, hm⟩ : ∃ m, us.length = m := ⟨_, rfl⟩
  have HM := Lib.hid hm
  rw [hm] at hroom
  have k4 : w.cell? ⟨sb, 4, none⟩ = some (.slice aa m ac) := by rw [← hm, ← hav]; exact cell_of_heap' hs.blk 4
  have t94 := as94
  have n94 := asn94
  have hmf : ∀ (fn : Fn) (first cap : Array Value) (w : World), (Instr.makeFunc fn first cap).run Tryz.prog w = .ok (.func fn first cap) w := fun _ _ _ _ => rfl
  clear ha hsh hs hf hav hm
  go_enter Tryz.func16, Tryz.ntmps16
  go_wp2_with fail
  go_loopw [4, 14] (fun t4 k wr => ∃ (i : Nat) (t : Bool) (o : ByteArray), t4 = .bool t ∧ k = .int .i64 (i : Int) ∧ i ≤ m ∧ Hid (LW WB sb depth tab av nx re w sh xs tot i t o wr)) (fun _ k _ => m - (intOf k).toNat)
  case atStart => exact ⟨0, true, _, rfl, rfl, Nat.zero_le _, HL0⟩
  case round =>
    obtain ⟨i, t, o, rfl, rfl, hi, HL⟩ := hrel
    by_cases hin : i < m
    · have hiu : i < us.length := by rw [HM.out]; exact hin
      have hix : i < xs.length := by rw [HLEN.out]; exact hiu
      obtain ⟨bvi, hst⟩ := HL.out.st
      have HST := Lib.hid hst
      obtain ⟨g, c', eg, hcc, hgs, hgl, hcell⟩ := HA.out.cells (by rw [HM.out]; omega)
      rw [HAV.out, HM.out] at eg
      injection eg with eg1 eg2 eg3
      subst eg1
      subst eg3
      rw [HM.out] at hcc
      have hcu : wr.cell? ⟨g, i, none⟩ = some us[i] := (World.cell?_of_block (a := ⟨g, i, none⟩) (hst.keep g hgl hgs)).trans (hcell i hiu)
      have hiv := HA.out.isV hst.keep hiu hix
      have hrun := HL.out.run
      rw [List.drop_eq_getElem_cons hix, listF] at hrun
      obtain ⟨x, hx⟩ : ∃ x, xs[i] = x := ⟨_, rfl⟩
      rw [hx] at hiv hrun
      obtain ⟨q, hq, hrest⟩ : ∃ q, sh x bareD = some q ∧ listF sh (xs.drop (i + 1)) (i + 1) (isText x) (o ++ gapB i t (isText x) ++ q) = some tot := by
        cases hqq : sh x bareD with
        | none => rw [hqq] at hrun; cases hrun
        | some q => rw [hqq] at hrun; exact ⟨q, rfl, hrun⟩
      have hqz := HSH.out.size hq
      have hgz := gapB_size i t (isText x)
      have hoz := HL.out.out
      have hIV : ∀ W, (∀ k, k < WB.heap.size → k ≠ sb → W.heap[k]? = WB.heap[k]?) → IsV W us[i] x := fun W hk => hx ▸ HA.out.isV hk hiu hix
      have htx := text_or hiv
      obtain ⟨u, hu⟩ : ∃ u, us[i] = u := ⟨_, rfl⟩
      rw [hu] at hcu htx hIV
      obtain ⟨ist, hist⟩ : ∃ b, isText x = b := ⟨_, rfl⟩
      rw [hist] at htx hrest hgz
      obtain ⟨gp, hgp⟩ : ∃ y, gapB i t ist = y := ⟨_, rfl⟩
      rw [hgp] at hrest hgz
      have HGP := Lib.hid hgp
      have HSHW : Hid (∀ bv' W, StW WB sb (o ++ gp) bv' depth tab av nx re W → Calls Tryz.prog 25 #[u, .agg (specCells bareD), .func (.func 27) #[.pointer (some ⟨sb, 0, none⟩)] #[]] W (Ret W (.string q))) :=
        Lib.hid fun bv' W hW => HSH.out.call hW (hIV W hW.keep) ⟨by decide, by decide, by decide, by decide⟩ hq
      have HNX : Hid (∀ W, (∃ bv', StW WB sb (o ++ gp ++ q) bv' depth tab av nx re W) → Ke sb wr W → LW WB sb depth tab av nx re w sh xs tot (i + 1) ist (o ++ gp ++ q) W) :=
        Lib.hid fun W h1 h2 => ⟨h1, HL.out.ke.trans h2, hrest, by rw [ByteArray.size_append, ByteArray.size_append]; omega⟩
      have HOZ : Hid ((o ++ gp).size + q.size ≤ 4611686018427387904 ∧ o.size ≤ 17000000017) := by
        have h3 : i * 1000000001 ≤ 16 * 1000000001 := Nat.mul_le_mul_right _ (by omega)
        exact Lib.hid ⟨by rw [ByteArray.size_append]; omega, by omega⟩
      clear hcell hiv hrun hq hrest hqz hgz hoz hIV hu hist hgp eg2 hst hx
      rcases htx with ⟨hi1, b, s, rfl⟩ | ⟨hi1, rfl | ⟨tt, y, rfl, htt⟩⟩
      · subst hi1
        unfold Leaf.val at hcu HSHW
        go_upto_region 5 with fail
        have HSTa := Lib.hid (HST.out.later (Below.new (w := wr) (.cells #[.int .i64 b.kind, .string b.name, .int .i64 b.hook, .string s] 78)))
        have HKa := Lib.hid ((Ke.refl sb wr).below (Below.new (w := wr) (.cells #[.int .i64 b.kind, .string b.name, .int .i64 b.hook, .string s] 78)))
        generalize wr.alloc (.cells #[.int .i64 b.kind, .string b.name, .int .i64 b.hook, .string s] 78) = W1 at HSTa HKa ⊢
        obtain ⟨pt, hpt⟩ : ∃ b, decide (0 < i ∧ t = false ∧ true = false) = b := ⟨_, rfl⟩
        go_cut [36] (fun v36 wx => v36 = .bool pt ∧ wx = W1)
        case first =>
          by_cases h0 : 0 < i
          · have h0' : (0 : Int) < (i : Int) := by omega
            cases t with
            | true =>
              obtain rfl : pt = false := by rw [← hpt]; exact decide_eq_false (by intro h; exact absurd h.2.1 (by decide))
              go_wp2_with fail
              go_meet
              exact ⟨rfl, rfl⟩
            | false =>
              obtain rfl : pt = false := by rw [← hpt]; exact decide_eq_false (by intro h; exact absurd h.2.2 (by decide))
              go_wp2_with fail
              go_meet
              exact ⟨rfl, rfl⟩
          · have h0' : ¬ (0 : Int) < (i : Int) := by omega
            obtain rfl : pt = false := by rw [← hpt]; exact decide_eq_false (by intro h; exact h0 h.1)
            go_wp2_with fail
            go_meet
            exact ⟨rfl, rfl⟩
        case rest =>
        obtain ⟨rfl, rfl⟩ := hcut
        apply_assumption
        go_cut [36] (fun v36 wx => (∃ bb, v36 = .bool bb) ∧ (∃ bv', StW WB sb (o ++ gp) bv' depth tab av nx re wx) ∧ Ke sb wr wx)
        case first =>
          cases pt with
          | false =>
            have hge : gp = ⟨#[]⟩ := by rw [← HGP.out]; unfold gapB; rw [if_neg (of_decide_eq_false hpt)]
            clear hpt
            go_wp2_with fail
            go_meet
            exact ⟨⟨_, rfl⟩, ⟨_, by rw [hge, append_empty]; exact HSTa.out⟩, HKa.out⟩
          | true =>
            have hge : gp = ⟨#[32]⟩ := by rw [← HGP.out]; unfold gapB; rw [if_pos (of_decide_eq_true hpt)]
            clear hpt
            go_wp2_with fail
            refine (put_any ⟨#[32]⟩ HSTa.out (by have := HOZ.out.2; show o.size + 1 ≤ _; omega)).mono ?_
            rintro e wp ⟨rfl, bvp, hstp, hfrp⟩
            have hkp := HKa.out.trans (hfrp.ke HSTa.out)
            have HSP := Lib.hid hstp
            have HKP := Lib.hid hkp
            clear hstp hfrp hkp
            go_wp2_with fail
            go_meet
            exact ⟨⟨_, rfl⟩, ⟨_, by rw [hge]; exact HSP.out⟩, HKP.out⟩
        case rest =>
        obtain ⟨⟨bb, rfl⟩, ⟨bv5, hst5⟩, hke5⟩ := hcut
        have HSTd := Lib.hid (hst5.later (Below.refl _ wc).drew)
        have HKd := Lib.hid (hke5.below (Below.refl _ wc).drew)
        have HPT : Hid (∀ W, StW WB sb (o ++ gp) bv5 depth tab av nx re W → Calls Tryz.prog 21 #[.pointer (some ⟨sb, 0, none⟩), .string q] W (fun e w' => e = .returned (.tuple #[]) ∧ ∃ bv', StW WB sb (o ++ gp ++ q) bv' depth tab av nx re w' ∧ Fr sb bv5 W w')) := Lib.hid (fun W h => put_any q h HOZ.out.1)
        clear hst5 hke5 HST HSTa HKa
        apply_assumption
        go_upto_region 8 with fail
        go_region_with (first
          | ((with_reducible refine (bare_any _).mono ?_); rintro e wa ⟨rfl, hwa⟩; have HSTd := Lib.hid (HSTd.out.later hwa); have HKd := Lib.hid (HKd.out.below hwa); clear hwa)
          | ((with_reducible refine (HSHW.out _ _ HSTd.out).mono ?_); rintro e wa ⟨rfl, hwa⟩; have HSTd := Lib.hid (HSTd.out.later hwa); have HKd := Lib.hid (HKd.out.below hwa); clear hwa)
          | ((with_reducible refine (HPT.out _ HSTd.out).mono ?_); rintro e wb ⟨rfl, bvn, hstn, hfrn⟩; have HKd := Lib.hid (HKd.out.trans (hfrn.ke HSTd.out)); have HSTn := Lib.hid hstn; clear hstn hfrn))
        all_goals
          have HNF := Lib.hid (HNX.out _ ⟨_, HSTn.out⟩ HKd.out)
          go_wp2_with fail
          go_roundw
          case rel => exact ⟨i + 1, _, _, rfl, by go_num, by omega, HNF⟩
          case measure => simp [intOf]; omega
      · subst hi1
        go_upto_region 5 with fail
        have HSTa := Lib.hid (HST.out.later (Below.new (w := wr) (.cells #[.int .i64 0, .string ⟨#[]⟩, .int .i64 0, .string ⟨#[]⟩] 78)))
        have HKa := Lib.hid ((Ke.refl sb wr).below (Below.new (w := wr) (.cells #[.int .i64 0, .string ⟨#[]⟩, .int .i64 0, .string ⟨#[]⟩] 78)))
        generalize wr.alloc (.cells #[.int .i64 0, .string ⟨#[]⟩, .int .i64 0, .string ⟨#[]⟩] 78) = W1 at HSTa HKa ⊢
        obtain ⟨pt, hpt⟩ : ∃ b, decide (0 < i ∧ t = false ∧ false = false) = b := ⟨_, rfl⟩
        go_cut [36] (fun v36 wx => v36 = .bool pt ∧ wx = W1)
        case first =>
          by_cases h0 : 0 < i
          · have h0' : (0 : Int) < (i : Int) := by omega
            cases t with
            | true =>
              obtain rfl : pt = false := by rw [← hpt]; exact decide_eq_false (by intro h; exact absurd h.2.1 (by decide))
              go_wp2_with fail
              go_meet
              exact ⟨rfl, rfl⟩
            | false =>
              obtain rfl : pt = true := by rw [← hpt]; exact decide_eq_true ⟨h0, rfl, rfl⟩
              go_wp2_with fail
              go_meet
              exact ⟨rfl, rfl⟩
          · have h0' : ¬ (0 : Int) < (i : Int) := by omega
            obtain rfl : pt = false := by rw [← hpt]; exact decide_eq_false (by intro h; exact h0 h.1)
            go_wp2_with fail
            go_meet
            exact ⟨rfl, rfl⟩
        case rest =>
        obtain ⟨rfl, rfl⟩ := hcut
        apply_assumption
        go_cut [36] (fun v36 wx => (∃ bb, v36 = .bool bb) ∧ (∃ bv', StW WB sb (o ++ gp) bv' depth tab av nx re wx) ∧ Ke sb wr wx)
        case first =>
          cases pt with
          | false =>
            have hge : gp = ⟨#[]⟩ := by rw [← HGP.out]; unfold gapB; rw [if_neg (of_decide_eq_false hpt)]
            clear hpt
            go_wp2_with fail
            go_meet
            exact ⟨⟨_, rfl⟩, ⟨_, by rw [hge, append_empty]; exact HSTa.out⟩, HKa.out⟩
          | true =>
            have hge : gp = ⟨#[32]⟩ := by rw [← HGP.out]; unfold gapB; rw [if_pos (of_decide_eq_true hpt)]
            clear hpt
            go_wp2_with fail
            refine (put_any ⟨#[32]⟩ HSTa.out (by have := HOZ.out.2; show o.size + 1 ≤ _; omega)).mono ?_
            rintro e wp ⟨rfl, bvp, hstp, hfrp⟩
            have hkp := HKa.out.trans (hfrp.ke HSTa.out)
            have HSP := Lib.hid hstp
            have HKP := Lib.hid hkp
            clear hstp hfrp hkp
            go_wp2_with fail
            go_meet
            exact ⟨⟨_, rfl⟩, ⟨_, by rw [hge]; exact HSP.out⟩, HKP.out⟩
        case rest =>
        obtain ⟨⟨bb, rfl⟩, ⟨bv5, hst5⟩, hke5⟩ := hcut
        have HSTd := Lib.hid (hst5.later (Below.refl _ wc).drew)
        have HKd := Lib.hid (hke5.below (Below.refl _ wc).drew)
        have HPT : Hid (∀ W, StW WB sb (o ++ gp) bv5 depth tab av nx re W → Calls Tryz.prog 21 #[.pointer (some ⟨sb, 0, none⟩), .string q] W (fun e w' => e = .returned (.tuple #[]) ∧ ∃ bv', StW WB sb (o ++ gp ++ q) bv' depth tab av nx re w' ∧ Fr sb bv5 W w')) := Lib.hid (fun W h => put_any q h HOZ.out.1)
        clear hst5 hke5 HST HSTa HKa
        apply_assumption
        go_upto_region 8 with fail
        go_region_with (first
          | ((with_reducible refine (bare_any _).mono ?_); rintro e wa ⟨rfl, hwa⟩; have HSTd := Lib.hid (HSTd.out.later hwa); have HKd := Lib.hid (HKd.out.below hwa); clear hwa)
          | ((with_reducible refine (HSHW.out _ _ HSTd.out).mono ?_); rintro e wa ⟨rfl, hwa⟩; have HSTd := Lib.hid (HSTd.out.later hwa); have HKd := Lib.hid (HKd.out.below hwa); clear hwa)
          | ((with_reducible refine (HPT.out _ HSTd.out).mono ?_); rintro e wb ⟨rfl, bvn, hstn, hfrn⟩; have HKd := Lib.hid (HKd.out.trans (hfrn.ke HSTd.out)); have HSTn := Lib.hid hstn; clear hstn hfrn))
        all_goals
          have HNF := Lib.hid (HNX.out _ ⟨_, HSTn.out⟩ HKd.out)
          go_wp2_with fail
          go_roundw
          case rel => exact ⟨i + 1, _, _, rfl, by go_num, by omega, HNF⟩
          case measure => simp [intOf]; omega
      · subst hi1
        go_upto_region 5 with fail
        have HSTa := Lib.hid (HST.out.later (Below.new (w := wr) (.cells #[.int .i64 0, .string ⟨#[]⟩, .int .i64 0, .string ⟨#[]⟩] 78)))
        have HKa := Lib.hid ((Ke.refl sb wr).below (Below.new (w := wr) (.cells #[.int .i64 0, .string ⟨#[]⟩, .int .i64 0, .string ⟨#[]⟩] 78)))
        generalize wr.alloc (.cells #[.int .i64 0, .string ⟨#[]⟩, .int .i64 0, .string ⟨#[]⟩] 78) = W1 at HSTa HKa ⊢
        obtain ⟨pt, hpt⟩ : ∃ b, decide (0 < i ∧ t = false ∧ false = false) = b := ⟨_, rfl⟩
        go_cut [36] (fun v36 wx => v36 = .bool pt ∧ wx = W1)
        case first =>
          by_cases h0 : 0 < i
          · have h0' : (0 : Int) < (i : Int) := by omega
            cases t with
            | true =>
              obtain rfl : pt = false := by rw [← hpt]; exact decide_eq_false (by intro h; exact absurd h.2.1 (by decide))
              go_wp2_with fail
              go_meet
              exact ⟨rfl, rfl⟩
            | false =>
              obtain rfl : pt = true := by rw [← hpt]; exact decide_eq_true ⟨h0, rfl, rfl⟩
              go_wp2_with fail
              go_meet
              exact ⟨rfl, rfl⟩
          · have h0' : ¬ (0 : Int) < (i : Int) := by omega
            obtain rfl : pt = false := by rw [← hpt]; exact decide_eq_false (by intro h; exact h0 h.1)
            go_wp2_with fail
            go_meet
            exact ⟨rfl, rfl⟩
        case rest =>
        obtain ⟨rfl, rfl⟩ := hcut
        apply_assumption
        go_cut [36] (fun v36 wx => (∃ bb, v36 = .bool bb) ∧ (∃ bv', StW WB sb (o ++ gp) bv' depth tab av nx re wx) ∧ Ke sb wr wx)
        case first =>
          cases pt with
          | false =>
            have hge : gp = ⟨#[]⟩ := by rw [← HGP.out]; unfold gapB; rw [if_neg (of_decide_eq_false hpt)]
            clear hpt
            go_wp2_with fail
            go_meet
            exact ⟨⟨_, rfl⟩, ⟨_, by rw [hge, append_empty]; exact HSTa.out⟩, HKa.out⟩
          | true =>
            have hge : gp = ⟨#[32]⟩ := by rw [← HGP.out]; unfold gapB; rw [if_pos (of_decide_eq_true hpt)]
            clear hpt
            go_wp2_with fail
            refine (put_any ⟨#[32]⟩ HSTa.out (by have := HOZ.out.2; show o.size + 1 ≤ _; omega)).mono ?_
            rintro e wp ⟨rfl, bvp, hstp, hfrp⟩
            have hkp := HKa.out.trans (hfrp.ke HSTa.out)
            have HSP := Lib.hid hstp
            have HKP := Lib.hid hkp
            clear hstp hfrp hkp
            go_wp2_with fail
            go_meet
            exact ⟨⟨_, rfl⟩, ⟨_, by rw [hge]; exact HSP.out⟩, HKP.out⟩
        case rest =>
        obtain ⟨⟨bb, rfl⟩, ⟨bv5, hst5⟩, hke5⟩ := hcut
        have HSTd := Lib.hid (hst5.later (Below.refl _ wc).drew)
        have HKd := Lib.hid (hke5.below (Below.refl _ wc).drew)
        have HPT : Hid (∀ W, StW WB sb (o ++ gp) bv5 depth tab av nx re W → Calls Tryz.prog 21 #[.pointer (some ⟨sb, 0, none⟩), .string q] W (fun e w' => e = .returned (.tuple #[]) ∧ ∃ bv', StW WB sb (o ++ gp ++ q) bv' depth tab av nx re w' ∧ Fr sb bv5 W w')) := Lib.hid (fun W h => put_any q h HOZ.out.1)
        clear hst5 hke5 HST HSTa HKa
        apply_assumption
        go_upto_region 8 with fail
        go_region_with (first
          | ((with_reducible refine (bare_any _).mono ?_); rintro e wa ⟨rfl, hwa⟩; have HSTd := Lib.hid (HSTd.out.later hwa); have HKd := Lib.hid (HKd.out.below hwa); clear hwa)
          | ((with_reducible refine (HSHW.out _ _ HSTd.out).mono ?_); rintro e wa ⟨rfl, hwa⟩; have HSTd := Lib.hid (HSTd.out.later hwa); have HKd := Lib.hid (HKd.out.below hwa); clear hwa)
          | ((with_reducible refine (HPT.out _ HSTd.out).mono ?_); rintro e wb ⟨rfl, bvn, hstn, hfrn⟩; have HKd := Lib.hid (HKd.out.trans (hfrn.ke HSTd.out)); have HSTn := Lib.hid hstn; clear hstn hfrn))
        all_goals
          have HNF := Lib.hid (HNX.out _ ⟨_, HSTn.out⟩ HKd.out)
          go_wp2_with fail
          go_roundw
          case rel => exact ⟨i + 1, _, _, rfl, by go_num, by omega, HNF⟩
          case measure => simp [intOf]; omega
    · obtain rfl : i = m := by omega
      have hrun := HL.out.run
      rw [List.drop_of_length_le (by rw [HLEN.out, HM.out]; exact Nat.le_refl _)] at hrun
      have he : o = tot := Option.some.inj hrun
      subst he
      obtain ⟨bvi, hst⟩ := HL.out.st
      have HE := Lib.hid (DirPost.of (s' := ⟨o, nx, re⟩) ⟨⟨_, hst⟩, HL.out.ke⟩)
      clear hrun hst HL
      go_wp2_with fail
      exact ⟨rfl, .tuple #[], by simp [results, Tryz.f16, go_sem], HE.out⟩
end Go.Proofs.YtnalppgjbllehaaGreatDoor

/- All arguments printed, without a format: printer's Sprint. Condition: as At's. -/
namespace Go.Proofs.YtnalppgjbllehaaGreatDoor
set_option linter.unusedVariables false
set_option linter.unusedSimpArgs false
open Go.RowKit

set_option maxHeartbeats 4000000 in
set_option maxRecDepth 1000000 in
theorem sprint_any {w : World} (ta : Option Addr) (tn tc : Nat) (ds : List D) (a : Option Addr) (c : Nat) (hp : PartsAt w a c ds) (sh : V → SpecD → Option ByteArray)
    (H : ∀ WB sb av, Below w.heap.size w WB → ShowH WB sb 0 (.slice ta tn tc) av sh) (tot : ByteArray) (hr : listF sh ((ds.take 16).map buildV) 0 true ⟨#[]⟩ = some tot) :
    Calls Tryz.prog 10 #[.slice ta tn tc, .slice a ds.length c] w (Ret w (.string (outT tot))) := by
  have HP := Lib.hid hp
  have HH := Lib.hid H
  have HR := Lib.hid hr
  clear hp H hr
  have HBG : Hid (∀ W : World, W.heap[w.heap.size]? = some (.cells (stCells (.slice none 0 0) 0 0 (.slice none 0 0) (.slice none 0 0) 0 false) 47 (0, 0)) → Below w.heap.size w W →
      Calls Tryz.prog 13 #[.pointer (some ⟨w.heap.size, 0, none⟩), .int .i64 0, .slice ta tn tc, .slice a ds.length c] W
        (fun e w' => e = .returned (.tuple #[]) ∧ ∃ av us xs, BW w w.heap.size 0 (.slice ta tn tc) ds av us xs w' ∧ us.length = min ds.length 16)) :=
    Lib.hid fun W h1 h2 => begin_any ds a c ta tn tc 0 h1 rfl h2 HP.out
  go_enter Tryz.func10, Tryz.ntmps10
  go_wp2_with fail
  have hn : (w.alloc (.cells #[.slice none 0 0, .int .i64 0, .int .i64 0, .slice none 0 0, .slice none 0 0, .int .i64 0, .bool false] 47)).heap[w.heap.size]? = some (.cells (stCells (.slice none 0 0) 0 0 (.slice none 0 0) (.slice none 0 0) 0 false) 47 (0, 0)) := heap_alloc_new w _
  refine (HBG.out _ hn (Below.new _)).mono ?_
  rintro e WB ⟨rfl, av, us, xs, hbw, hul⟩
  have HBW := Lib.hid hbw
  have hxe : xs = (ds.take 16).map buildV := by
    rw [hbw.eq, hul]
    congr 1
    by_cases h : ds.length ≤ 16
    · rw [Nat.min_eq_left h, List.take_of_length_le (Nat.le_refl _), List.take_of_length_le h]
    · rw [Nat.min_eq_right (by omega)]
  have HFM := Lib.hid (list_any (w := WB) sh tot hbw.st (hbw.args (by omega)) (HH.out WB w.heap.size av hbw.lo) (by rw [hxe]; exact HR.out))
  clear hn hbw hul hxe HBG
  go_wp2_with fail
  refine HFM.out.mono ?_
  rintro e W2 ⟨rfl, ⟨bv', hst⟩, hke⟩
  have HTX := Lib.hid (text_any hst)
  have HBK := Lib.hid (hst.back HBW.out.lo rfl)
  clear hst hke HFM
  go_wp2_with fail
  refine HTX.out.mono ?_
  rintro e W3 ⟨rfl, rfl⟩
  clear HTX
  go_wp2_with fail
  go_ret
  exact ⟨rfl, HBK.out⟩
end Go.Proofs.YtnalppgjbllehaaGreatDoor
