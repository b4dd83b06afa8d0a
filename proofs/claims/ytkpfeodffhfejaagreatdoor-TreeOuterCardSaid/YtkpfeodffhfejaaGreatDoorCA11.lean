/- The values of a list's parts, in a row of the call's own. -/
import Derived.Test.YtkpfeodffhfejaaGreatDoorCA10
import Derived.Laws.AppendOwn
import Derived.OwnWalk
namespace Go.Proofs.YtkpfeodffhfejaaGreatDoor
set_option linter.unusedVariables false
set_option maxRecDepth 1000000
open Go.RowKit

theorem vinfo30 : (Tryz.prog.info? 28).map (fun i => (i.zero, i.size, i.bytes)) = some (some .nilIface, 1, 16) := by kernel_rfl
theorem vinfo106 : (Tryz.prog.info? 117).map (fun i => (i.zero, i.size, i.bytes)) = some (some (.agg #[.string ⟨#[]⟩, .nilIface]), 2, 32) := by kernel_rfl
theorem vinfo119 : (Tryz.prog.info? 119).map (fun i => (i.zero, i.size, i.bytes)) = some (some (.agg #[.nilIface, .nilIface]), 2, 32) := by kernel_rfl

/-- What lies in the blocks of the call's own, the row's block apart. -/
def Rest (w0 : World) (v : Value) (w : World) (k : Nat) : Prop := w0.heap.size ≤ k ∧ k < w.heap.size ∧ v.ownBlock ≠ some k

/-- The values us, of the descriptors ps, lie in the row v. -/
structure Vals (w0 : World) (v : Value) (us : List Value) (xs : List V) (w : World) : Prop where
  own : w.ownsRow w0.heap.size 28 1 v us.length us
  len : xs.length = us.length
  iface : ∀ u ∈ us, ∃ t y, u = .iface t y
  val : ∀ j (h : j < us.length) (h' : j < xs.length), IsVF (Rest w0 v w) w us[j] xs[j]
  lo : Below w0.heap.size w0 w
theorem Vals.later {w0 : World} {v : Value} {us : List Value} {xs : List V} {w w' : World} (h : Vals w0 v us xs w) (hb : Below w.heap.size w w') : Vals w0 v us xs w' :=
  ⟨owns_laterV h.own hb, h.len, h.iface, fun j a b => (h.val j a b).keep fun k hk hk' => ⟨⟨hk'.1, by have := hb.size; have := hk'.2.1; omega, hk'.2.2⟩, hb.block k hk⟩, h.lo.next hb⟩
theorem Vals.start (w0 : World) : Vals w0 (.slice none 0 0) [] [] w0 := ⟨⟨rfl, .inl ⟨rfl, rfl⟩⟩, rfl, (fun u h => by cases h), (fun j h _ => by cases h), Below.refl _ _⟩

/-- The row as a slice; its cells. -/
theorem Vals.slice {w0 : World} {v : Value} {us : List Value} {xs : List V} {w : World} (h : Vals w0 v us xs w) : ∃ a c, v = .slice a us.length c := by
  rcases h.own.2 with ⟨h, h'⟩ | ⟨g, cap, cur, h, _⟩
  · exact ⟨none, 0, by rw [h, h']⟩
  · exact ⟨_, _, h⟩
theorem Vals.cells {w0 : World} {a : Option Addr} {c : Nat} {us : List Value} {xs : List V} {w : World} (h : Vals w0 (.slice a us.length c) us xs w) :
    ∃ bb, (0 < us.length → a = some ⟨bb, 0, none⟩ ∧ w0.heap.size ≤ bb) ∧ us.length ≤ c ∧ ∀ i (hi : i < us.length), w.cell? ⟨bb, i, none⟩ = some us[i] := by
  by_cases hn : 0 < us.length
  · obtain ⟨g, cap, e1, e2, e3, e4, e5, e6⟩ := owns_cell h.own hn
    injection e1 with q1 q2 q3
    subst q1 q3
    exact ⟨g, fun _ => ⟨rfl, e2⟩, e4, fun i hi => e6 i _ (List.getElem?_eq_getElem hi)⟩
  · exact ⟨0, fun h => absurd h hn, by omega, fun i hi => by omega⟩
theorem getD_at {l : List Value} {i : Nat} (h : i < l.length) : l.getD i undef = l[i] := by simp [List.getD, h]
/-- The list of them. -/
theorem Vals.list {w0 : World} {a : Option Addr} {c : Nat} {us : List Value} {xs : List V} {w : World} (h : Vals w0 (.slice a us.length c) us xs w) (hl : us.length < 1000) (b : B) :
    IsVF (w0.heap.size ≤ ·) w (.iface 101 (.agg #[.int .i64 b.kind, .string b.name, .int .i64 b.hook, .slice a us.length c])) (.great .list b 0 [] xs) := by
  obtain ⟨bb, h1, h2, h3⟩ := h.cells
  have hln := h.len
  rw [← hln]
  refine .list b a c bb 0 (fun i => us.getD i undef) xs (by omega) (by omega) (fun h => h1 (by omega)) (fun i hi => ?_) (fun i hi => ?_) (fun i hi => ?_)
  · rw [Nat.zero_add, h3 i (by omega), getD_at (by omega)]
  · rw [getD_at (by omega)]
    exact (h.val i (by omega) hi).mono fun k _ hk => hk.1
  · rw [getD_at (by omega)]
    exact h.iface _ (List.getElem_mem _)

/-- The only one. -/
theorem Vals.one {w0 : World} {a : Option Addr} {c : Nat} {us : List Value} {xs : List V} {w : World} (h : Vals w0 (.slice a us.length c) us xs w) (hl : us.length = 1) :
    ∃ bb t y x, a = some ⟨bb, 0, none⟩ ∧ w.cell? ⟨bb, 0, none⟩ = some (.iface t y) ∧ xs = [x] ∧ IsVF (w0.heap.size ≤ ·) w (.iface t y) x := by
  match us, xs, h, hl with
  | [u], [x], h, hl =>
    obtain ⟨t, y, rfl⟩ := h.iface u (by simp)
    obtain ⟨bb, hb1, hb2, hb3⟩ := h.cells
    exact ⟨bb, t, y, x, (hb1 (by simp)).1, hb3 0 (by simp), rfl, (h.val 0 (by simp) (by simp)).mono fun k _ hk => hk.1⟩
  | [u], [], h, hl => exact absurd h.len (by simp)
  | [u], _ :: _ :: _, h, hl => have := h.len; simp at this
/-- One value more. -/
theorem Vals.push {w0 : World} {v : Value} {us : List Value} {xs : List V} {w w' : World} (h : Vals w0 v us xs w) {t : TypeId} {y : Value} {x : V} (hu : IsVF (Rest w0 v w) w (.iface t y) x) {v' : Value}
    (hown : w'.ownsRow w0.heap.size 28 1 v' (us.length + 1) (us ++ [.iface t y])) (hg : w.grownBy w' v.ownBlock) (hv : Last v' v w.heap.size) :
    Vals w0 v' (us ++ [.iface t y]) (xs ++ [x]) w' := by
  obtain ⟨g, hg1, hg2⟩ := hv
  have key : ∀ k, k < w.heap.size → Rest w0 v w k → Rest w0 v' w' k ∧ w'.heap[k]? = w.heap[k]? := by
    intro k hk ⟨h1, h2, h3⟩
    refine ⟨⟨h1, by have := hg.size; omega, ?_⟩, hg.block k hk (fun e => h3 e.symm)⟩
    rw [hg1]
    intro e
    injection e with e
    rcases hg2 with e' | e'
    · rw [e] at e'; exact h3 e'
    · omega
  refine ⟨by simpa using hown, by simp [h.len], ?_, ?_, below_grown h.lo hg h.own (by have := h.lo.size; omega)⟩
  · intro u hu'
    rcases List.mem_append.1 hu' with hu' | hu'
    · exact h.iface u hu'
    · simp at hu'; exact ⟨t, y, hu'⟩
  · intro j hj hj'
    by_cases e : j < us.length
    · rw [List.getElem_append_left e, List.getElem_append_left (by have := h.len; omega)]
      exact (h.val j e (by have := h.len; omega)).keep key
    · have e2 : j = us.length := by simp at hj; omega
      subst e2
      rw [List.getElem_append_right (by omega), List.getElem_append_right (by have := h.len; omega)]
      simp only [Nat.sub_self, List.getElem_cons_zero, h.len]
      exact hu.keep key

theorem made_none {d : D} {args : Array Value} {w : World} {f : Nat} (h : mkV d = none) (hc : Calls Tryz.prog f args w (MadePost w d)) : Calls Tryz.prog f args w fun e w' => e = thrown 5 ∧ Below w.heap.size w w' := by
  unfold MadePost at hc; rw [h] at hc; exact hc
theorem made_some {d : D} {x : V} {args : Array Value} {w : World} {f : Nat} (h : mkV d = some x) (hc : Calls Tryz.prog f args w (MadePost w d)) : Calls Tryz.prog f args w fun e w' => Below w.heap.size w w' ∧ ∃ t y, e = .returned (.iface t y) ∧ IsVF (w.heap.size ≤ ·) w' (.iface t y) x := by
  unfold MadePost at hc; rw [h] at hc; exact hc

set_option maxHeartbeats 8000000 in
set_option maxRecDepth 100000 in
theorem great_list (d : D) (hk : d.kind = 19 ∨ d.kind = 20) (hlen : d.parts.length < 1000) (ih : ∀ x ∈ d.parts, ∀ (w : World) (v : Value), IsD w v x → Calls Tryz.prog 36 #[v] w (MadePost w x))
    (w : World) (v : Value) (h : IsD w v d) : Calls Tryz.prog 58 #[v, .agg #[.int .i64 d.kind, .string d.type, .int .i64 d.hook]] w (MadePost w d) := by
  obtain ⟨a5, c5, a6, c6, rfl, _, hb, hi, ht, hx, hn, hp⟩ := h.open
  have IH := Lib.hid ih
  have HPP := Lib.hid hp
  have HNN := Lib.hid hn
  have HM : Hid (mkV d = (mkL d.parts).bind (greatV d)) := mkV_great (by omega)
  have hk18 : (d.kind == 18) = false := by simp; omega
  have hk21 : (d.kind == 21) = false := by simp; omega
  have hk22 : (d.kind == 22) = false := by simp; omega
  have HK := Lib.hid hk
  clear hn hb hi ht hx h ih hk hp
  unfold aggD
  obtain ⟨i0, hi0, hz0, hz1, hz2⟩ := info_parts vinfo30
  go_enter Tryz.func58, Tryz.ntmps58
  go_wp2_with fail
  obtain ⟨W1, hW1⟩ : ∃ W1, W1 = (w.alloc (.cells #[.int .i64 d.kind, .string d.type, .int .u64 d.bits, .int .u64 d.imag, .string d.text, .slice a5 d.names.length c5, .slice a6 d.parts.length c6, .int .i64 d.hook] 26)).alloc (.cells #[.int .i64 d.kind, .string d.type, .int .i64 d.hook] 60) := ⟨_, rfl⟩
  rw [← hW1]
  have HBW : Hid (Below w.heap.size w W1) := by rw [hW1]; exact (Below.new _).push _
  have hx0 : W1.cell? ⟨w.heap.size, 0, none⟩ = some (.int .i64 d.kind) := by rw [hW1]; simp
  have hx2 : W1.cell? ⟨w.heap.size, 2, none⟩ = some (.int .u64 d.bits) := by rw [hW1]; simp
  have hx5 : W1.cell? ⟨w.heap.size, 5, none⟩ = some (.slice a5 d.names.length c5) := by rw [hW1]; simp
  have hy0 : W1.cell? ⟨w.heap.size + 1, 0, none⟩ = some (.int .i64 d.kind) := by rw [hW1]; simp
  have hy1 : W1.cell? ⟨w.heap.size + 1, 1, none⟩ = some (.string d.type) := by rw [hW1]; simp
  have hy2 : W1.cell? ⟨w.heap.size + 1, 2, none⟩ = some (.int .i64 d.hook) := by rw [hW1]; simp
  have HX0 := Lib.hid hx0
  have HX2 := Lib.hid hx2
  have HX5 := Lib.hid hx5
  have HY0 := Lib.hid hy0
  have HY1 := Lib.hid hy1
  have HY2 := Lib.hid hy2
  have hzW : w.heap.size + 1 < W1.heap.size := by rw [hW1]; simp
  have hp1 := HPP.out.below HBW.out
  obtain ⟨ps, hps⟩ : ∃ ps, ps = d.parts := ⟨_, rfl⟩
  rw [← hps] at hp1 IH hlen HM ⊢
  have HPS := Lib.hid hps
  have HP := Lib.hid hp1
  clear hW1 hx0 hx2 hx5 hy0 hy1 hy2 hp1 hps HPP
  go_loopw [5, 19] (fun v k wr => ∃ (us : List Value) (xs : List V), k = .int .i64 (us.length : Int) ∧ us.length ≤ ps.length ∧ Hid (mkL (ps.take us.length) = some xs) ∧ Hid (Vals W1 v us xs wr)) (fun _ k _ => ps.length - (intOf k).toNat)
  case atStart => exact ⟨[], [], rfl, Nat.zero_le _, by simp only [List.length_nil, List.take_zero]; rfl, Vals.start W1⟩
  case round =>
    obtain ⟨us, xs, rfl, hle, HL, HV⟩ := hrel
    have hzr := HV.out.lo.size
    have HBr := Lib.hid HV.out.lo
    by_cases hin : us.length < ps.length
    · obtain ⟨b, o, p5, q5, p6, q6, rfl, hrow, hD⟩ := HP.out.elem HBr.out hin
      obtain ⟨k0, k1, k2, k3, k4, k5, k6, k7⟩ := hrow
      have HX := Lib.hid hD
      have HIH := Lib.hid (IH.out ps[us.length] (List.getElem_mem _))
      have hmk : ps.take (us.length + 1) = ps.take us.length ++ [ps[us.length]] := List.take_succ_eq_append_getElem hin
      have hsp : ps = ps.take us.length ++ ps[us.length] :: ps.drop (us.length + 1) := by rw [← List.drop_eq_getElem_cons hin]; exact (List.take_append_drop _ _).symm
      have HMK := Lib.hid hmk
      have HSP := Lib.hid hsp
      clear hD hmk hsp
      obtain ⟨x, hx⟩ : ∃ x, x = ps[us.length] := ⟨_, rfl⟩
      rw [← hx] at k0 k1 k2 k3 k4 k5 k6 k7 HX HIH HMK HSP
      unfold aggD at HX
      clear hx
      obtain ⟨n, hn⟩ : ∃ n, n = us.length := ⟨_, rfl⟩
      have HN := Lib.hid hn
      rw [← hn] at hin hle k0 k1 k2 k3 k4 k5 k6 k7 HL HMK HSP
      rw [← hn]
      clear hn
      cases hmx : mkV x with
      | none =>
        have HMX := Lib.hid hmx
        clear hmx
        go_wp2_with fail
        refine (made_none HMX.out (HIH.out _ _ (HX.out.later (Below.new _)))).mono ?_
        rintro e w3 ⟨rfl, hB3⟩
        have HB3 := Lib.hid (HBW.out.next ((HBr.out.push _).next hB3))
        clear hB3 k0 k1 k2 k3 k4 k5 k6 k7 HX HIH
        go_wp2_with fail
        refine ⟨rfl, ?_⟩
        show MadePost _ _ (thrown 5) _
        unfold MadePost
        rw [HM.out, HSP.out, mkL_none _ _ _ HMX.out]
        exact ⟨rfl, HB3.out⟩
      | some y =>
        have HMX := Lib.hid hmx
        clear hmx
        go_wp2_with fail
        refine (made_some HMX.out (HIH.out _ _ (HX.out.later (Below.new _)))).mono ?_
        rintro e w3 ⟨hB3, t, u, rfl, hu⟩
        have HV3 := Lib.hid ((HV.out.later (Below.new _)).later hB3)
        have HU := Lib.hid hu
        have hz3 : wr.heap.size < w3.heap.size := by have := hB3.size; simp at this; omega
        have HVo := Lib.hid (fun g (hg : u5.ownBlock = some g) => (HV.out.own.lt g hg).2)
        clear hB3 hu k0 k1 k2 k3 k4 k5 k6 k7 HX HIH
        have hown := HV3.out.own
        rw [← HN.out] at hown
        have HO := Lib.hid (hown.alloc (.cells #[.iface t u] 28))
        have hbase : W1.heap.size ≤ (w3.alloc (.cells #[.iface t u] 28)).heap.size := by simp; omega
        clear hown
        go_wp2_with (at_builtin; refine wpList_append_one _ rfl (.tmp 23) (.tmp 26) 73 rfl W1.heap.size 28 i0 .nilIface 1 16 Tryz.underlying73 hi0 hz0 hz1 hz2 rfl (by decide) _ _ _ rfl HO.out ⟨w3.heap.size, 0, none⟩ 1 [.iface t u] rfl rfl ?c1 ?c2 ?c3 ?c4 hbase ?_)
        case c1 =>
          intro j u' hj
          match j, hj with
          | 0, hj => simp at hj; subst hj; simp [Addr.add]
        case c2 => intro u' hu'; simp at hu'; subst hu'; rfl
        case c3 => unfold maxLen; omega
        case c4 => omega
        intro v' w4 hown' hgrow hlast
        have HV4 : Hid (Vals W1 v' (us ++ [.iface t u]) (xs ++ [y]) w4) := by
          refine (HV3.out.later (Below.new (w := w3) (.cells #[.iface t u] 28))).push ?_ (by rw [← HN.out]; exact hown') hgrow (by simpa using hlast)
          refine HU.out.keep fun k hk hk' => ⟨⟨by simp at hk'; omega, by simp; omega, fun e => ?_⟩, (Below.new _).block k hk⟩
          have := HVo.out k e
          simp at hk'; omega
        have HL4 : Hid (mkL (ps.take (us ++ [Value.iface t u]).length) = some (xs ++ [y])) := by
          show _ = _
          rw [List.length_append, List.length_singleton, ← HN.out, HMK.out]
          exact mkL_snoc _ _ HL.out HMX.out
        have hln : (us ++ [Value.iface t u]).length = n + 1 := by rw [List.length_append, List.length_singleton, ← HN.out]
        have HLN := Lib.hid hln
        clear hown' hgrow hlast hln HO HVo HU HV3 HV HL
        go_wp2_with fail
        go_roundw
        case rel => exact ⟨us ++ [.iface t u], xs ++ [y], by rw [HLN.out]; go_num, by rw [HLN.out]; omega, HL4, HV4⟩
        case measure => simp [intOf]; omega
    · have hle2 : us.length = ps.length := by omega
      have HLen := Lib.hid hle2
      have hL2 := HL.out
      rw [hle2, List.take_length] at hL2
      have HL2 := Lib.hid hL2
      have HML : Hid (mkV d = greatV d xs) := by show _ = _; rw [HM.out, hL2]; rfl
      clear hle2 hL2 HL HM IH HP
      have hx0 := cell_below HBr.out HX0.out
      have hx2 := cell_below HBr.out HX2.out
      have hx5 := cell_below HBr.out HX5.out
      have hy0 := cell_below HBr.out HY0.out
      have hy1 := cell_below HBr.out HY1.out
      have hy2 := cell_below HBr.out HY2.out
      clear HX0 HX2 HX5 HY0 HY1 HY2
      obtain ⟨a, c, rfl⟩ := HV.out.slice
      go_wp2_with fail
      refine bodyPost_ret (v := .iface 101 (.agg #[.int .i64 d.kind, .string d.type, .int .i64 d.hook, .slice a us.length c])) (by simp [results, Tryz.f58, go_sem]) rfl ?_
      unfold MadePost
      rw [HML.out]
      have hgr : greatV d xs = some (.great .list d.base 0 [] xs) := by
        have := HK.out
        unfold greatV
        rw [if_neg (by omega), if_neg (by omega), if_neg (by omega)]
      rw [hgr]
      exact ⟨HBW.out.next HBr.out, _, _, rfl, (HV.out.list (by omega) d.base).mono fun k _ hk => by omega⟩

set_option maxHeartbeats 8000000 in
set_option maxRecDepth 100000 in
theorem great_ptr (d : D) (hk : d.kind = 22) (hlen : d.parts.length < 1000) (h1 : d.parts.length ≤ 1) (ih : ∀ x ∈ d.parts, ∀ (w : World) (v : Value), IsD w v x → Calls Tryz.prog 36 #[v] w (MadePost w x))
    (w : World) (v : Value) (h : IsD w v d) : Calls Tryz.prog 58 #[v, .agg #[.int .i64 d.kind, .string d.type, .int .i64 d.hook]] w (MadePost w d) := by
  obtain ⟨a5, c5, a6, c6, rfl, _, hb, hi, ht, hx, hn, hp⟩ := h.open
  have IH := Lib.hid ih
  have HPP := Lib.hid hp
  have HNN := Lib.hid hn
  have HM : Hid (mkV d = (mkL d.parts).bind (greatV d)) := mkV_great (by omega)
  have hk22 : (d.kind == 22) = true := by simp [hk]
  have hk18 : (d.kind == 18) = false := by simp; omega
  have hk21 : (d.kind == 21) = false := by simp; omega
  have HK := Lib.hid hk
  clear hn hb hi ht hx h ih hk hp
  unfold aggD
  obtain ⟨i0, hi0, hz0, hz1, hz2⟩ := info_parts vinfo30
  go_enter Tryz.func58, Tryz.ntmps58
  go_wp2_with fail
  obtain ⟨W1, hW1⟩ : ∃ W1, W1 = (w.alloc (.cells #[.int .i64 d.kind, .string d.type, .int .u64 d.bits, .int .u64 d.imag, .string d.text, .slice a5 d.names.length c5, .slice a6 d.parts.length c6, .int .i64 d.hook] 26)).alloc (.cells #[.int .i64 d.kind, .string d.type, .int .i64 d.hook] 60) := ⟨_, rfl⟩
  rw [← hW1]
  have HBW : Hid (Below w.heap.size w W1) := by rw [hW1]; exact (Below.new _).push _
  have hx0 : W1.cell? ⟨w.heap.size, 0, none⟩ = some (.int .i64 d.kind) := by rw [hW1]; simp
  have hx2 : W1.cell? ⟨w.heap.size, 2, none⟩ = some (.int .u64 d.bits) := by rw [hW1]; simp
  have hx5 : W1.cell? ⟨w.heap.size, 5, none⟩ = some (.slice a5 d.names.length c5) := by rw [hW1]; simp
  have hy0 : W1.cell? ⟨w.heap.size + 1, 0, none⟩ = some (.int .i64 d.kind) := by rw [hW1]; simp
  have hy1 : W1.cell? ⟨w.heap.size + 1, 1, none⟩ = some (.string d.type) := by rw [hW1]; simp
  have hy2 : W1.cell? ⟨w.heap.size + 1, 2, none⟩ = some (.int .i64 d.hook) := by rw [hW1]; simp
  have HX0 := Lib.hid hx0
  have HX2 := Lib.hid hx2
  have HX5 := Lib.hid hx5
  have HY0 := Lib.hid hy0
  have HY1 := Lib.hid hy1
  have HY2 := Lib.hid hy2
  have hzW : w.heap.size + 1 < W1.heap.size := by rw [hW1]; simp
  have hp1 := HPP.out.below HBW.out
  obtain ⟨ps, hps⟩ : ∃ ps, ps = d.parts := ⟨_, rfl⟩
  rw [← hps] at hp1 IH hlen HM ⊢
  have HPS := Lib.hid hps
  have HP := Lib.hid hp1
  clear hW1 hx0 hx2 hx5 hy0 hy1 hy2 hp1 hps HPP
  go_loopw [5, 19] (fun v k wr => ∃ (us : List Value) (xs : List V), k = .int .i64 (us.length : Int) ∧ us.length ≤ ps.length ∧ Hid (mkL (ps.take us.length) = some xs) ∧ Hid (Vals W1 v us xs wr)) (fun _ k _ => ps.length - (intOf k).toNat)
  case atStart => exact ⟨[], [], rfl, Nat.zero_le _, by simp only [List.length_nil, List.take_zero]; rfl, Vals.start W1⟩
  case round =>
    obtain ⟨us, xs, rfl, hle, HL, HV⟩ := hrel
    have hzr := HV.out.lo.size
    have HBr := Lib.hid HV.out.lo
    by_cases hin : us.length < ps.length
    · obtain ⟨b, o, p5, q5, p6, q6, rfl, hrow, hD⟩ := HP.out.elem HBr.out hin
      obtain ⟨k0, k1, k2, k3, k4, k5, k6, k7⟩ := hrow
      have HX := Lib.hid hD
      have HIH := Lib.hid (IH.out ps[us.length] (List.getElem_mem _))
      have hmk : ps.take (us.length + 1) = ps.take us.length ++ [ps[us.length]] := List.take_succ_eq_append_getElem hin
      have hsp : ps = ps.take us.length ++ ps[us.length] :: ps.drop (us.length + 1) := by rw [← List.drop_eq_getElem_cons hin]; exact (List.take_append_drop _ _).symm
      have HMK := Lib.hid hmk
      have HSP := Lib.hid hsp
      clear hD hmk hsp
      obtain ⟨x, hx⟩ : ∃ x, x = ps[us.length] := ⟨_, rfl⟩
      rw [← hx] at k0 k1 k2 k3 k4 k5 k6 k7 HX HIH HMK HSP
      unfold aggD at HX
      clear hx
      obtain ⟨n, hn⟩ : ∃ n, n = us.length := ⟨_, rfl⟩
      have HN := Lib.hid hn
      rw [← hn] at hin hle k0 k1 k2 k3 k4 k5 k6 k7 HL HMK HSP
      rw [← hn]
      clear hn
      cases hmx : mkV x with
      | none =>
        have HMX := Lib.hid hmx
        clear hmx
        go_wp2_with fail
        refine (made_none HMX.out (HIH.out _ _ (HX.out.later (Below.new _)))).mono ?_
        rintro e w3 ⟨rfl, hB3⟩
        have HB3 := Lib.hid (HBW.out.next ((HBr.out.push _).next hB3))
        clear hB3 k0 k1 k2 k3 k4 k5 k6 k7 HX HIH
        go_wp2_with fail
        refine ⟨rfl, ?_⟩
        show MadePost _ _ (thrown 5) _
        unfold MadePost
        rw [HM.out, HSP.out, mkL_none _ _ _ HMX.out]
        exact ⟨rfl, HB3.out⟩
      | some y =>
        have HMX := Lib.hid hmx
        clear hmx
        go_wp2_with fail
        refine (made_some HMX.out (HIH.out _ _ (HX.out.later (Below.new _)))).mono ?_
        rintro e w3 ⟨hB3, t, u, rfl, hu⟩
        have HV3 := Lib.hid ((HV.out.later (Below.new _)).later hB3)
        have HU := Lib.hid hu
        have hz3 : wr.heap.size < w3.heap.size := by have := hB3.size; simp at this; omega
        have HVo := Lib.hid (fun g (hg : u5.ownBlock = some g) => (HV.out.own.lt g hg).2)
        clear hB3 hu k0 k1 k2 k3 k4 k5 k6 k7 HX HIH
        have hown := HV3.out.own
        rw [← HN.out] at hown
        have HO := Lib.hid (hown.alloc (.cells #[.iface t u] 28))
        have hbase : W1.heap.size ≤ (w3.alloc (.cells #[.iface t u] 28)).heap.size := by simp; omega
        clear hown
        go_wp2_with (at_builtin; refine wpList_append_one _ rfl (.tmp 23) (.tmp 26) 73 rfl W1.heap.size 28 i0 .nilIface 1 16 Tryz.underlying73 hi0 hz0 hz1 hz2 rfl (by decide) _ _ _ rfl HO.out ⟨w3.heap.size, 0, none⟩ 1 [.iface t u] rfl rfl ?c1 ?c2 ?c3 ?c4 hbase ?_)
        case c1 =>
          intro j u' hj
          match j, hj with
          | 0, hj => simp at hj; subst hj; simp [Addr.add]
        case c2 => intro u' hu'; simp at hu'; subst hu'; rfl
        case c3 => unfold maxLen; omega
        case c4 => omega
        intro v' w4 hown' hgrow hlast
        have HV4 : Hid (Vals W1 v' (us ++ [.iface t u]) (xs ++ [y]) w4) := by
          refine (HV3.out.later (Below.new (w := w3) (.cells #[.iface t u] 28))).push ?_ (by rw [← HN.out]; exact hown') hgrow (by simpa using hlast)
          refine HU.out.keep fun k hk hk' => ⟨⟨by simp at hk'; omega, by simp; omega, fun e => ?_⟩, (Below.new _).block k hk⟩
          have := HVo.out k e
          simp at hk'; omega
        have HL4 : Hid (mkL (ps.take (us ++ [Value.iface t u]).length) = some (xs ++ [y])) := by
          show _ = _
          rw [List.length_append, List.length_singleton, ← HN.out, HMK.out]
          exact mkL_snoc _ _ HL.out HMX.out
        have hln : (us ++ [Value.iface t u]).length = n + 1 := by rw [List.length_append, List.length_singleton, ← HN.out]
        have HLN := Lib.hid hln
        clear hown' hgrow hlast hln HO HVo HU HV3 HV HL
        go_wp2_with fail
        go_roundw
        case rel => exact ⟨us ++ [.iface t u], xs ++ [y], by rw [HLN.out]; go_num, by rw [HLN.out]; omega, HL4, HV4⟩
        case measure => simp [intOf]; omega
    · have hle2 : us.length = ps.length := by omega
      have HLen := Lib.hid hle2
      have hL2 := HL.out
      rw [hle2, List.take_length] at hL2
      have HL2 := Lib.hid hL2
      have HML : Hid (mkV d = greatV d xs) := by show _ = _; rw [HM.out, hL2]; rfl
      clear hle2 hL2 HL HM IH HP
      have hx0 := cell_below HBr.out HX0.out
      have hx2 := cell_below HBr.out HX2.out
      have hx5 := cell_below HBr.out HX5.out
      have hy0 := cell_below HBr.out HY0.out
      have hy1 := cell_below HBr.out HY1.out
      have hy2 := cell_below HBr.out HY2.out
      clear HX0 HX2 HX5 HY0 HY1 HY2
      obtain ⟨a, c, rfl⟩ := HV.out.slice
      have hgr : greatV d xs = some (.great .ptr d.base d.bits [] xs) := by
        have := HK.out
        unfold greatV
        rw [if_neg (by omega), if_neg (by omega), if_pos this]
      have HGR := Lib.hid hgr
      have HB0 := Lib.hid (HBW.out.next HBr.out)
      clear hgr
      have hp1 : ps.length ≤ 1 := by rw [HPS.out]; exact h1
      rw [← HLen.out]
      rcases (show us.length = 0 ∨ us.length = 1 by have := HLen.out; omega) with hN | hN
      · rw [hN]
        have HN := Lib.hid hN
        clear hN hp1
        go_wp2_with fail
        refine bodyPost_ret (v := .iface 106 (.agg #[.int .i64 d.kind, .string d.type, .int .i64 d.hook, .int .u64 d.bits, .nilIface])) (by simp [results, Tryz.f58, go_sem]) rfl ?_
        unfold MadePost
        rw [HML.out, HGR.out, List.eq_nil_of_length_eq_zero (l := xs) (by have := HV.out.len; have := HN.out; omega)]
        exact ⟨HB0.out.push _, _, _, rfl, .ptr0 d.base d.bits⟩
      · obtain ⟨bb, t, y, x, rfl, hc, hxs, hval⟩ := HV.out.one hN
        rw [hN]
        have HXS := Lib.hid hxs
        have HVAL := Lib.hid hval
        have hbb : bb < wr.heap.size := World.block_lt_of_cell? wr _ hc
        clear hN hp1 hxs hval
        go_wp2_with fail
        refine bodyPost_ret (v := .iface 106 (.agg #[.int .i64 d.kind, .string d.type, .int .i64 d.hook, .int .u64 d.bits, .iface t y])) (by simp [results, Tryz.f58, go_sem]) rfl ?_
        unfold MadePost
        rw [HML.out, HGR.out, HXS.out]
        refine ⟨HB0.out.push _, _, _, rfl, .ptr1 d.base d.bits _ x (by simp) ?_⟩
        refine HVAL.out.keep fun k hk hk' => ⟨by omega, (Below.new _).block k hk⟩
end Go.Proofs.YtkpfeodffhfejaaGreatDoor
