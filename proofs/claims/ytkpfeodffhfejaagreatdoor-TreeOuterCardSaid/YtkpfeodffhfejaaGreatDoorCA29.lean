/- The reference's In at descriptors with parts. Condition: the descriptor is right, and not too great. -/
import Derived.Test.YtkpfeodffhfejaaGreatDoorCA22
import Derived.Test.YtkpfeodffhfejaaGreatDoorCA28
import Derived.Deep.DeepCutAuto
import Derived.Deep.CutBlock
namespace Go.Proofs.YtkpfeodffhfejaaGreatDoor
set_option linter.unusedVariables false
set_option maxRecDepth 1000000
set_option linter.unusedSimpArgs false
open Go.RowKit

theorem run_append_zero {P : Program} {w : World} (t ty e : TypeId) (i : TypeInfo) (ht : P.underlying t = some (.slice e)) (hi : P.info? e = some i) (base a : Option Addr) (n cap c : Nat) (h : n ≤ cap) :
    (Builtin.append_ #[t, t] ty #[.slice base n cap, .slice a 0 c]).run P w = .ok (.slice base n cap) w := by
  cases base <;> cases a
  all_goals simp [Builtin.append_, run_underlying ht, sizeOf, typeInfo, hi, Builtin.lenOf, Builtin.firstCells, h, storeCells, loadCells, loadCellsFrom]
/-- Nothing is appended. -/
theorem wpList_append_zero {P : Program} {w : World} {ops : Array Oper} {rest : List Oper} {o : Oper} {a : Act} {Q : Exit → Act → World → Prop} (hgd : o.guard = none) (s x : Operand) (t : TypeId)
    (ho : o.op = .call { callee := .builtin .append, args := #[s, x], argTypes := #[t, t] }) (e : TypeId) (i : TypeInfo) (ht : P.underlying t = some (.slice e)) (hi : P.info? e = some i)
    (base ad : Option Addr) (n cap c : Nat) (hs : a.eval s = .slice base n cap) (hx : a.eval x = .slice ad 0 c) (hn : n ≤ cap)
    (h : wpList P ops Q rest (a.put o.dst (.slice base n cap)) w) : wpList P ops Q (o :: rest) a w := by
  refine wpList_plain hgd fun K hK => ?_
  have hrun := run_append_zero (P := P) (w := w) t o.type e i ht hi base ad n cap c hn
  unfold Oper.wp
  simp [execOp, ho, resolve, invoke, builtin, hs, hx, hrun, Result.andThen]
  exact hK _ _ h
theorem addr_at (b o j : Nat) : (⟨b, o, none⟩ : Addr).add j = ⟨b, o + j, none⟩ := by unfold Addr.add; split <;> simp_all
def namesOf (d : D) : List ByteArray := if d.kind = 18 then d.names else []
def bitsOf (d : D) : Int := if d.kind = 22 then d.bits else 0
/-- Where the parts are looked at: behind the switch. -/
structure InMid (w wx : World) (d : D) (a5 : Option Addr) (c5 : Nat) (a6 : Option Addr) (c6 : Nat) (vn : Value) : Prop where
  bp : Blk wx (w.heap.size + 2) (.int .i64 d.kind) (.string d.type) (.int .u64 (bitsOf d)) (.int .u64 0) (.string ⟨#[]⟩) vn (.slice none 0 0) (.int .i64 d.hook)
  br : Blk wx (w.heap.size + 1) (.int .i64 0) (.string ⟨#[]⟩) (.int .u64 0) (.int .u64 0) (.string ⟨#[]⟩) (.slice none 0 0) (.slice none 0 0) (.int .i64 0)
  box : BoxD wx w.heap.size d a5 c5 a6 c6
  nr : wx.ownsRow (w.heap.size + 3) 9 1 vn (namesOf d).length ((namesOf d).map Value.string)
  b : Below w.heap.size w wx
  sz : w.heap.size + 3 ≤ wx.heap.size
theorem Blk.put2 {w : World} {b : Nat} {v0 v1 v2 v3 v4 v5 v6 v7 : Value} (h : Blk w b v0 v1 v2 v3 v4 v5 v6 v7) (u : Value) : Blk (w.setCell ⟨b, 2, none⟩ u) b v0 v1 u v3 v4 v5 v6 v7 :=
  ⟨vput_other h.c0 (by decide), vput_other h.c1 (by decide), vput_same h.c2, vput_other h.c3 (by decide), vput_other h.c4 (by decide), vput_other h.c5 (by decide), vput_other h.c6 (by decide), vput_other h.c7 (by decide), fun j => by simpa using h.f j⟩
theorem BoxD.keep {w w' : World} {b : Nat} {d : D} {a5 : Option Addr} {c5 : Nat} {a6 : Option Addr} {c6 : Nat} (h : BoxD w b d a5 c5 a6 c6) (hb : w'.heap[b]? = w.heap[b]?) : BoxD w' b d a5 c5 a6 c6 :=
  ⟨cell_block hb h.k0, cell_block hb h.k1, cell_block hb h.k2, cell_block hb h.k3, cell_block hb h.k4, cell_block hb h.k5, cell_block hb h.k6, cell_block hb h.k7⟩
theorem InMid.of {w W3 W' : World} {d : D} {a5 : Option Addr} {c5 : Nat} {a6 : Option Addr} {c6 : Nat} {vn : Value}
    (hbr : Blk W3 (w.heap.size + 1) (.int .i64 0) (.string ⟨#[]⟩) (.int .u64 0) (.int .u64 0) (.string ⟨#[]⟩) (.slice none 0 0) (.slice none 0 0) (.int .i64 0)) (hbox : BoxD W3 w.heap.size d a5 c5 a6 c6) (hz3 : W3.heap.size = w.heap.size + 3)
    (hb : Below w.heap.size w W') (hk : ∀ k, k < W3.heap.size → k ≠ w.heap.size + 2 → W'.heap[k]? = W3.heap[k]?) (hz : W3.heap.size ≤ W'.heap.size)
    (hbp : Blk W' (w.heap.size + 2) (.int .i64 d.kind) (.string d.type) (.int .u64 (bitsOf d)) (.int .u64 0) (.string ⟨#[]⟩) vn (.slice none 0 0) (.int .i64 d.hook))
    (hnr : W'.ownsRow (w.heap.size + 3) 9 1 vn (namesOf d).length ((namesOf d).map Value.string)) : InMid w W' d a5 c5 a6 c6 vn :=
  ⟨hbp, hbr.keep (hk _ (by omega) (by omega)), hbox.keep (hk _ (by omega) (by omega)), hnr, hb, by omega⟩
/-- The descriptor of a row of names and a row of descriptors. -/
theorem in_fin {w W : World} {d : D} {bits : Int} {names : List ByteArray} {lo : Nat} {vn v : Value} {us : List Value} {ds : List D} (hD : DRow lo vn v us ds W) (hnr : W.ownsRow (w.heap.size + 3) 9 1 vn names.length (names.map Value.string)) (hlo : w.heap.size + 3 ≤ lo) :
    ∃ an cn ap cp, vn = .slice an names.length cn ∧ v = .slice ap ds.length cp ∧ ∀ W9 : World, (∀ k, k ≠ w.heap.size + 1 → W9.heap[k]? = W.heap[k]?) → I64 d.kind → U64 bits → I64 d.hook → d.type.size ≤ cap47 → names.length ≤ cap47 → (∀ x ∈ names, x.size ≤ cap47) → ds.length ≤ cap47 →
      IsDF W9 (w.heap.size ≤ ·) (.agg #[.int .i64 d.kind, .string d.type, .int .u64 bits, .int .u64 0, .string ⟨#[]⟩, .slice an names.length cn, .slice ap ds.length cp, .int .i64 d.hook]) (.mk d.kind d.type bits 0 ⟨#[]⟩ names ds d.hook) := by
  obtain ⟨ap, cp, gp, rfl, p1, p2, p3, ⟨R, p4, p5, p6⟩, p7⟩ := hD.parts
  obtain ⟨an, cn, gn, rfl, q1, q2, q3, q4⟩ := names_row hnr
  refine ⟨an, cn, ap, cp, rfl, rfl, fun W9 hkp hk hb hh ht hn47 hns hp47 => ?_⟩
  have hnn : ∀ (h : 0 < names.length), (Value.slice an names.length cn).ownBlock = some gn := fun h => by rw [(q2 h).1]; rfl
  refine IsDF.mk (w.heap.size ≤ ·) (.mk d.kind d.type bits 0 ⟨#[]⟩ names ds d.hook) an cn ap cp gn 0 gp 0 R hk hb U64_0 hh ht cap_0 q1 hn47 ?_ ?_ hns p1 hp47 ?_ ?_ ?_ ?_ p6 ?_
  · intro h; exact ⟨(q2 h).1, by have := (q2 h).2.1; omega⟩
  · intro i h
    simp only [D.names] at h
    have := q2 (by omega)
    exact ⟨cell_block (hkp gn (by omega)) (q3 i h), by rw [frozen_blk (hkp gn (by omega))]; exact q4 i h⟩
  · intro h; simp only [D.parts] at h; exact ⟨(p2 h).1, by have := (p2 h).2.1; omega⟩
  · intro i h j hj; simp only [D.parts] at h; rw [frozen_blk (hkp gp (by have := (p2 (by omega)).2.1; omega))]; exact p3 i h j hj
  · intro i h; simp only [D.parts] at h ⊢; exact isDF_row (p4 i h) (hkp gp (by have := (p2 (by omega)).2.1; omega)) (fun k hk hR => hkp k (by have := (p5 i k hR).1; omega))
  · intro i h k hk; simp only [D.parts] at h; exact ⟨by have := (p5 i k hk).1; omega, (p5 i k hk).2.2.1 (by omega), fun hn e => (p5 i k hk).2.2.2 (by rw [hnn hn, e])⟩
  · intro h1 h2 e; simp only [D.parts] at h1; exact p7 h1 (by rw [hnn h2, e])
theorem raw_great {d : D} {x : V} {l : List V} (hx : mkV d = some x) (h18 : 18 ≤ d.kind) (hl : mkL d.parts = some l) :
    rawV x = .mk d.kind d.type (bitsOf d) 0 ⟨#[]⟩ (namesOf d) (rawL (if d.kind = 21 then flat (sortP (pairs l)) else l)) d.hook ∧ (d.kind = 21 → Apart (pairs l)) := by
  rw [mkV_great h18, hl, Option.bind_some] at hx
  unfold greatV at hx
  unfold bitsOf namesOf
  by_cases k18 : d.kind = 18
  · rw [if_pos k18] at hx ⊢
    rw [if_neg (by omega), if_neg (by omega)]
    split at hx
    · injection hx with hx; subst hx; exact ⟨rfl, fun h => by omega⟩
    · cases hx
  · rw [if_neg k18] at hx ⊢
    by_cases k21 : d.kind = 21
    · rw [if_pos k21] at hx ⊢
      rw [if_neg (by omega)]
      split at hx
      · rename_i ha; injection hx with hx; subst hx; exact ⟨rfl, fun _ => ha⟩
      · cases hx
    · rw [if_neg k21] at hx ⊢
      by_cases k22 : d.kind = 22
      · rw [if_pos k22] at hx ⊢
        injection hx with hx; subst hx; exact ⟨rfl, fun h => by omega⟩
      · rw [if_neg k22] at hx ⊢
        injection hx with hx; subst hx; exact ⟨rfl, fun h => by omega⟩
theorem bits_rng {d : D} (h : U64 d.bits) : U64 (bitsOf d) := by
  unfold bitsOf
  split
  · exact h
  · exact U64_0
theorem names_rng {w : World} {a : Option Addr} {c : Nat} {d : D} (h : NamesAt w a c d.names) : (namesOf d).length ≤ cap47 ∧ ∀ x ∈ namesOf d, x.size ≤ cap47 := by
  obtain ⟨_, h2, _, _, _, _, h5⟩ := h
  unfold namesOf
  split
  · exact ⟨h2, h5⟩
  · exact ⟨Nat.zero_le _, fun x hx => by cases hx⟩
theorem flat_len2 : ∀ l : List (V × V), (flat l).length = 2 * l.length
  | [] => rfl
  | (a, b) :: l => by simp only [flat, List.length_cons, flat_len2 l]; omega
theorem flat_sorted_len {l : List V} (h : ∃ m, l.length = 2 * m) : (flat (sortP (pairs l))).length = l.length := by
  obtain ⟨m, hm⟩ := h
  rw [flat_len2, (sortP_perm _).length_eq, ← flat_len2, flat_pairs m l hm]
def SrtD (W : World) (lo : Nat) (vn : Value) (ds : List D) (e : Ending) (w' : World) : Prop := Below W.heap.size W w' ∧ ∃ a' n' c' us', e = .returned (.slice a' n' c') ∧ DRow lo vn (.slice a' n' c') us' ds w'
/-- The reference's sorting of a built map's parts. -/
theorem in_srt {W : World} {lo : Nat} {vn v : Value} {us : List Value} {l : List V} (hD : DRow lo vn v us (rawL l) W) {m : Nat} (hm : l.length = 2 * m) (hm64 : m ≤ 64) (hlo : lo ≤ W.heap.size) (hvn : ∀ k, vn.ownBlock = some k → k < W.heap.size)
    (hk : Keyd (pairs l)) (hr : ∀ x ∈ pairs l, VR x.1) (ha : Apart (pairs l)) : Calls Tryz.prog 65 #[v] W (SrtD W lo vn (rawL (flat (sortP (pairs l))))) := by
  obtain ⟨its, i1, i2, i3, i4⟩ := hD.items
  have hl : its.length = 2 * m := by
    have : (its.map (·.2.1)).length = (rawL l).length := by rw [i2]
    rw [List.length_map, rawL_length] at this
    omega
  obtain ⟨f1, f2⟩ := flat_pairsG m its hl
  have hul : us.length = 2 * m := by rw [← i1, List.length_map, hl]
  have hv : ∃ a c, v = .slice a (2 * (pairsG its).length) c := by
    rw [f2]
    rcases hD.own.2 with ⟨e, h0⟩ | ⟨g, cap, cur, e, _⟩
    · exact ⟨none, 0, by rw [e, show 2 * m = 0 by omega]⟩
    · exact ⟨_, cap, by rw [e, hul]⟩
  obtain ⟨a, c, rfl⟩ := hv
  have hrow : RowV lo W a c (2 * (pairsG its).length) ((flatG (pairsG its)).map (·.1)) := by
    refine ⟨by rw [f1, f2, List.length_map, hl], ?_⟩
    rw [f1, i1]
    have := hD.own
    rw [hul] at this
    rw [f2] at this ⊢
    exact this
  refine (sorted_any (α := It) (·.1) (·.2.1) (pairsG its) (by omega) hrow (fun x hx => by rw [f1] at hx; exact (i3 x hx).1.isD)).mono fun e w' h => ?_
  obtain ⟨hb, a', c', rfl, hrow'⟩ := h
  have hp : (flatG (sortG (fun x : It => x.2.1) [] (pairsG its))).Perm its := by
    have := flatG_perm (sortG_perm (fun x : It => x.2.1) (pairsG its) [])
    rw [List.nil_append, f1] at this
    exact this
  have hlen' : (flatG (sortG (fun x : It => x.2.1) [] (pairsG its))).length = 2 * (sortG (fun x : It => x.2.1) [] (pairsG its)).length := by rw [flatG_length]; omega
  have hown : w'.ownsRow W.heap.size 26 8 (.slice a' (2 * (sortG (fun x : It => x.2.1) [] (pairsG its)).length) c') (flatG (sortG (fun x : It => x.2.1) [] (pairsG its))).length (flatV8 ((flatG (sortG (fun x : It => x.2.1) [] (pairsG its))).map (·.1))) := by
    rw [hlen']; exact hrow'.2
  have := DRow.of_items hp i3 i4 hb hlo hvn hown
  have e : (flatG (sortG (fun x : It => x.2.1) [] (pairsG its))).map (·.2.1) = rawL (flat (sortP (pairs l))) := by
    rw [flat_des (fun x : It => x.2.1), sort_des (fun x : It => x.2.1), ← pairsG_map (fun x : It => x.2.1), i2, pairsG_raw, List.map_nil, sorted_raw hk hr ha, flatD_raw]
  rw [e] at this
  exact ⟨hb, _, _, _, _, rfl, this⟩
set_option maxHeartbeats 4000000 in
set_option maxRecDepth 100000 in
theorem in_great {d : D} {w : World} {v : Value} (h : IsD w v d) (h18 : 18 ≤ d.kind) (h22 : d.kind ≤ 22) {x : V} (hx : mkV d = some x) (hsz : d.parts.length ≤ 64) (hf : formB d = true)
    (ih : ∀ p ∈ d.parts, ∀ y, mkV p = some y → ∀ (w : World) (v : Value), IsD w v p → Calls Tryz.prog 40 #[v] w (RawPost w y)) : Calls Tryz.prog 40 #[v] w (RawPost w x) := by
  obtain ⟨a5, c5, a6, c6, rfl, hk, hb, hi, ht, htx, hn, hp⟩ := h.open
  have hh : I64 d.hook := by cases h.rng; assumption
  have HK := Lib.hid (And.intro hk (And.intro hb (And.intro hi (And.intro ht (And.intro htx hh)))))
  have HN := Lib.hid hn
  have HP := Lib.hid hp
  have HX := Lib.hid hx
  have HF := Lib.hid hf
  have IH := Lib.hid ih
  have hnl : d.names.length ≤ 140737488355328 := hn.2.1
  have HDR := Lib.hid h.rng
  clear hk ht htx hh hn hp h hx hf ih hi
  obtain ⟨i9, hi9, hz9, hs9, hb9⟩ := info_parts vinfo9r
  obtain ⟨i26, hi26, hz26, hs26, hb26⟩ := info_parts vinfo26
  have e0 : (d.kind == 0) = false := by simp; omega
  have e1 : (d.kind == 1) = false := by simp; omega
  have e12 : (d.kind == 12) = false := by simp; omega
  have e13 : (d.kind == 13) = false := by simp; omega
  have e14 : (d.kind == 14) = false := by simp; omega
  have e15 : (d.kind == 15) = false := by simp; omega
  have e16 : (d.kind == 16) = false := by simp; omega
  have e17 : (d.kind == 17) = false := by simp; omega
  have hwh : inB 2 11 d.kind = false := inB_no (by omega)
  have HWh := Lib.hid hwh
  have hgk : greatK d.kind = true := by simp [greatK]; omega
  have HGk := Lib.hid hgk
  clear hwh hgk
  unfold aggD
  go_enter Tryz.func40, Tryz.ntmps40
  go_upto_block 0 with fail
  have hz3 : (((w.alloc (.cells #[.int .i64 d.kind, .string d.type, .int .u64 d.bits, .int .u64 d.imag, .string d.text, .slice a5 d.names.length c5, .slice a6 d.parts.length c6, .int .i64 d.hook] 26)).alloc (.cells #[.int .i64 0, .string ⟨#[]⟩, .int .u64 0, .int .u64 0, .string ⟨#[]⟩, .slice none 0 0, .slice none 0 0, .int .i64 0] 26)).alloc (.cells #[.int .i64 d.kind, .string d.type, .int .u64 0, .int .u64 0, .string ⟨#[]⟩, .slice none 0 0, .slice none 0 0, .int .i64 d.hook] 26)).heap.size = w.heap.size + 3 := by simp
  have HBp : Hid (Blk (((w.alloc (.cells #[.int .i64 d.kind, .string d.type, .int .u64 d.bits, .int .u64 d.imag, .string d.text, .slice a5 d.names.length c5, .slice a6 d.parts.length c6, .int .i64 d.hook] 26)).alloc (.cells #[.int .i64 0, .string ⟨#[]⟩, .int .u64 0, .int .u64 0, .string ⟨#[]⟩, .slice none 0 0, .slice none 0 0, .int .i64 0] 26)).alloc (.cells #[.int .i64 d.kind, .string d.type, .int .u64 0, .int .u64 0, .string ⟨#[]⟩, .slice none 0 0, .slice none 0 0, .int .i64 d.hook] 26)) (w.heap.size + 2) (.int .i64 d.kind) (.string d.type) (.int .u64 0) (.int .u64 0) (.string ⟨#[]⟩) (.slice none 0 0) (.slice none 0 0) (.int .i64 d.hook)) := by
    have := Blk.of (heap_alloc_new ((w.alloc (.cells #[.int .i64 d.kind, .string d.type, .int .u64 d.bits, .int .u64 d.imag, .string d.text, .slice a5 d.names.length c5, .slice a6 d.parts.length c6, .int .i64 d.hook] 26)).alloc (.cells #[.int .i64 0, .string ⟨#[]⟩, .int .u64 0, .int .u64 0, .string ⟨#[]⟩, .slice none 0 0, .slice none 0 0, .int .i64 0] 26)) (.cells #[.int .i64 d.kind, .string d.type, .int .u64 0, .int .u64 0, .string ⟨#[]⟩, .slice none 0 0, .slice none 0 0, .int .i64 d.hook] 26))
    exact Lib.hid (by simpa using this)
  have HBr : Hid (Blk (((w.alloc (.cells #[.int .i64 d.kind, .string d.type, .int .u64 d.bits, .int .u64 d.imag, .string d.text, .slice a5 d.names.length c5, .slice a6 d.parts.length c6, .int .i64 d.hook] 26)).alloc (.cells #[.int .i64 0, .string ⟨#[]⟩, .int .u64 0, .int .u64 0, .string ⟨#[]⟩, .slice none 0 0, .slice none 0 0, .int .i64 0] 26)).alloc (.cells #[.int .i64 d.kind, .string d.type, .int .u64 0, .int .u64 0, .string ⟨#[]⟩, .slice none 0 0, .slice none 0 0, .int .i64 d.hook] 26)) (w.heap.size + 1) (.int .i64 0) (.string ⟨#[]⟩) (.int .u64 0) (.int .u64 0) (.string ⟨#[]⟩) (.slice none 0 0) (.slice none 0 0) (.int .i64 0)) := by
    have := (Blk.of (heap_alloc_new (w.alloc (.cells #[.int .i64 d.kind, .string d.type, .int .u64 d.bits, .int .u64 d.imag, .string d.text, .slice a5 d.names.length c5, .slice a6 d.parts.length c6, .int .i64 d.hook] 26)) (.cells #[.int .i64 0, .string ⟨#[]⟩, .int .u64 0, .int .u64 0, .string ⟨#[]⟩, .slice none 0 0, .slice none 0 0, .int .i64 0] 26))).below (Below.new (.cells #[.int .i64 d.kind, .string d.type, .int .u64 0, .int .u64 0, .string ⟨#[]⟩, .slice none 0 0, .slice none 0 0, .int .i64 d.hook] 26))
    exact Lib.hid (by simpa using this)
  have HBox := Lib.hid (((BoxD.new w d a5 c5 a6 c6).later (Below.new (.cells #[.int .i64 0, .string ⟨#[]⟩, .int .u64 0, .int .u64 0, .string ⟨#[]⟩, .slice none 0 0, .slice none 0 0, .int .i64 0] 26))).later (Below.new (.cells #[.int .i64 d.kind, .string d.type, .int .u64 0, .int .u64 0, .string ⟨#[]⟩, .slice none 0 0, .slice none 0 0, .int .i64 d.hook] 26)))
  unfold cellsD at HBox
  have HB3 := Lib.hid (((Below.new (w := w) (.cells #[.int .i64 d.kind, .string d.type, .int .u64 d.bits, .int .u64 d.imag, .string d.text, .slice a5 d.names.length c5, .slice a6 d.parts.length c6, .int .i64 d.hook] 26)).push (.cells #[.int .i64 0, .string ⟨#[]⟩, .int .u64 0, .int .u64 0, .string ⟨#[]⟩, .slice none 0 0, .slice none 0 0, .int .i64 0] 26)).push (.cells #[.int .i64 d.kind, .string d.type, .int .u64 0, .int .u64 0, .string ⟨#[]⟩, .slice none 0 0, .slice none 0 0, .int .i64 d.hook] 26))
  generalize ((w.alloc (.cells #[.int .i64 d.kind, .string d.type, .int .u64 d.bits, .int .u64 d.imag, .string d.text, .slice a5 d.names.length c5, .slice a6 d.parts.length c6, .int .i64 d.hook] 26)).alloc (.cells #[.int .i64 0, .string ⟨#[]⟩, .int .u64 0, .int .u64 0, .string ⟨#[]⟩, .slice none 0 0, .slice none 0 0, .int .i64 0] 26)).alloc (.cells #[.int .i64 d.kind, .string d.type, .int .u64 0, .int .u64 0, .string ⟨#[]⟩, .slice none 0 0, .slice none 0 0, .int .i64 d.hook] 26) = W3 at hz3 HBp HBr HBox HB3 ⊢
  have HZ3 := Lib.hid hz3
  have hlt3 : w.heap.size + 1 + 1 < W3.heap.size := by omega
  have hlt0 : w.heap.size < W3.heap.size := by omega
  clear hz3
  obtain ⟨q0, q1, q2, q3, q4, q5, q6, q7⟩ := HBox.out
  have b2 := HBp.out.c2
  have bf2 := HBp.out.f 2
  have b5 := HBp.out.c5
  have bf5 := HBp.out.f 5
  rw [show w.heap.size + 2 = w.heap.size + 1 + 1 from rfl] at b2 bf2 b5 bf5
  go_cut [] (fun wx => ∃ vn, Hid (InMid w wx d a5 c5 a6 c6 vn))
  case first =>
    by_cases k18 : d.kind = 18
    · have e18 : (d.kind == 18) = true := by simp [k18]
      have e22 : (d.kind == 22) = false := by simp [k18]
      have HK18 := Lib.hid k18
      clear k18
      have HE : Hid (namesOf d = d.names ∧ bitsOf d = 0) := ⟨if_pos HK18.out, if_neg (by rw [HK18.out]; decide)⟩
      have HLN : Hid (d.names.length = d.parts.length) := by
        have := HF.out
        unfold formB at this
        rw [if_pos HK18.out] at this
        simp only [Bool.and_eq_true, decide_eq_true_eq] at this
        exact Lib.hid this.2.1
      by_cases hn0 : d.names.length = 0
      · have HN0 := Lib.hid hn0
        rw [hn0] at q5
        clear hn0
        go_wp2_with fail
        refine (whole_any _ _).mono ?_
        rintro e w1 ⟨rfl, rfl⟩
        rw [HWh.out]
        have q5' := cell_below (Below.new (w := W3) (.cells #[] 9)) q5
        go_wp2_with (first
          | (at_builtin; refine wpList_append_zero rfl (.tmp 82) (.tmp 84) 23 rfl 9 i9 Tryz.underlying23 hi9 _ _ 0 0 c5 rfl rfl (Nat.le_refl _) ?_; have u5 := cell_below (Below.new (w := W3) (.cells #[] 9)) b5; have uf5 := ((Below.new (w := W3) (.cells #[] 9)).frozen (p := ⟨w.heap.size + 1 + 1, 5, none⟩) hlt3).trans bf5))
        go_meet
        refine ⟨.slice (some ⟨W3.heap.size, 0, none⟩) 0 0, Lib.hid (InMid.of HBr.out HBox.out HZ3.out ((HB3.out.setCell (p := ⟨w.heap.size + 1 + 1, 5, none⟩) (by show _ ≤ w.heap.size + 1 + 1; omega) _).push _) (fun k hk hne => by rw [Below.heap_alloc _ _ k (by simp; omega)]; exact Below.heap_setCell _ _ _ _ (by show k ≠ w.heap.size + 1 + 1; omega)) (by simp) ?_ ?_)⟩
        · rw [HE.out.2]
          exact (HBp.out.put5 _).below (Below.new _)
        · have h0 : namesOf d = [] := by rw [HE.out.1]; exact List.eq_nil_of_length_eq_zero HN0.out
          rw [h0]
          have := World.ownsRow_lit (base := w.heap.size + 3) (e := 9) (size := 1) (W3.setCell ⟨w.heap.size + 1 + 1, 5, none⟩ (.slice (some ⟨W3.heap.size, 0, none⟩) 0 0)) #[] 0 (by simp [HZ3.out]) (by unfold maxLen; omega) rfl
          simpa using this
      · have hnp : 0 < d.names.length := by omega
        clear hn0
        obtain ⟨n1, n2, nb, no, n3, n4, n5⟩ := HN.out
        obtain rfl := n3 hnp
        have HNC : Hid (∀ j u, (d.names.map Value.string)[j]? = some u → (W3.alloc (.cells #[] 9)).cell? ((⟨nb, no, none⟩ : Addr).add j) = some u) := by
          intro j u hu
          rw [addr_at]
          have hj : j < d.names.length := by
            have := (List.getElem?_eq_some_iff.1 hu).1
            simpa using this
          rw [List.getElem?_map, List.getElem?_eq_getElem hj] at hu
          simp only [Option.map_some, Option.some.injEq] at hu
          rw [← hu]
          exact cell_below (Below.new _) (cell_below HB3.out (n4 j hj))
        have hnl64 : d.names.length ≤ 64 := by have := HLN.out; omega
        have hmx : 0 + d.names.length ≤ maxLen := by unfold maxLen; omega
        have hbx : (0 + d.names.length) * 16 ≤ 140737488355328 := by omega
        have H1C : Hid (∀ u ∈ d.names.map Value.string, u.oneCell' = true) := by
          intro u hu
          obtain ⟨x, _, rfl⟩ := List.mem_map.1 hu
          rfl
        have HOL := Lib.hid (World.ownsRow_lit (base := w.heap.size + 3) (e := 9) (size := 1) W3 #[] 0 (by rw [HZ3.out]; exact Nat.le_refl _) (by unfold maxLen; omega) rfl)
        have HZ4 : Hid ((W3.alloc (.cells #[] 9)).heap.size = w.heap.size + 4) := by show _ = _; simp [HZ3.out]
        clear n1 n2 n3 n4 n5
        go_wp2_with fail
        refine (whole_any _ _).mono ?_
        rintro e w1 ⟨rfl, rfl⟩
        rw [HWh.out]
        have q5' := cell_below (Below.new (w := W3) (.cells #[] 9)) q5
        go_wp2_with (first
          | (at_builtin; refine wpList_append_lies _ rfl (.tmp 82) (.tmp 84) 23 rfl (w.heap.size + 3) 9 i9 _ 1 16 Tryz.underlying23 hi9 hz9 hs9 hb9 rfl (by omega) (.slice (some ⟨W3.heap.size, 0, none⟩) 0 0) 0 _ rfl HOL.out ⟨nb, no, none⟩ d.names.length c5 (d.names.map Value.string) rfl (by rw [List.length_map, Nat.mul_one]) HNC.out H1C.out hnp hmx hbx (by rw [HZ4.out]; omega) (w.heap.size + 4) HZ4.out ?_; intro gg cap w6 hown6 hgrow6 hat6 hlt6; have hb6 : w6.heap[w.heap.size + 1 + 1]? = W3.heap[w.heap.size + 1 + 1]? := (hgrow6.block _ (by rw [HZ4.out]; omega) (fun e => by have e := Option.some.inj (show some W3.heap.size = some (w.heap.size + 1 + 1) from e.symm); omega)).trans (Below.heap_alloc W3 _ _ hlt3); have u5 := cell_block hb6 b5; have uf5 := (frozen_blk (o := 5) hb6).trans bf5; have HB6 := Lib.hid hb6; have HOwn6 := Lib.hid hown6; have HGrow6 := Lib.hid hgrow6; have HAt6 := Lib.hid hat6; clear hb6 hown6 hgrow6 hat6))
        go_meet
        have hz6 := HGrow6.out.size
        have hz4 := HZ4.out
        have hz3 := HZ3.out
        refine ⟨.slice (some ⟨gg, 0, none⟩) d.names.length cap, Lib.hid (InMid.of HBr.out HBox.out HZ3.out ((((HB3.out.push _).grown HGrow6.out (by rw [hz4]; omega) (fun k hk => by have e := Option.some.inj (show some W3.heap.size = some k from hk); omega)).setCell (p := ⟨w.heap.size + 1 + 1, 5, none⟩) (by show _ ≤ w.heap.size + 1 + 1; omega) _)) (fun k hk hne => ?_) (by simp; omega) ?_ ?_)⟩
        · rw [Below.heap_setCell _ _ _ _ (by show k ≠ w.heap.size + 1 + 1; omega), HGrow6.out.block k (by omega) (fun e => by have e := Option.some.inj (show some W3.heap.size = some k from e.symm); omega)]
          exact Below.heap_alloc W3 _ k hk
        · rw [HE.out.2]
          exact (HBp.out.keep HB6.out).put5 _
        · rw [HE.out.1]
          have ho := HOwn6.out
          simp only [Nat.zero_add, List.nil_append] at ho
          refine owns_blockV ho fun g hg => ?_
          have := (ho.lt g hg).1
          exact Below.heap_setCell _ _ _ _ (by show g ≠ w.heap.size + 1 + 1; omega)
    · have e18 : (d.kind == 18) = false := by simpa using k18
      by_cases k22 : d.kind = 22
      · have e22 : (d.kind == 22) = true := by simp [k22]
        have HK22 := Lib.hid k22
        clear k18 k22
        go_wp2_with fail
        refine (whole_any _ _).mono ?_
        rintro e w1 ⟨rfl, rfl⟩
        rw [HWh.out]
        go_wp2_with fail
        go_meet
        refine ⟨.slice none 0 0, Lib.hid (InMid.of HBr.out HBox.out HZ3.out (HB3.out.setCell (p := ⟨w.heap.size + 1 + 1, 2, none⟩) (by show _ ≤ w.heap.size + 1 + 1; omega) _) (fun k hk hne => Below.heap_setCell _ _ _ _ (by show k ≠ w.heap.size + 1 + 1; omega)) (by simp) ?_ ?_)⟩
        · rw [show bitsOf d = d.bits from if_pos HK22.out]
          exact HBp.out.put2 _
        · rw [show namesOf d = [] from if_neg (by rw [HK22.out]; decide)]
          exact ⟨rfl, .inl ⟨rfl, rfl⟩⟩
      · have e22 : (d.kind == 22) = false := by simpa using k22
        have HK18 := Lib.hid k18
        have HK22 := Lib.hid k22
        clear k18 k22
        go_wp2_with fail
        refine (whole_any _ _).mono ?_
        rintro e w1 ⟨rfl, rfl⟩
        rw [HWh.out]
        go_wp2_with fail
        go_meet
        refine ⟨.slice none 0 0, Lib.hid (InMid.of HBr.out HBox.out HZ3.out HB3.out (fun k hk hne => rfl) (Nat.le_refl _) ?_ ?_)⟩
        · rw [show bitsOf d = 0 from if_neg HK22.out]
          exact HBp.out
        · rw [show namesOf d = [] from if_neg HK18.out]
          exact ⟨rfl, .inl ⟨rfl, rfl⟩⟩
  case rest =>
    obtain ⟨vn, HM⟩ := hcut
    apply_assumption
    clear q0 q1 q2 q3 q4 q5 q6 q7 b2 bf2 b5 bf5 HBp HBr HBox HB3 HZ3 hlt3 hlt0
    obtain ⟨q0, q1, q2, q3, q4, q5, q6, q7⟩ := HM.out.box
    clear q1 q2 q3 q4 q5 q7
    obtain ⟨l, hl⟩ : ∃ l, mkL d.parts = some l := by
      have := HX.out
      rw [mkV_great h18] at this
      cases hm : mkL d.parts with
      | none => rw [hm] at this; cases this
      | some l => exact ⟨l, rfl⟩
    have HLL : Hid (l.length = d.parts.length) := mkL_length _ hl
    have HL := Lib.hid hl
    have HPL : Hid (∀ i (h : i < d.parts.length) (h' : i < l.length), mkV d.parts[i] = some l[i]) := fun i h h' => mkL_get hl i h h'
    clear hl
    have hpl2 : d.parts.length ≤ 9223372036854775807 := by omega
    go_wp2_with fail
    refine (great_any _ _).mono ?_
    rintro e w1 ⟨rfl, rfl⟩
    rw [HGk.out]
    have HSZ := HM.out.sz
    obtain ⟨ps, hps⟩ : ∃ ps, d.parts = ps := ⟨_, rfl⟩
    rw [hps] at q6 HLL HPL hpl2 hsz HP IH
    have HPS := Lib.hid hps
    clear hps
    go_wp2_with fail
    go_loopw [5, 108] (fun _ kk wr => ∃ (i : Nat) (v : Value) (us : List Value), kk = .int .i64 (i : Int) ∧ i ≤ ps.length ∧ Hid (us.length = i) ∧ Hid (DRow wc.heap.size vn v us (rawL (l.take i)) wr) ∧ Hid (Blk wr (w.heap.size + 2) (.int .i64 d.kind) (.string d.type) (.int .u64 (bitsOf d)) (.int .u64 0) (.string ⟨#[]⟩) vn v (.int .i64 d.hook)) ∧ Hid (wc.grownBy wr (some (w.heap.size + 2)))) (fun _ kk _ => ps.length - (intOf kk).toNat)
    case atStart =>
      exact ⟨0, _, [], rfl, Nat.zero_le _, rfl, DRow.start _ _ _, HM.out.bp, ⟨rfl, rfl, rfl, Nat.le_refl _, fun _ _ _ => rfl⟩⟩
    case round =>
      obtain ⟨i, v, us, rfl, hi, HU, HD, HBL, HG⟩ := hrel
      have HWR : Hid (Below w.heap.size w wr) := grown_to_below HM.out.b HG.out (by omega)
      have HGZ := HG.out.size
      by_cases hin : i < ps.length
      · obtain ⟨b, o, y5, z5, y6, z6, rfl, hrow, hY⟩ := HP.out.elem0 HWR.out hin
        obtain ⟨k0, k1, k2, k3, k4, k5, k6, k7⟩ := hrow
        have hil : i < l.length := by have := HLL.out; omega
        have HIH : Hid (∀ W, Below w.heap.size w W → Calls Tryz.prog 40 #[aggD ps[i] y5 z5 y6 z6] W (RawOpen W l[i])) := by
          intro W hW
          exact (IH.out ps[i] (List.getElem_mem _) l[i] (HPL.out i hin hil) W _ (hY.later hW)).mono fun e w' h => raw_open h
        obtain ⟨y, hy⟩ : ∃ y, ps[i] = y := ⟨_, rfl⟩
        obtain ⟨z, hz⟩ : ∃ z, l[i] = z := ⟨_, rfl⟩
        rw [hy] at k0 k1 k2 k3 k4 k5 k6 k7 HIH
        rw [hz] at HIH
        have HZE := Lib.hid hz
        unfold aggD at HIH
        clear hY hy hz q0 q6
        go_upto_region 25 with fail
        have hb1 : Below wr.heap.size wr (wr.alloc (.cells #[.int .i64 y.kind, .string y.type, .int .u64 y.bits, .int .u64 y.imag, .string y.text, .slice y5 y.names.length z5, .slice y6 y.parts.length z6, .int .i64 y.hook] 26)) := Below.new _
        have hblk := Blk.of (heap_alloc_new wr (.cells #[.int .i64 y.kind, .string y.type, .int .u64 y.bits, .int .u64 y.imag, .string y.text, .slice y5 y.names.length z5, .slice y6 y.parts.length z6, .int .i64 y.hook] 26))
        have hsz1 : (wr.alloc (.cells #[.int .i64 y.kind, .string y.type, .int .u64 y.bits, .int .u64 y.imag, .string y.text, .slice y5 y.names.length z5, .slice y6 y.parts.length z6, .int .i64 y.hook] 26)).heap.size = wr.heap.size + 1 := by simp
        generalize wr.alloc (.cells #[.int .i64 y.kind, .string y.type, .int .u64 y.bits, .int .u64 y.imag, .string y.text, .slice y5 y.names.length z5, .slice y6 y.parts.length z6, .int .i64 y.hook] 26) = W1 at hb1 hblk hsz1 ⊢
        have HB1 := Lib.hid hb1
        have HWR1 : Hid (Below w.heap.size w W1) := HWR.out.next hb1
        have HD1 := Lib.hid (HD.out.below hb1)
        have HBL1 := Lib.hid (HBL.out.below hb1)
        have HG1 := Lib.hid (grown_below HG.out hb1)
        obtain ⟨x0, x1, x2, x3, x4, x5, x6, x7, xf⟩ := hblk
        have c6 := HBL1.out.c6
        have f6 := HBL1.out.f 6
        have lp := World.block_lt_of_cell? W1 _ c6
        simp only at lp
        have HOW := Lib.hid HD1.out.own
        have hun := HU.out
        have hz1 : W1.heap.size = wr.heap.size + 1 := hsz1
        have HGZ1 : wc.heap.size ≤ W1.heap.size := by omega
        have hmx : us.length + 1 ≤ maxLen := by unfold maxLen; omega
        have hbx : (us.length + 1) * 112 ≤ 140737488355328 := by omega
        have hnv : v.ownBlock ≠ some (w.heap.size + 2) := fun e => by have := HOW.out.lt _ e; omega
        have HNV := Lib.hid hnv
        have HZ1 := Lib.hid hz1
        clear hnv hun hb1 hsz1 hz1 xf k0 k1 k2 k3 k4 k5 k6 k7
        go_region_law (first
          | (rw [if_pos (by simp [Region.wanted])]; go_simp; go_at_call 40; (with_reducible refine (HIH.out _ HWR1.out.drew).mono ?_); rintro e w3 ⟨hb3, k0, ty, b0, i0, tx, a5', n5, c5', a6', n6, c6', h0, rfl, hd3⟩; have HB3 := Lib.hid hb3; have HD3 := Lib.hid hd3; have q6 := cell_below hb3 c6; have qf := (hb3.frozen (p := ⟨w.heap.size + 2, 6, none⟩) lp).trans f6; have hz3 : W1.heap.size ≤ w3.heap.size := hb3.size; have lq : w.heap.size + 2 < w3.heap.size := Nat.lt_of_lt_of_le lp hz3; clear hb3 hd3; (try go_simp))
          | (refine step_append_lies _ (by rfl) _ _ _ (by rfl) wc.heap.size 26 i26 _ 8 112 Tryz.underlying24 hi26 hz26 hs26 hb26 rfl (by omega) v us.length _ (by rfl) ((owns_laterV HOW.out.drew HB3.out).alloc _) ⟨w3.heap.size, 0, none⟩ 1 1 [.int .i64 k0, .string ty, .int .u64 b0, .int .u64 i0, .string tx, .slice a5' n5 c5', .slice a6' n6 c6', .int .i64 h0] (by rfl) (by rfl) (World.news_of_block (cs := #[.int .i64 k0, .string ty, .int .u64 b0, .int .u64 i0, .string tx, .slice a5' n5 c5', .slice a6' n6 c6', .int .i64 h0]) (t := 26) (fr := (0, 0)) (heap_alloc_new w3 _)) (by simp [Value.oneCell']) (by omega) hmx hbx (by simp; omega) (w3.heap.size + 1) (by simp) ?_; intro gg cap w6 hown6 hgrow6 hat6 hlt6; have bS6 : w6.heap[w.heap.size + 2]? = w3.heap[w.heap.size + 2]? := (hgrow6.block _ (by simp; omega) (fun e => HNV.out e.symm)).trans (Below.heap_alloc w3 _ _ lq); have u6 := cell_block bS6 q6; have uf := (frozen_block (o := 6) bS6).trans qf; clear bS6))
        all_goals
          have hb3' : Below W1.heap.size W1 w3 := ((Below.refl _ _).drew).next HB3.out
          have hz1 := HZ1.out
          have hpush : DRow wc.heap.size vn (.slice (some ⟨gg, 0, none⟩) (us.length + 1) cap) (us ++ [.agg #[.int .i64 k0, .string ty, .int .u64 b0, .int .u64 i0, .string tx, .slice a5' n5 c5', .slice a6' n6 c6', .int .i64 h0]]) (rawL (l.take i) ++ [rawV z]) w6 :=
            HD1.out.push hb3' rfl HD3.out HGZ1 (Below.new _) hown6 hgrow6 (by rcases hat6 with h | h; exact .inl h; right; omega) (fun k h => by have := (HM.out.nr.lt k h).2; omega)
          have HDN : Hid (DRow wc.heap.size vn (.slice (some ⟨gg, 0, none⟩) (us.length + 1) cap) (us ++ [.agg #[.int .i64 k0, .string ty, .int .u64 b0, .int .u64 i0, .string tx, .slice a5' n5 c5', .slice a6' n6 c6', .int .i64 h0]]) (rawL (l.take (i + 1))) (w6.setCell ⟨w.heap.size + 2, 6, none⟩ (.slice (some ⟨gg, 0, none⟩) (us.length + 1) cap))) := by
            show DRow _ _ _ _ _ _
            rw [List.take_succ_eq_append_getElem hil, HZE.out, rawL_snoc]
            exact hpush.keep (fun k hk hlo _ => Below.heap_setCell _ _ _ _ (by show k ≠ w.heap.size + 2; omega)) (by simp)
          have HGN : Hid (wc.grownBy (w6.setCell ⟨w.heap.size + 2, 6, none⟩ (.slice (some ⟨gg, 0, none⟩) (us.length + 1) cap)) (some (w.heap.size + 2))) :=
            grown_put (grown_row (grown_below HG1.out (hb3'.push _)) hgrow6 (fun k hk => (HOW.out.lt k hk).1)) 6 _
          have bS6 : w6.heap[w.heap.size + 2]? = w3.heap[w.heap.size + 2]? := (hgrow6.block _ (by simp; omega) (fun e => HNV.out e.symm)).trans (Below.heap_alloc w3 _ _ lq)
          have HBN := Lib.hid (((HBL1.out.below hb3').keep bS6).put6 (.slice (some ⟨gg, 0, none⟩) (us.length + 1) cap))
          have HUN : Hid ((us ++ [Value.agg #[.int .i64 k0, .string ty, .int .u64 b0, .int .u64 i0, .string tx, .slice a5' n5 c5', .slice a6' n6 c6', .int .i64 h0]]).length = i + 1) := by show _ = _; rw [List.length_append, List.length_singleton, HU.out]
          clear hpush bS6 hown6 hgrow6 hat6 hlt6 u6 uf q6 qf c6 f6 hb3' hz1
          go_wp2_with fail
          go_roundw
          case rel => exact ⟨i + 1, _, _, by go_num, by omega, HUN, HDN, HBN, HGN⟩
          case measure => simp [intOf]; omega
      · obtain rfl : i = ps.length := by omega
        have HDall : Hid (DRow wc.heap.size vn v us (rawL l) wr) := by
          have := HD.out
          rw [List.take_of_length_le (by have := HLL.out; omega)] at this
          exact Lib.hid this
        have HNR : Hid (wr.ownsRow (w.heap.size + 3) 9 1 vn (namesOf d).length ((namesOf d).map Value.string)) := by
          refine Lib.hid (owns_blockV HM.out.nr fun g hg => HG.out.block g (HM.out.nr.lt g hg).2 (fun e => ?_))
          have := (HM.out.nr.lt g hg).1
          injection e with e
          omega
        have HBR : Hid (Blk wr (w.heap.size + 1) (.int .i64 0) (.string ⟨#[]⟩) (.int .u64 0) (.int .u64 0) (.string ⟨#[]⟩) (.slice none 0 0) (.slice none 0 0) (.int .i64 0)) := by
          refine Lib.hid (HM.out.br.keep (HG.out.block _ (by omega) (fun e => ?_)))
          injection e with e
          omega
        have HBX : Hid (BoxD wr w.heap.size d a5 c5 a6 c6) := by
          refine Lib.hid (HM.out.box.keep (HG.out.block _ (by omega) (fun e => ?_)))
          injection e with e
          omega
        have k0 := HBX.out.k0
        by_cases h21 : d.kind = 21
        · have e21 : (d.kind == 21) = true := by simp [h21]
          have H21 := Lib.hid h21
          clear h21
          have c6 : wr.cell? ⟨w.heap.size + 1 + 1, 6, none⟩ = some v := HBL.out.c6
          have HKM : Hid (∃ m, l.length = 2 * m) := by
            have := HF.out
            unfold formB at this
            rw [if_neg (by rw [H21.out]; decide), if_pos H21.out] at this
            simp only [Bool.and_eq_true, decide_eq_true_eq] at this
            have h2 := this.2.2
            rw [HPS.out] at h2
            exact Lib.hid ⟨ps.length / 2, by have := HLL.out; omega⟩
          have HSrt : Hid (Calls Tryz.prog 65 #[v] wr (SrtD wr wc.heap.size vn (rawL (flat (sortP (pairs l)))))) := by
            obtain ⟨m, hm⟩ := HKM.out
            have hkl : keysL d.parts = true ∧ d.parts.length % 2 = 0 := by
              have := HF.out
              unfold formB at this
              rw [if_neg (by rw [H21.out]; decide), if_pos H21.out] at this
              simp only [Bool.and_eq_true, decide_eq_true_eq] at this
              exact this.2
            have hml : mkL d.parts = some l := HL.out
            have hvr : ∀ y ∈ l, VR y := fun y hy => by
              obtain ⟨j, hj, rfl⟩ := List.getElem_of_mem hy
              have hj' : j < d.parts.length := by rw [← mkL_length _ hml]; exact hj
              have hdr := HDR.out
              cases hdr with
              | mk _ _ _ _ _ _ _ _ hp => exact mkV_rng _ (hp _ (List.getElem_mem hj')) _ (mkL_get hml j hj' hj)
            refine Lib.hid (in_srt HDall.out hm (by have := HLL.out; omega) (by omega) (fun k hk => by have := (HNR.out.lt k hk).2; omega) (keyd_mk hml hkl.1 hkl.2) (fun x hx => hvr _ (mem_pairs l x hx).1) ((raw_great HX.out h18 hml).2 H21.out))
          have lp : w.heap.size + 1 + 1 < wr.heap.size := World.block_lt_of_cell? wr _ c6
          go_wp2_with fail
          refine HSrt.out.mono ?_
          rintro e w5 ⟨hB5, a', n', c', us', rfl, hD5⟩
          have HB5 := Lib.hid hB5
          have HD5 := Lib.hid hD5
          have u6 := cell_below hB5 c6
          have uf : w5.frozen? ⟨w.heap.size + 1 + 1, 6, none⟩ = false := (hB5.frozen (p := ⟨w.heap.size + 1 + 1, 6, none⟩) lp).trans (HBL.out.f 6)
          clear hB5 hD5 c6 k0
          go_upto_region 29 with fail
          clear u6 uf
          have HWf : Hid (Below w.heap.size w (w5.setCell ⟨w.heap.size + 1 + 1, 6, none⟩ (.slice a' n' c'))) := (HWR.out.next HB5.out).setCell (p := ⟨w.heap.size + 1 + 1, 6, none⟩) (by show _ ≤ w.heap.size + 1 + 1; omega) _
          have hkp5 : ∀ k, k ≠ w.heap.size + 2 → (w5.setCell ⟨w.heap.size + 1 + 1, 6, none⟩ (.slice a' n' c')).heap[k]? = w5.heap[k]? := fun k hk => Below.heap_setCell _ _ _ _ (by show k ≠ w.heap.size + 1 + 1; omega)
          have HDf : Hid (DRow wc.heap.size vn (.slice a' n' c') us' (rawL (flat (sortP (pairs l)))) (w5.setCell ⟨w.heap.size + 1 + 1, 6, none⟩ (.slice a' n' c'))) := HD5.out.keep (fun k _ hlo _ => hkp5 k (by omega)) (by simp)
          have HNRf : Hid ((w5.setCell ⟨w.heap.size + 1 + 1, 6, none⟩ (.slice a' n' c')).ownsRow (w.heap.size + 3) 9 1 vn (namesOf d).length ((namesOf d).map Value.string)) := owns_blockV (owns_laterV HNR.out HB5.out) fun g hg => hkp5 g (by have := (HNR.out.lt g hg).1; omega)
          have HBRf : Hid (Blk (w5.setCell ⟨w.heap.size + 1 + 1, 6, none⟩ (.slice a' n' c')) (w.heap.size + 1) (.int .i64 0) (.string ⟨#[]⟩) (.int .u64 0) (.int .u64 0) (.string ⟨#[]⟩) (.slice none 0 0) (.slice none 0 0) (.int .i64 0)) := (HBR.out.below HB5.out).keep (hkp5 _ (by omega))
          have HBPf : Hid (Blk (w5.setCell ⟨w.heap.size + 1 + 1, 6, none⟩ (.slice a' n' c')) (w.heap.size + 2) (.int .i64 d.kind) (.string d.type) (.int .u64 (bitsOf d)) (.int .u64 0) (.string ⟨#[]⟩) vn (.slice a' n' c') (.int .i64 d.hook)) := (HBL.out.below HB5.out).put6 _
          clear hkp5
          generalize w5.setCell ⟨w.heap.size + 1 + 1, 6, none⟩ (.slice a' n' c') = W6 at HWf HDf HNRf HBRf HBPf ⊢
          obtain ⟨an, cn, ap, cp, rfl, ev, hfin⟩ := in_fin (d := d) (bits := bitsOf d) HDf.out HNRf.out HSZ
          injection ev with ev1 ev2 ev3
          subst ev1 ev2 ev3
          have HFin := Lib.hid hfin
          obtain ⟨r0, r1, r2, r3, r4, r5, r6, r7, rf⟩ := HBRf.out
          have rf0 := rf 0
          have rf1 := rf 1
          have rf2 := rf 2
          have rf3 := rf 3
          have rf4 := rf 4
          have rf5 := rf 5
          have rf6 := rf 6
          have rf7 := rf 7
          obtain ⟨s0, s1, s2, s3, s4, s5, s6, s7, sf⟩ := HBPf.out
          clear rf sf hfin
          go_wp2_with fail
          change bodyPost Tryz.prog Tryz.f40 _ _ _ (st8 W6 (w.heap.size + 1) (.int .i64 d.kind) (.string d.type) (.int .u64 (bitsOf d)) (.int .u64 0) (.string ⟨#[]⟩) (.slice an (namesOf d).length cn) (.slice a' (rawL (flat (sortP (pairs l)))).length c') (.int .i64 d.hook))
          have hb3 := Blk.put W6 (w.heap.size + 1) HBRf.out (.int .i64 d.kind) (.string d.type) (.int .u64 (bitsOf d)) (.int .u64 0) (.string ⟨#[]⟩) (.slice an (namesOf d).length cn) (.slice a' (rawL (flat (sortP (pairs l)))).length c') (.int .i64 d.hook)
          have HBW := Lib.hid (st8_below HWf.out (by omega : w.heap.size ≤ w.heap.size + 1) (.int .i64 d.kind) (.string d.type) (.int .u64 (bitsOf d)) (.int .u64 0) (.string ⟨#[]⟩) (.slice an (namesOf d).length cn) (.slice a' (rawL (flat (sortP (pairs l)))).length c') (.int .i64 d.hook))
          have HKP := Lib.hid (fun k (hk : k ≠ w.heap.size + 1) => st8_other (w := W6) (b := w.heap.size + 1) (u0 := .int .i64 d.kind) (u1 := .string d.type) (u2 := .int .u64 (bitsOf d)) (u3 := .int .u64 0) (u4 := .string ⟨#[]⟩) (u5 := .slice an (namesOf d).length cn) (u6 := .slice a' (rawL (flat (sortP (pairs l)))).length c') (u7 := .int .i64 d.hook) hk)
          generalize st8 W6 (w.heap.size + 1) (.int .i64 d.kind) (.string d.type) (.int .u64 (bitsOf d)) (.int .u64 0) (.string ⟨#[]⟩) (.slice an (namesOf d).length cn) (.slice a' (rawL (flat (sortP (pairs l)))).length c') (.int .i64 d.hook) = W9 at hb3 HBW HKP ⊢
          clear r0 r1 r2 r3 r4 r5 r6 r7 rf0 rf1 rf2 rf3 rf4 rf5 rf6 rf7 s0 s1 s2 s3 s4 s5 s6 s7
          have zc0 := hb3.c0
          have zc1 := hb3.c1
          have zc2 := hb3.c2
          have zc3 := hb3.c3
          have zc4 := hb3.c4
          have zc5 := hb3.c5
          have zc6 := hb3.c6
          have zc7 := hb3.c7
          refine bodyPost_ret (v := .agg #[.int .i64 d.kind, .string d.type, .int .u64 (bitsOf d), .int .u64 0, .string ⟨#[]⟩, .slice an (namesOf d).length cn, .slice a' (rawL (flat (sortP (pairs l)))).length c', .int .i64 d.hook]) (by simp [results, Tryz.f40, go_sem, zc0, zc1, zc2, zc3, zc4, zc5, zc6, zc7]) rfl ?_
          refine ⟨HBW.out, _, rfl, ?_⟩
          obtain ⟨hrx, _⟩ := raw_great HX.out h18 HL.out
          obtain ⟨hk, hb, hi, ht, htx, hh⟩ := HK.out
          rw [hrx, if_pos H21.out]
          refine HFin.out W9 HKP.out hk (bits_rng hb) hh ht (names_rng HN.out).1 (names_rng HN.out).2 ?_
          have := HLL.out
          unfold cap47
          rw [rawL_length, flat_sorted_len HKM.out]
          omega
        · have e21 : (d.kind == 21) = false := by simpa using h21
          have H21 := Lib.hid h21
          clear h21
          obtain ⟨an, cn, ap, cp, rfl, rfl, hfin⟩ := in_fin (d := d) (bits := bitsOf d) HDall.out HNR.out HSZ
          have HFin := Lib.hid hfin
          have HBRf := Lib.hid HBR.out
          have HBPf := Lib.hid HBL.out
          have HWf := Lib.hid HWR.out
          obtain ⟨r0, r1, r2, r3, r4, r5, r6, r7, rf⟩ := HBRf.out
          have rf0 := rf 0
          have rf1 := rf 1
          have rf2 := rf 2
          have rf3 := rf 3
          have rf4 := rf 4
          have rf5 := rf 5
          have rf6 := rf 6
          have rf7 := rf 7
          obtain ⟨s0, s1, s2, s3, s4, s5, s6, s7, sf⟩ := HBPf.out
          clear rf sf hfin
          go_wp2_with fail
          change bodyPost Tryz.prog Tryz.f40 _ _ _ (st8 wr (w.heap.size + 1) (.int .i64 d.kind) (.string d.type) (.int .u64 (bitsOf d)) (.int .u64 0) (.string ⟨#[]⟩) (.slice an (namesOf d).length cn) (.slice ap (rawL l).length cp) (.int .i64 d.hook))
          have hb3 := Blk.put wr (w.heap.size + 1) HBRf.out (.int .i64 d.kind) (.string d.type) (.int .u64 (bitsOf d)) (.int .u64 0) (.string ⟨#[]⟩) (.slice an (namesOf d).length cn) (.slice ap (rawL l).length cp) (.int .i64 d.hook)
          have HBW := Lib.hid (st8_below HWf.out (by omega : w.heap.size ≤ w.heap.size + 1) (.int .i64 d.kind) (.string d.type) (.int .u64 (bitsOf d)) (.int .u64 0) (.string ⟨#[]⟩) (.slice an (namesOf d).length cn) (.slice ap (rawL l).length cp) (.int .i64 d.hook))
          have HKP := Lib.hid (fun k (hk : k ≠ w.heap.size + 1) => st8_other (w := wr) (b := w.heap.size + 1) (u0 := .int .i64 d.kind) (u1 := .string d.type) (u2 := .int .u64 (bitsOf d)) (u3 := .int .u64 0) (u4 := .string ⟨#[]⟩) (u5 := .slice an (namesOf d).length cn) (u6 := .slice ap (rawL l).length cp) (u7 := .int .i64 d.hook) hk)
          generalize st8 wr (w.heap.size + 1) (.int .i64 d.kind) (.string d.type) (.int .u64 (bitsOf d)) (.int .u64 0) (.string ⟨#[]⟩) (.slice an (namesOf d).length cn) (.slice ap (rawL l).length cp) (.int .i64 d.hook) = W9 at hb3 HBW HKP ⊢
          clear r0 r1 r2 r3 r4 r5 r6 r7 rf0 rf1 rf2 rf3 rf4 rf5 rf6 rf7 s0 s1 s2 s3 s4 s5 s6 s7
          have zc0 := hb3.c0
          have zc1 := hb3.c1
          have zc2 := hb3.c2
          have zc3 := hb3.c3
          have zc4 := hb3.c4
          have zc5 := hb3.c5
          have zc6 := hb3.c6
          have zc7 := hb3.c7
          refine bodyPost_ret (v := .agg #[.int .i64 d.kind, .string d.type, .int .u64 (bitsOf d), .int .u64 0, .string ⟨#[]⟩, .slice an (namesOf d).length cn, .slice ap (rawL l).length cp, .int .i64 d.hook]) (by simp [results, Tryz.f40, go_sem, zc0, zc1, zc2, zc3, zc4, zc5, zc6, zc7]) rfl ?_
          refine ⟨HBW.out, _, rfl, ?_⟩
          obtain ⟨hrx, _⟩ := raw_great HX.out h18 HL.out
          obtain ⟨hk, hb, hi, ht, htx, hh⟩ := HK.out
          rw [hrx, if_neg H21.out]
          refine HFin.out W9 HKP.out hk (bits_rng hb) hh ht (names_rng HN.out).1 (names_rng HN.out).2 ?_
          have := HLL.out
          unfold cap47
          rw [rawL_length]
          omega
end Go.Proofs.YtkpfeodffhfejaaGreatDoor
