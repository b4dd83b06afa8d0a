/- A format is cut into pieces: parse's Parse. It wants the tables of utf8 and a format of at most a million bytes. -/
import Derived.Test.YtnalppgjbllehaaGreatDoorL08
import Derived.Test.YtnalppgjbllehaaGreatDoorL20
namespace Go.Proofs.YtnalppgjbllehaaGreatDoor
set_option linter.unusedVariables false
set_option linter.unusedSimpArgs false
open Go.RowKit

/-- How many bytes stand ahead of the first percent sign. -/
def cutP (t : ByteArray) : Nat := if Lib.indexByte t.data.toList 37 < 0 then t.size else (Lib.indexByte t.data.toList 37).toNat
def parseF : Nat → ByteArray → List PieceD
  | 0, _ => []
  | n + 1, t =>
    if t.size = 0 then []
    else if 0 < cutP t then { pieceZ with text := t.extract 0 (cutP t) } :: parseF n (t.extract (cutP t) t.size)
    else (dirD (drop1 t)).piece :: parseF n (dirD (drop1 t)).rest
/-- A format's pieces. -/
def parseD (t : ByteArray) : List PieceD := parseF t.size t
def flatP : List PieceD → List Value
  | [] => []
  | p :: l => (pieceCells p).toList ++ flatP l
theorem flatP_append : ∀ a b : List PieceD, flatP (a ++ b) = flatP a ++ flatP b
  | [], b => rfl
  | x :: a, b => by rw [List.cons_append, flatP, flatP, flatP_append a b, List.append_assoc]
theorem flatP_one (p : PieceD) : flatP [p] = (pieceCells p).toList := by unfold flatP flatP; rw [List.append_nil]
theorem indexByte_lt (l : List UInt8) (c : UInt8) (h : 0 ≤ Lib.indexByte l c) : (Lib.indexByte l c).toNat < l.length := by
  have h2 : Lib.indexByte l c = ((Lib.indexByte l c).toNat : Int) := by omega
  have h1 := (Lib.indexByte_some h2).1
  exact (List.getElem?_eq_some_iff.1 h1).1
theorem cutP_le (t : ByteArray) : cutP t ≤ t.size := by
  unfold cutP
  split
  · exact Nat.le_refl _
  · have := indexByte_lt t.data.toList 37 (by omega)
    rw [Array.length_toList] at this
    exact Nat.le_of_lt this
theorem drop1_size (t : ByteArray) : (drop1 t).size = t.size - 1 := by unfold drop1; rw [ByteArray.size_extract]; omega
theorem dirD_rest_eq (t : ByteArray) : (dirD t).rest = (dir4 (dir3 (dir2 (dir1 t)))).rest := by
  unfold dirD
  generalize dir4 (dir3 (dir2 (dir1 t))) = d
  rfl
theorem dirD_rest_le (t : ByteArray) : (dirD t).rest.size ≤ t.size := by
  rw [dirD_rest_eq]
  exact dir_le t
theorem pinfo : (Tryz.prog.info? 67).map (fun i => (i.zero, i.size, i.bytes)) = some (some (.agg #[.int .i64 0, .string ⟨#[]⟩, .bool false, .bool false, .bool false, .bool false, .bool false, .int .i64 0, .int .i64 0, .int .i32 0, .int .i64 0, .int .i64 0, .int .i64 0, .int .i64 0, .int .i64 0, .int .i64 0, .int .i64 0, .int .i64 0, .int .i64 0, .int .i64 0]), 20, 136) := by kernel_rfl

/-- The loop of Parse: what is done, and what is left. -/
structure ParseAt (w : World) (t : ByteArray) (u : ByteArray) (v : Value) (l : List PieceD) (f : Nat) (wr : World) : Prop where
  eq : parseD t = l ++ parseF f u
  fuel : u.size ≤ f
  room : l.length + u.size ≤ t.size
  own : wr.ownsRow w.heap.size 67 20 v l.length (flatP l)
  lo : Below w.heap.size w wr
theorem ParseAt.lit {w wr w' : World} {t u : ByteArray} {v v' : Value} {l : List PieceD} {f : Nat} (h : ParseAt w t u v l f wr) (h0 : u.size ≠ 0) (hc : 0 < cutP u)
    (ho : w'.ownsRow w.heap.size 67 20 v' (l.length + 1) (flatP l ++ (pieceCells { pieceZ with text := u.extract 0 (cutP u) }).toList)) (hb : Below w.heap.size w w') :
    ParseAt w t (u.extract (cutP u) u.size) v' (l ++ [{ pieceZ with text := u.extract 0 (cutP u) }]) (f - 1) w' := by
  have h1 := cutP_le u
  have h2 := h.fuel
  have h3 := h.room
  have hs : (u.extract (cutP u) u.size).size = u.size - cutP u := by rw [ByteArray.size_extract]; omega
  refine ⟨?_, by omega, ?_, ?_, hb⟩
  · rw [h.eq]
    obtain ⟨n, rfl⟩ : ∃ n, f = n + 1 := ⟨f - 1, by omega⟩
    rw [Nat.add_sub_cancel, List.append_assoc, parseF, if_neg h0, if_pos hc]
    rfl
  · rw [List.length_append, List.length_singleton]; omega
  · rw [List.length_append, List.length_singleton, flatP_append, flatP_one]; exact ho
theorem ParseAt.dir {w wr w' : World} {t u : ByteArray} {v v' : Value} {l : List PieceD} {f : Nat} (h : ParseAt w t u v l f wr) (h0 : u.size ≠ 0) (hc : ¬ 0 < cutP u)
    (ho : w'.ownsRow w.heap.size 67 20 v' (l.length + 1) (flatP l ++ (pieceCells (dirD (drop1 u)).piece).toList)) (hb : Below w.heap.size w w') :
    ParseAt w t (dirD (drop1 u)).rest v' (l ++ [(dirD (drop1 u)).piece]) (f - 1) w' := by
  have h1 := dirD_rest_le (drop1 u)
  have h4 := drop1_size u
  have h2 := h.fuel
  have h3 := h.room
  refine ⟨?_, by omega, ?_, ?_, hb⟩
  · rw [h.eq]
    obtain ⟨n, rfl⟩ : ∃ n, f = n + 1 := ⟨f - 1, by omega⟩
    rw [Nat.add_sub_cancel, List.append_assoc, parseF, if_neg h0, if_neg hc]
    rfl
  · rw [List.length_append, List.length_singleton]; omega
  · rw [List.length_append, List.length_singleton, flatP_append, flatP_one]; exact ho
theorem ParseAt.done {w wr : World} {t u : ByteArray} {v : Value} {l : List PieceD} {f : Nat} (h : ParseAt w t u v l f wr) (h0 : u.size = 0) : l = parseD t := by
  rw [h.eq]
  cases f with
  | zero => rw [parseF, List.append_nil]
  | succ n => rw [parseF, if_pos h0, List.append_nil]
theorem ParseAt.start (w : World) (t : ByteArray) : ParseAt w t t (.slice none 0 0) [] t.size w :=
  ⟨rfl, Nat.le_refl _, by simp, ⟨rfl, .inl ⟨rfl, rfl⟩⟩, Below.refl _ _⟩
def ParsePost (w : World) (t : ByteArray) (e : Ending) (w' : World) : Prop := ∃ v, e = .returned v ∧ w'.ownsRow w.heap.size 67 20 v (parseD t).length (flatP (parseD t)) ∧ Below w.heap.size w w'
end Go.Proofs.YtnalppgjbllehaaGreatDoor

/- A format is cut into pieces: parse's Parse (the walk). It wants the tables of utf8 and a format of at most a million bytes. -/
namespace Go.Proofs.YtnalppgjbllehaaGreatDoor
set_option linter.unusedVariables false
set_option linter.unusedSimpArgs false
open Go.RowKit

set_option maxHeartbeats 4000000 in
set_option maxRecDepth 1000000 in
theorem parse_any (t : ByteArray) (w : World) (hT : Lib.Utf8Tabs 1 2 w) (hs : t.size ≤ 1000000) :
    Calls Tryz.prog 20 #[.string t] w (ParsePost w t) := by
  have HT := Lib.hid hT
  clear hT
  obtain ⟨i0, hi0, hz0, hz1, hz2⟩ := info_parts pinfo
  go_enter Tryz.func20, Tryz.ntmps20
  go_wp2_with fail
  go_loopw [0, 3] (fun t0 v3 wr => ∃ (u : ByteArray) (l : List PieceD) (f : Nat), t0 = .string u ∧ Hid (ParseAt w t u v3 l f wr)) (fun t0 _ _ => match t0 with | .string u => u.size | _ => 0)
  case atStart => exact ⟨t, [], t.size, rfl, ParseAt.start w t⟩
  case round =>
    obtain ⟨u, l, f, rfl, HP⟩ := hrel
    have hru := HP.out.room
    by_cases h0 : u.size = 0
    · have e1 := isEmpty_size u h0
      have H0 := Lib.hid h0
      go_wp2_with fail
      go_ret
      have hd := HP.out.done H0.out
      refine ⟨_, rfl, ?_, HP.out.lo⟩
      rw [← hd]
      exact HP.out.own
    · have e1 := isEmpty_size' u h0
      have H0 := Lib.hid h0
      go_wp2_with fail
      refine (Tryz.strings_IndexByte u 37 wr).mono ?_
      rintro e wx ⟨rfl, rfl⟩
      obtain ⟨q, hq⟩ : ∃ q, Lib.indexByte u.data.toList 37 = q := ⟨_, rfl⟩
      rw [show Lib.indexByte u.data.toList ((37 : Int).toNat.toUInt8) = q from hq]
      obtain ⟨n, hn⟩ : ∃ n, cutP u = n := ⟨_, rfl⟩
      have hqn : (q < 0 ∧ n = u.size) ∨ (0 ≤ q ∧ q = (n : Int) ∧ n < u.size) := by
        rw [← hn]
        unfold cutP
        rw [hq]
        by_cases hq0 : q < 0
        · rw [if_pos hq0]; exact .inl ⟨hq0, rfl⟩
        · rw [if_neg hq0]
          have := indexByte_lt u.data.toList 37 (by rw [hq]; omega)
          rw [hq, Array.length_toList] at this
          have h2 : u.data.size = u.size := rfl
          exact .inr ⟨by omega, by omega, by omega⟩
      have hnle : n ≤ u.size := by omega
      have HN := Lib.hid hn
      clear hq hn
      go_upto_if 12 with fail
      go_cut [4] (fun v4 wy => v4 = .int .i64 (n : Int) ∧ wy = wx)
      case first =>
        rcases hqn with ⟨h1, h2⟩ | ⟨h1, h2, h3⟩
        · go_wp2_with fail
          go_meet
          exact ⟨by first | rfl | rw [h2], rfl⟩
        · have h4 : ¬ q < 0 := by omega
          go_wp2_with fail
          go_meet
          exact ⟨by first | rfl | rw [h2], rfl⟩
      case rest =>
      obtain ⟨rfl, rfl⟩ := hcut
      apply_assumption
      by_cases hn0 : 0 < n
      · have HO := Lib.hid (HP.out.own.alloc (.cells #[.int .i64 0, .string (u.extract 0 n), .bool false, .bool false, .bool false, .bool false, .bool false, .int .i64 0, .int .i64 0, .int .i32 0, .int .i64 0, .int .i64 0, .int .i64 0, .int .i64 0, .int .i64 0, .int .i64 0, .int .i64 0, .int .i64 0, .int .i64 0, .int .i64 0] 67))
        have hbase : w.heap.size ≤ (wc.alloc (.cells #[.int .i64 0, .string (u.extract 0 n), .bool false, .bool false, .bool false, .bool false, .bool false, .int .i64 0, .int .i64 0, .int .i32 0, .int .i64 0, .int .i64 0, .int .i64 0, .int .i64 0, .int .i64 0, .int .i64 0, .int .i64 0, .int .i64 0, .int .i64 0, .int .i64 0] 67)).heap.size := by have := HP.out.lo.size; simp; omega
        go_wp2_with (at_builtin; refine wpList_append_one _ rfl (.tmp 17) (.tmp 22) 58 rfl w.heap.size 67 i0 _ 20 136 Tryz.underlying58 hi0 hz0 hz1 hz2 rfl (by decide) _ _ _ rfl HO.out ⟨wc.heap.size, 0, none⟩ 1 [.int .i64 0, .string (u.extract 0 n), .bool false, .bool false, .bool false, .bool false, .bool false, .int .i64 0, .int .i64 0, .int .i32 0, .int .i64 0, .int .i64 0, .int .i64 0, .int .i64 0, .int .i64 0, .int .i64 0, .int .i64 0, .int .i64 0, .int .i64 0, .int .i64 0] rfl rfl ?c1 ?c2 ?c3 ?c4 hbase ?_)
        case c1 => exact World.news_of_block (cs := #[.int .i64 0, .string (u.extract 0 n), .bool false, .bool false, .bool false, .bool false, .bool false, .int .i64 0, .int .i64 0, .int .i32 0, .int .i64 0, .int .i64 0, .int .i64 0, .int .i64 0, .int .i64 0, .int .i64 0, .int .i64 0, .int .i64 0, .int .i64 0, .int .i64 0]) (t := 67) (fr := (0, 0)) (heap_alloc_new wc _)
        case c2 => simp [Value.oneCell']
        case c3 => unfold maxLen; omega
        case c4 => omega
        intro v' w4 hown' hgrow hlast
        have HP4 : Hid (ParseAt w t (u.extract n u.size) v' (l ++ [{ pieceZ with text := u.extract 0 n }]) (f - 1) w4) := by
          have hb := below_grown (HP.out.lo.push (.cells #[.int .i64 0, .string (u.extract 0 n), .bool false, .bool false, .bool false, .bool false, .bool false, .int .i64 0, .int .i64 0, .int .i32 0, .int .i64 0, .int .i64 0, .int .i64 0, .int .i64 0, .int .i64 0, .int .i64 0, .int .i64 0, .int .i64 0, .int .i64 0, .int .i64 0] 67)) hgrow HO.out hbase
          have h := HP.out.lit (w' := w4) (v' := v') H0.out (by rw [HN.out]; exact hn0) (by rw [HN.out]; exact hown') hb
          rw [HN.out] at h
          exact Lib.hid h
        have hsz : (u.extract n u.size).size = u.size - n := by rw [ByteArray.size_extract]; omega
        clear hown' hgrow hlast HO HP hqn
        go_wp2_with fail
        go_roundw
        case rel => exact ⟨_, _, _, rfl, HP4⟩
        case measure => show (u.extract n u.size).size < u.size; omega
      · obtain rfl : n = 0 := by omega
        have h1 : 1 ≤ u.size := by omega
        have HT2 := Lib.hid (Utf8Tabs.below HT.out (Utf8Tabs.two HT.out) HP.out.lo)
        have hd1 := drop1_size u
        have HDI : Hid (∀ W, Lib.Utf8Tabs 1 2 W → Calls Tryz.prog 43 #[.string (u.extract 1 u.size)] W (fun e w' => e = .returned (.tuple #[.agg (pieceCells (dirD (drop1 u)).piece), .string (dirD (drop1 u)).rest]) ∧ Below W.heap.size W w')) := by
          show ∀ _, _
          intro W hW
          exact directive_any (drop1 u) W hW (by omega)
        have hrl := dirD_rest_le (drop1 u)
        obtain ⟨⟨q5, u5⟩, hd⟩ : ∃ y, dirD (drop1 u) = y := ⟨_, rfl⟩
        rw [hd] at HDI hrl
        have HDD := Lib.hid hd
        clear hd hqn
        go_wp2_with fail
        refine (HDI.out _ HT2.out).mono ?_
        rintro e w5 ⟨rfl, hb5⟩
        have HB5 := Lib.hid hb5
        clear hb5 HDI
        have HNW := Lib.hid (heap_alloc_new w5 (.cells #[.int .i64 0, .string ⟨#[]⟩, .bool false, .bool false, .bool false, .bool false, .bool false, .int .i64 0, .int .i64 0, .int .i32 0, .int .i64 0, .int .i64 0, .int .i64 0, .int .i64 0, .int .i64 0, .int .i64 0, .int .i64 0, .int .i64 0, .int .i64 0, .int .i64 0] 67))
        go_upto_region 10 with (refine wpList_store_row (by rfl) 67 _ _ (by rfl) w5.heap.size (pieceCells q5) (by rfl) (by rfl) 67 #[.int .i64 0, .string ⟨#[]⟩, .bool false, .bool false, .bool false, .bool false, .bool false, .int .i64 0, .int .i64 0, .int .i32 0, .int .i64 0, .int .i64 0, .int .i64 0, .int .i64 0, .int .i64 0, .int .i64 0, .int .i64 0, .int .i64 0, .int .i64 0, .int .i64 0] HNW.out (piece_size q5) (by rfl) (pieceCells_one q5) ?_)
        rw [World.setRow_alloc_new]
        have HNW2 := Lib.hid (heap_alloc_new w5 (.cells (pieceCells q5) 67))
        have HB6 := Lib.hid (Below.new (w := w5) (.cells (pieceCells q5) 67))
        obtain ⟨b5, hb5⟩ : ∃ b, w5.heap.size = b := ⟨_, rfl⟩
        have HBB := Lib.hid hb5
        rw [hb5] at HNW2 ⊢
        clear hb5
        generalize w5.alloc (.cells (pieceCells q5) 67) = W6 at HNW2 HB6 ⊢
        have HNW3 : Hid (W6.heap[b5]? = some (.cells #[.int .i64 q5.kind, .string q5.text, .bool q5.spec.plus, .bool q5.spec.minus, .bool q5.spec.sharp, .bool q5.spec.space, .bool q5.spec.zero, .int .i64 q5.spec.wid, .int .i64 q5.spec.prec, .int .i32 q5.spec.verb, .int .i64 q5.wid.kind, .int .i64 q5.wid.n, .int .i64 q5.wid.arg.kind, .int .i64 q5.wid.arg.n, .int .i64 q5.prec.kind, .int .i64 q5.prec.n, .int .i64 q5.prec.arg.kind, .int .i64 q5.prec.arg.n, .int .i64 q5.arg.kind, .int .i64 q5.arg.n] 67 (0, 0))) := HNW2
        have HO5 := Lib.hid ((owns_laterV (owns_laterV HP.out.own HB5.out) HB6.out).alloc (.cells #[.int .i64 q5.kind, .string q5.text, .bool q5.spec.plus, .bool q5.spec.minus, .bool q5.spec.sharp, .bool q5.spec.space, .bool q5.spec.zero, .int .i64 q5.spec.wid, .int .i64 q5.spec.prec, .int .i32 q5.spec.verb, .int .i64 q5.wid.kind, .int .i64 q5.wid.n, .int .i64 q5.wid.arg.kind, .int .i64 q5.wid.arg.n, .int .i64 q5.prec.kind, .int .i64 q5.prec.n, .int .i64 q5.prec.arg.kind, .int .i64 q5.prec.arg.n, .int .i64 q5.arg.kind, .int .i64 q5.arg.n] 67))
        have hbl : Below w.heap.size w (W6.alloc (.cells #[.int .i64 q5.kind, .string q5.text, .bool q5.spec.plus, .bool q5.spec.minus, .bool q5.spec.sharp, .bool q5.spec.space, .bool q5.spec.zero, .int .i64 q5.spec.wid, .int .i64 q5.spec.prec, .int .i32 q5.spec.verb, .int .i64 q5.wid.kind, .int .i64 q5.wid.n, .int .i64 q5.wid.arg.kind, .int .i64 q5.wid.arg.n, .int .i64 q5.prec.kind, .int .i64 q5.prec.n, .int .i64 q5.prec.arg.kind, .int .i64 q5.prec.arg.n, .int .i64 q5.arg.kind, .int .i64 q5.arg.n] 67)) := (HP.out.lo.next (HB5.out.next HB6.out)).push _
        have hbase : w.heap.size ≤ (W6.alloc (.cells #[.int .i64 q5.kind, .string q5.text, .bool q5.spec.plus, .bool q5.spec.minus, .bool q5.spec.sharp, .bool q5.spec.space, .bool q5.spec.zero, .int .i64 q5.spec.wid, .int .i64 q5.spec.prec, .int .i32 q5.spec.verb, .int .i64 q5.wid.kind, .int .i64 q5.wid.n, .int .i64 q5.wid.arg.kind, .int .i64 q5.wid.arg.n, .int .i64 q5.prec.kind, .int .i64 q5.prec.n, .int .i64 q5.prec.arg.kind, .int .i64 q5.prec.arg.n, .int .i64 q5.arg.kind, .int .i64 q5.arg.n] 67)).heap.size := hbl.size
        have HBL := Lib.hid hbl
        clear hbl
        go_wp2_with (first
          | (at_builtin; refine wpList_append_one _ rfl (.tmp 33) (.tmp 35) 58 rfl w.heap.size 67 i0 _ 20 136 Tryz.underlying58 hi0 hz0 hz1 hz2 rfl (by decide) _ _ _ rfl HO5.out ⟨W6.heap.size, 0, none⟩ 1 [.int .i64 q5.kind, .string q5.text, .bool q5.spec.plus, .bool q5.spec.minus, .bool q5.spec.sharp, .bool q5.spec.space, .bool q5.spec.zero, .int .i64 q5.spec.wid, .int .i64 q5.spec.prec, .int .i32 q5.spec.verb, .int .i64 q5.wid.kind, .int .i64 q5.wid.n, .int .i64 q5.wid.arg.kind, .int .i64 q5.wid.arg.n, .int .i64 q5.prec.kind, .int .i64 q5.prec.n, .int .i64 q5.prec.arg.kind, .int .i64 q5.prec.arg.n, .int .i64 q5.arg.kind, .int .i64 q5.arg.n] rfl rfl ?c1 ?c2 ?c3 ?c4 hbase ?_)
          | (refine wpList_load_row (by rfl) 67 _ (by rfl) b5 (by rfl) 67 #[.int .i64 q5.kind, .string q5.text, .bool q5.spec.plus, .bool q5.spec.minus, .bool q5.spec.sharp, .bool q5.spec.space, .bool q5.spec.zero, .int .i64 q5.spec.wid, .int .i64 q5.spec.prec, .int .i32 q5.spec.verb, .int .i64 q5.wid.kind, .int .i64 q5.wid.n, .int .i64 q5.wid.arg.kind, .int .i64 q5.wid.arg.n, .int .i64 q5.prec.kind, .int .i64 q5.prec.n, .int .i64 q5.prec.arg.kind, .int .i64 q5.prec.arg.n, .int .i64 q5.arg.kind, .int .i64 q5.arg.n] (0, 0) _ ?_ Tryz.underlying67 (by rfl) (by kernel_rfl) ?_; (with_reducible exact HNW3.out)))
        case c1 => exact World.news_of_block (cs := #[.int .i64 q5.kind, .string q5.text, .bool q5.spec.plus, .bool q5.spec.minus, .bool q5.spec.sharp, .bool q5.spec.space, .bool q5.spec.zero, .int .i64 q5.spec.wid, .int .i64 q5.spec.prec, .int .i32 q5.spec.verb, .int .i64 q5.wid.kind, .int .i64 q5.wid.n, .int .i64 q5.wid.arg.kind, .int .i64 q5.wid.arg.n, .int .i64 q5.prec.kind, .int .i64 q5.prec.n, .int .i64 q5.prec.arg.kind, .int .i64 q5.prec.arg.n, .int .i64 q5.arg.kind, .int .i64 q5.arg.n]) (t := 67) (fr := (0, 0)) (heap_alloc_new W6 _)
        case c2 => simp [Value.oneCell']
        case c3 => unfold maxLen; omega
        case c4 => omega
        intro v' w7 hown' hgrow hlast
        have HP4 : Hid (ParseAt w t u5 v' (l ++ [q5]) (f - 1) w7) := by
          have hb := below_grown HBL.out hgrow HO5.out hbase
          have h := HP.out.dir (w' := w7) (v' := v') H0.out (by rw [HN.out]; exact hn0) (by rw [HDD.out]; exact hown') hb
          rw [HDD.out] at h
          exact Lib.hid h
        have hlt : u5.size < u.size := by have h : u5.size ≤ (drop1 u).size := hrl; omega
        clear hown' hgrow hlast HO5 HP HBL hbase HNW3
        go_wp2_with fail
        go_roundw
        case rel => exact ⟨_, _, _, rfl, HP4⟩
        case measure => show u5.size < u.size; omega
end Go.Proofs.YtnalppgjbllehaaGreatDoor
