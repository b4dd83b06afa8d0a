/- What stands behind a print whose arguments are left: bad's Extra. Condition: at most 1000 texts, of 2^40 bytes in all. -/
import Derived.Test.YtnalppgjbllehaaGreatDoorL01
import Derived.Test.YtnalppgjbllehaaGreatDoorL34
namespace Go.Proofs.YtnalppgjbllehaaGreatDoor
set_option linter.unusedVariables false
set_option linter.unusedSimpArgs false
open Go.RowKit

/-- Texts in a row. -/
def TextsAt (w : World) (b : Nat) (l : List ByteArray) : Prop := ∀ i (h : i < l.length), w.cell? ⟨b, i, none⟩ = some (.string l[i])
theorem TextsAt.below {w w' : World} {b : Nat} {l : List ByteArray} (h : TextsAt w b l) (hb : Below w.heap.size w w') : TextsAt w' b l := fun i hi => cell_below hb (h i hi)
def pairB (l m : List ByteArray) : List ByteArray := List.zipWith (fun x y => x ++ ⟨#[61]⟩ ++ y) l m
def extraB (l m : List ByteArray) : ByteArray := insideB ⟨#[]⟩ [⟨#[69, 88, 84, 82, 65, 32]⟩, joinB (pairB l m) ⟨#[44, 32]⟩]
theorem pairB_len (l m : List ByteArray) (h : m.length = l.length) : (pairB l m).length = l.length := by simp [pairB, h]
theorem pairB_get (l m : List ByteArray) (i : Nat) (h1 : i < l.length) (h2 : i < m.length) (h3 : i < (pairB l m).length) : (pairB l m)[i] = l[i] ++ ⟨#[61]⟩ ++ m[i] := by simp [pairB]
theorem owns_block {w w' : World} {lo : Nat} {e : TypeId} {size : Nat} {v : Value} {n : Nat} {xs : List Value} (h : w.ownsRow lo e size v n xs) (hb : ∀ g, v.ownBlock = some g → w'.heap[g]? = w.heap[g]?) : w'.ownsRow lo e size v n xs := by
  obtain ⟨h1, h2⟩ := h
  refine ⟨h1, ?_⟩
  rcases h2 with h2 | ⟨g, cap, cur, e1, e2, e3, e4⟩
  · exact .inl h2
  · exact .inr ⟨g, cap, cur, e1, e2, by rw [hb g (by rw [e1]; rfl)]; exact e3, e4⟩
theorem owns_later {w w' : World} {lo : Nat} {e : TypeId} {size : Nat} {v : Value} {n : Nat} {xs : List Value} (h : w.ownsRow lo e size v n xs) (hb : Below w.heap.size w w') : w'.ownsRow lo e size v n xs := owns_block h fun g hg => hb.block g (h.lt g hg).2
theorem owns_texts {w : World} {lo : Nat} {v : Value} {l : List ByteArray} (h : w.ownsRow lo 9 1 v l.length (l.map Value.string)) (h0 : 0 < l.length) : ∃ g cap, v = .slice (some ⟨g, 0, none⟩) l.length cap ∧ lo ≤ g ∧ g < w.heap.size ∧ l.length ≤ cap ∧ TextsAt w g l := by
  rcases h.2 with ⟨_, e⟩ | ⟨g, cap, cur, rfl, hg, hb, hc, _⟩
  · omega
  · refine ⟨g, cap, rfl, hg, (h.lt g rfl).2, hc, fun i hi => ?_⟩
    have := h.cells (g := g) rfl i (.string l[i]) (by simp [List.getElem?_eq_getElem hi])
    have e : (⟨g, 0, none⟩ : Addr).add i = ⟨g, i, none⟩ := by unfold Addr.add; split <;> simp_all
    rw [e] at this
    exact this
theorem join_le : ∀ (xs : List (List UInt8)) (sep : List UInt8), (Lib.join xs sep).length ≤ (xs.map (·.length)).sum + xs.length * sep.length
  | [], sep => by simp [Lib.join_nil]
  | x :: r, sep => by
    rw [Lib.join_cons, List.length_append, Lib.joinTail_length]
    simp only [Lib.lens, List.map_cons, List.sum_cons, List.length_cons, Nat.succ_mul]
    have : sep.length * r.length = r.length * sep.length := Nat.mul_comm _ _
    omega
theorem size_list (x : ByteArray) : x.data.toList.length = x.size := by simp
theorem joinB_size (xs : List ByteArray) (sep : ByteArray) : (joinB xs sep).size ≤ (xs.map (·.size)).sum + xs.length * sep.size := by
  have := join_le (xs.map (·.data.toList)) sep.data.toList
  have e : (joinB xs sep).size = (Lib.join (xs.map (·.data.toList)) sep.data.toList).length := by
    show (Lib.join (xs.map (·.data.toList)) sep.data.toList).toArray.size = _
    simp
  rw [e]
  simp only [List.map_map, List.length_map, size_list] at this
  have e2 : (xs.map ((fun x => x.length) ∘ fun x : ByteArray => x.data.toList)) = xs.map (·.size) := List.map_congr_left fun x _ => size_list x
  rw [e2] at this
  exact this
set_option maxHeartbeats 4000000 in
set_option maxRecDepth 1000000 in
theorem extra_any (l m : List ByteArray) (b1 c1 b2 c2 : Nat) (w : World) (h1 : TextsAt w b1 l) (h2 : TextsAt w b2 m) (hm : m.length = l.length) (h0 : 0 < l.length) (hN : l.length ≤ 1000) (hc1 : l.length ≤ c1) (hc2 : l.length ≤ c2)
    (hs : ((pairB l m).map (·.size)).sum ≤ 1099511627776) (hx : ∀ x ∈ l, x.size ≤ 1099511627776) (hy : ∀ x ∈ m, x.size ≤ 1099511627776) :
    Calls Tryz.prog 28 #[.slice (some ⟨b1, 0, none⟩) l.length c1, .slice (some ⟨b2, 0, none⟩) l.length c2] w (Ret w (.string (extraB l m))) := by
  have H1 := Lib.hid h1
  have H2 := Lib.hid h2
  have HM := Lib.hid hm
  have HS := Lib.hid hs
  have HX := Lib.hid hx
  have HY := Lib.hid hy
  obtain ⟨i9, hi9, hz9, hs9, hb9⟩ := info_parts vinfo9
  have hN2 : l.length ≤ 9223372036854775807 := by omega
  obtain ⟨r, hr⟩ : ∃ r, extraB l m = r := ⟨_, rfl⟩
  rw [hr]
  have HR := Lib.hid hr
  clear h1 h2 hm hs hx hy hr
  go_enter Tryz.func28, Tryz.ntmps28
  go_wp2_with fail
  go_loopw [5, 6, 12] (fun vv _ kk wr => ∃ (i : Nat) (v : Value), v = vv ∧ kk = .int .i64 (i : Int) ∧ i ≤ l.length ∧ Hid (wr.ownsRow w.heap.size 9 1 v i (((pairB l m).take i).map Value.string)) ∧ Hid (Below w.heap.size w wr)) (fun _ _ kk _ => l.length - (intOf kk).toNat)
  case atStart => exact ⟨0, _, rfl, rfl, Nat.zero_le _, ⟨rfl, .inl ⟨rfl, rfl⟩⟩, Below.refl _ _⟩
  case round =>
    obtain ⟨i, v, rfl, rfl, hi, HO, HB⟩ := hrel
    by_cases hin : i < l.length
    · have hin2 : i < m.length := by have := HM.out; omega
      have hin3 : i < (pairB l m).length := by rw [pairB_len l m HM.out]; exact hin
      have k1 := cell_below HB.out (H1.out i hin)
      have k2 := cell_below HB.out (H2.out i hin2)
      have hxs := HX.out _ (List.getElem_mem hin)
      have hys := HY.out _ (List.getElem_mem hin2)
      have HP : Hid ((pairB l m)[i] = l[i] ++ ⟨#[61]⟩ ++ m[i]) := pairB_get l m i hin hin2 hin3
      obtain ⟨x, hx⟩ : ∃ x, l[i] = x := ⟨_, rfl⟩
      obtain ⟨y, hy⟩ : ∃ y, m[i] = y := ⟨_, rfl⟩
      rw [hx] at k1 hxs HP
      rw [hy] at k2 hys HP
      have e1 : (⟨#[61]⟩ : ByteArray).size = 1 := rfl
      have s1 : x.size + (⟨#[61]⟩ : ByteArray).size ≤ 9223372036854775807 := by omega
      have s2 : (x ++ ⟨#[61]⟩ : ByteArray).size + y.size ≤ 9223372036854775807 := by rw [ByteArray.size_append]; omega
      have HTK : Hid ((((pairB l m).take i).map Value.string) ++ [.string (x ++ ⟨#[61]⟩ ++ y)] = ((pairB l m).take (i + 1)).map Value.string) := by
        show _ = _
        rw [List.take_succ_eq_append_getElem hin3, List.map_append, HP.out]; rfl
      have s3 : ¬ 9223372036854775807 < x.size + 1 := by omega
      have s4 : ¬ 9223372036854775807 < x.size + 1 + y.size := by omega
      clear e1 hx hy HP hin2 hin3
      have hmx : i + 1 ≤ maxLen := by unfold maxLen; omega
      have hbx : (i + 1) * 16 ≤ 140737488355328 := by omega
      have hBz := HB.out.size
      go_wp2_with fail
      go_region_law (first
        | (refine step_append_lies _ (by rfl) _ _ _ (by rfl) w.heap.size 9 i9 _ 1 16 Tryz.underlying26 hi9 hz9 hs9 hb9 rfl (by omega) v i _ (by rfl) (HO.out.drew.alloc _) ⟨wr.heap.size, 0, none⟩ 1 1 [.string (x ++ ⟨#[61]⟩ ++ y)] (by rfl) (by rfl) (World.news_of_block (cs := #[.string (x ++ ⟨#[61]⟩ ++ y)]) (t := 9) (fr := (0, 0)) (heap_alloc_new wr.drew _)) (by simp [Value.oneCell']) (by omega) hmx hbx (by simp; omega) (wr.heap.size + 1) (by simp) ?_; intro gg cap w6 hown6 hgrow6 hat6 hlt6))
      all_goals
        have HOwn6 : Hid (w6.ownsRow w.heap.size 9 1 (.slice (some ⟨gg, 0, none⟩) (i + 1) cap) (i + 1) (((pairB l m).take (i + 1)).map Value.string)) := by
          show World.ownsRow _ _ _ _ _ _ _
          rw [← HTK.out]; exact hown6
        have HB6 : Hid (Below w.heap.size w w6) := (HB.out.drew.push _).grown hgrow6 (by simp; omega) (fun k hk => (HO.out.lt k hk).1)
        clear hown6 hgrow6 hat6 hlt6 k1 k2
        go_wp2_with fail
        go_roundw
        case rel => exact ⟨i + 1, _, rfl, by go_num, by omega, HOwn6, HB6⟩
        case measure => simp [intOf]; omega
    · obtain rfl : i = l.length := by omega
      have hlen := pairB_len l m HM.out
      have HO2 : Hid (wr.ownsRow w.heap.size 9 1 v (pairB l m).length ((pairB l m).map Value.string)) := by
        have := HO.out
        rw [List.take_of_length_le (by omega)] at this
        rw [hlen]
        exact Lib.hid this
      obtain ⟨g, cap, rfl, g1, g2, g3, g4⟩ := owns_texts HO2.out (by omega)
      have hjs : (joinB (pairB l m) ⟨#[44, 32]⟩).size ≤ 1099511630000 := by
        have h1 := joinB_size (pairB l m) ⟨#[44, 32]⟩
        have h2 := HS.out
        have e : (⟨#[44, 32]⟩ : ByteArray).size = 2 := rfl
        rw [e, hlen] at h1
        omega
      have HJ : Hid (Calls Tryz.prog 17 #[.slice (some ⟨g, 0, none⟩) (pairB l m).length cap, .string ⟨#[44, 32]⟩] wr (Ret wr (.string (joinB (pairB l m) ⟨#[44, 32]⟩)))) := by
        refine Tryz.strings_Join g 0 cap (pairB l m) ⟨#[44, 32]⟩ wr (fun j x hx => ?_) g2 (by omega) g3 ?_
        · obtain ⟨hj, rfl⟩ := List.getElem?_eq_some_iff.1 hx
          rw [Nat.zero_add]
          exact g4 j hj
        · have e : (joinB (pairB l m) ⟨#[44, 32]⟩).size = (Lib.join ((pairB l m).map (·.data.toList)) (⟨#[44, 32]⟩ : ByteArray).data.toList).length := by
            show (Lib.join ((pairB l m).map (·.data.toList)) (⟨#[44, 32]⟩ : ByteArray).data.toList).toArray.size = _
            simp
          rw [← e]
          omega
      have HLEN := Lib.hid hlen
      have HR2 : Hid (insideB ⟨#[]⟩ [⟨#[69, 88, 84, 82, 65, 32]⟩, joinB (pairB l m) ⟨#[44, 32]⟩] = r) := HR.out
      obtain ⟨J, hJ⟩ : ∃ J, joinB (pairB l m) ⟨#[44, 32]⟩ = J := ⟨_, rfl⟩
      rw [hJ] at HJ HR2 hjs
      rw [hlen] at HJ ⊢
      clear hJ g1 g2 g3 g4 hlen
      go_wp2_with fail
      refine HJ.out.mono ?_
      rintro e w1 ⟨rfl, hB1⟩
      have HB1 := Lib.hid (HB.out.next hB1)
      clear hB1
      go_wp2_with fail
      refine (inside_any ⟨#[]⟩ w1.heap.size 2 [⟨#[69, 88, 84, 82, 65, 32]⟩, J] _ (two_cells w1 _ _ _) (by simp) (by simp) (Nat.le_refl _) (by decide) ?_).mono ?_
      · have := joinB_size [⟨#[69, 88, 84, 82, 65, 32]⟩, J] ⟨#[]⟩
        have e1 : (⟨#[69, 88, 84, 82, 65, 32]⟩ : ByteArray).size = 6 := rfl
        have e2 : (⟨#[]⟩ : ByteArray).size = 0 := rfl
        simp only [List.map_cons, List.map_nil, List.sum_cons, List.sum_nil, e1, e2, Nat.mul_zero] at this
        omega
      · rintro e w2 ⟨rfl, hB2⟩
        have HB2 := Lib.hid ((HB1.out.push (.cells #[.string ⟨#[69, 88, 84, 82, 65, 32]⟩, .string J] 9)).next hB2)
        clear hB2
        go_wp2_with fail
        go_ret
        exact ⟨by rw [← HR2.out]; rfl, HB2.out⟩
end Go.Proofs.YtnalppgjbllehaaGreatDoor

/- Texts for what went wrong, with the verb: bad's Missing, Index, Nil. No condition. -/
namespace Go.Proofs.YtnalppgjbllehaaGreatDoor
set_option linter.unusedVariables false
set_option linter.unusedSimpArgs false
open Go.RowKit

theorem encode_size (n : Int) : (Utf8.encode n).size ≤ 4 := by
  unfold Utf8.encode
  split
  · dsimp only
    split
    · show 1 ≤ 4; omega
    · split
      · show 2 ≤ 4; omega
      · split
        · show 3 ≤ 4; omega
        · show 4 ≤ 4; omega
  · show 3 ≤ 4; omega
set_option maxRecDepth 1000000 in
theorem rune_any (c : Int) (w : World) : Calls Tryz.prog 79 #[.int .i32 c] w (fun e w' => e = .returned (.string (Utf8.encode c)) ∧ w = w') := by
  go_enter Tryz.func79, Tryz.ntmps79
  go_wp2_with fail
  go_ret
  exact ⟨rfl, rfl⟩
def badMissingB (c : Int) : ByteArray := insideB (Utf8.encode c) [⟨#[77, 73, 83, 83, 73, 78, 71]⟩]
set_option maxHeartbeats 4000000 in
set_option maxRecDepth 1000000 in
theorem badMissing_any (c : Int) (w : World) : Calls Tryz.prog 48 #[.int .i32 c] w (Ret w (.string (badMissingB c))) := by
  have HR := Lib.hid (rune_any c)
  have HE := Lib.hid (encode_size c)
  obtain ⟨v, hv⟩ : ∃ v, Utf8.encode c = v := ⟨_, rfl⟩
  have hb : badMissingB c = insideB v [⟨#[77, 73, 83, 83, 73, 78, 71]⟩] := by unfold badMissingB; rw [hv]
  rw [hb]
  rw [hv] at HR HE
  clear hb hv
  go_enter Tryz.func48, Tryz.ntmps48
  go_wp2_with fail
  refine (HR.out w).mono ?_
  rintro e w2 ⟨rfl, rfl⟩
  go_wp2_with fail
  refine (inside_any v w.heap.size 1 [⟨#[77, 73, 83, 83, 73, 78, 71]⟩] _ (one_cells w _ _) (by simp) (by simp) (Nat.le_refl _) (by have := HE.out; omega) (by decide)).mono ?_
  rintro e w1 ⟨rfl, hB⟩
  have HB := Lib.hid ((Below.new (w := w) (.cells #[.string ⟨#[77, 73, 83, 83, 73, 78, 71]⟩] 9)).next hB)
  clear hB
  go_wp2_with fail
  go_ret
  exact ⟨rfl, HB.out⟩
def badIndexB (c : Int) : ByteArray := insideB (Utf8.encode c) [⟨#[66, 65, 68, 73, 78, 68, 69, 88]⟩]
set_option maxHeartbeats 4000000 in
set_option maxRecDepth 1000000 in
theorem badIndex_any (c : Int) (w : World) : Calls Tryz.prog 50 #[.int .i32 c] w (Ret w (.string (badIndexB c))) := by
  have HR := Lib.hid (rune_any c)
  have HE := Lib.hid (encode_size c)
  obtain ⟨v, hv⟩ : ∃ v, Utf8.encode c = v := ⟨_, rfl⟩
  have hb : badIndexB c = insideB v [⟨#[66, 65, 68, 73, 78, 68, 69, 88]⟩] := by unfold badIndexB; rw [hv]
  rw [hb]
  rw [hv] at HR HE
  clear hb hv
  go_enter Tryz.func50, Tryz.ntmps50
  go_wp2_with fail
  refine (HR.out w).mono ?_
  rintro e w2 ⟨rfl, rfl⟩
  go_wp2_with fail
  refine (inside_any v w.heap.size 1 [⟨#[66, 65, 68, 73, 78, 68, 69, 88]⟩] _ (one_cells w _ _) (by simp) (by simp) (Nat.le_refl _) (by have := HE.out; omega) (by decide)).mono ?_
  rintro e w1 ⟨rfl, hB⟩
  have HB := Lib.hid ((Below.new (w := w) (.cells #[.string ⟨#[66, 65, 68, 73, 78, 68, 69, 88]⟩] 9)).next hB)
  clear hB
  go_wp2_with fail
  go_ret
  exact ⟨rfl, HB.out⟩
def badNilB (c : Int) : ByteArray := insideB (Utf8.encode c) [⟨#[60, 110, 105, 108, 62]⟩]
set_option maxHeartbeats 4000000 in
set_option maxRecDepth 1000000 in
theorem badNil_any (c : Int) (w : World) : Calls Tryz.prog 86 #[.int .i32 c] w (Ret w (.string (badNilB c))) := by
  have HR := Lib.hid (rune_any c)
  have HE := Lib.hid (encode_size c)
  obtain ⟨v, hv⟩ : ∃ v, Utf8.encode c = v := ⟨_, rfl⟩
  have hb : badNilB c = insideB v [⟨#[60, 110, 105, 108, 62]⟩] := by unfold badNilB; rw [hv]
  rw [hb]
  rw [hv] at HR HE
  clear hb hv
  go_enter Tryz.func86, Tryz.ntmps86
  go_wp2_with fail
  refine (HR.out w).mono ?_
  rintro e w2 ⟨rfl, rfl⟩
  go_wp2_with fail
  refine (inside_any v w.heap.size 1 [⟨#[60, 110, 105, 108, 62]⟩] _ (one_cells w _ _) (by simp) (by simp) (Nat.le_refl _) (by have := HE.out; omega) (by decide)).mono ?_
  rintro e w1 ⟨rfl, hB⟩
  have HB := Lib.hid ((Below.new (w := w) (.cells #[.string ⟨#[60, 110, 105, 108, 62]⟩] 9)).next hB)
  clear hB
  go_wp2_with fail
  go_ret
  exact ⟨rfl, HB.out⟩
end Go.Proofs.YtnalppgjbllehaaGreatDoor
