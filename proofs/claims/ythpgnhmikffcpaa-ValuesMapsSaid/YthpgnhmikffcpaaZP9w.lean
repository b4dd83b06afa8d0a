/- A map's keys rise, however they were handed in: the law's walk. No condition. -/
import Derived.Test.YthpgnhmikffcpaaZQN
import Derived.Test.YthpgnhmikffcpaaZQJ
import Derived.Test.YthpgnhmikffcpaaZQK
import Derived.Deep.CutBlock
import Derived.Test.YthpgnhmikffcpaaZSM
import Derived.Test.YthpgnhmikffcpaaZRD
import Derived.Deep.DeepCutAuto
namespace Go.Proofs.Ythpgnhmikffcpaa
set_option linter.unusedVariables false
set_option linter.unusedSimpArgs false
open Go.RowKit

/-- The cells of descriptors without parts. -/
def cells8 : List D → List Value
  | [] => []
  | d :: l => cellsOfV (aggD d none 0 none 0) ++ cells8 l
theorem cells8_append : ∀ a b : List D, cells8 (a ++ b) = cells8 a ++ cells8 b
  | [], b => rfl
  | x :: a, b => by simp only [List.cons_append, cells8, cells8_append a b, List.append_assoc]
theorem cells8_length : ∀ a : List D, (cells8 a).length = a.length * 8
  | [] => rfl
  | x :: a => by simp only [cells8, List.length_append, cells8_length a, List.length_cons]; simp [cellsOfV, aggD]; omega
theorem cells8_get : ∀ (l : List D) (i : Nat) (h : i < l.length) (j : Nat), j < 8 → (cells8 l)[i * 8 + j]? = (cellsOfV (aggD l[i] none 0 none 0))[j]?
  | x :: l, 0, h, j, hj => by
    simp only [cells8, List.getElem_cons_zero]
    rw [List.getElem?_append_left (by simp [cellsOfV, aggD]; omega), Nat.zero_mul, Nat.zero_add]
  | x :: l, i + 1, h, j, hj => by
    simp only [cells8, List.getElem_cons_succ]
    have e8 : (cellsOfV (aggD x none 0 none 0)).length = 8 := by simp [cellsOfV, aggD]
    rw [List.getElem?_append_right (by omega), e8, show (i + 1) * 8 + j - 8 = i * 8 + j by omega]
    exact cells8_get l i (by simpa using h) j hj
/-- A descriptor without names and parts. -/
def Bare (d : D) : Prop := d.names = [] ∧ d.parts = []
theorem fwd_bare (f : Nat → D) : ∀ n, ∀ d ∈ fwdP f n, Bare d
  | 0, d, h => by cases h
  | n + 1, d, h => by
    rcases List.mem_append.1 h with h | h
    · exact fwd_bare f n d h
    · simp at h
      rcases h with h | h
      · subst h; unfold keyD; split <;> exact ⟨rfl, rfl⟩
      · subst h; exact ⟨rfl, rfl⟩
theorem bck_bare (f : Nat → D) : ∀ n, ∀ d ∈ bckP f n, Bare d
  | 0, d, h => by cases h
  | n + 1, d, h => by
    simp only [bckP, List.mem_cons] at h
    rcases h with h | h | h
    · subst h; unfold keyD; split <;> exact ⟨rfl, rfl⟩
    · subst h; exact ⟨rfl, rfl⟩
    · exact bck_bare f n d h
theorem bare_is {W : World} {d : D} (hb : Bare d) (hr : DR d) : IsD W (aggD d none 0 none 0) d := by
  cases hr with
  | mk _ hk hbb hi hh ht hx hn hp =>
    obtain ⟨b1, b2⟩ := hb
    refine IsD.mk d none 0 none 0 0 0 hk hbb hi hh ht hx ⟨by rw [b1]; exact Nat.le_refl _, by rw [b1]; simp, 0, 0, fun h => by rw [b1] at h; simp at h, fun i h => by rw [b1] at h; simp at h, fun x h => by rw [b1] at h; cases h⟩ (by rw [b2]; exact Nat.le_refl _) (by rw [b2]; simp) (fun h => by rw [b2] at h; simp at h) (fun i h => by rw [b2] at h; simp at h)
/-- An own row of such descriptors, as the parts of a descriptor. -/
theorem bare_parts {W : World} {lo : Nat} {v : Value} {ds : List D} (h : W.ownsRow lo 26 8 v ds.length (cells8 ds)) (hb : ∀ d ∈ ds, Bare d) (hr : ∀ d ∈ ds, DR d) (hc : ds.length ≤ cap47) : ∃ a c, v = .slice a ds.length c ∧ PartsAt W a c ds := by
  by_cases h0 : 0 < ds.length
  · obtain ⟨g, cap, rfl, e2, e3, e4, e5, e6⟩ := owns_cell h h0
    refine ⟨_, cap, rfl, e4, hc, g, 0, fun _ => rfl, fun i hi => ?_⟩
    have hcell : ∀ j, j < 8 → W.cell? ⟨g, 0 + i * 8 + j, none⟩ = (cellsOfV (aggD ds[i] none 0 none 0))[j]? := by
      intro j hj
      rw [← cells8_get ds i hi j hj, Nat.zero_add]
      have hlt : i * 8 + j < (cells8 ds).length := by rw [cells8_length]; omega
      rw [List.getElem?_eq_getElem hlt]
      have := h.cells (g := g) rfl _ _ (List.getElem?_eq_getElem hlt)
      rw [add_lit, Nat.zero_add] at this
      exact this
    have q0 := hcell 0 (by omega)
    have q1 := hcell 1 (by omega)
    have q2 := hcell 2 (by omega)
    have q3 := hcell 3 (by omega)
    have q4 := hcell 4 (by omega)
    have q5 := hcell 5 (by omega)
    have q6 := hcell 6 (by omega)
    have q7 := hcell 7 (by omega)
    simp only [cellsOfV, aggD, List.getElem?_cons_zero, List.getElem?_cons_succ, Nat.add_zero] at q0 q1 q2 q3 q4 q5 q6 q7
    have : rowD W g (0 + i * 8) = aggD ds[i] none 0 none 0 := by
      simp only [rowD, q0, q1, q2, q3, q4, q5, q6, q7]; rfl
    rw [this]
    exact bare_is (hb _ (List.getElem_mem _)) (hr _ (List.getElem_mem _))
  · have hn : ds = [] := List.eq_nil_of_length_eq_zero (by omega)
    subst hn
    rcases h.2 with ⟨rfl, _⟩ | ⟨g, cap, cur, rfl, _, _, e4, _⟩
    · exact ⟨none, 0, rfl, PartsAt.nil W⟩
    · exact ⟨_, cap, rfl, Nat.zero_le _, by simp, 0, 0, fun h => by simp at h, fun i h => by simp at h⟩
theorem key_dr {i : Nat} {x : D} (h : DR x) : DR (keyD i x) := by
  cases h with
  | mk _ hk hb hi hh ht hx hn hp =>
    unfold keyD
    split
    · exact .mk _ (show I64 6 from ⟨by decide, by decide⟩) hb U64_0 I64_0 cap_0 cap_0 (fun _ h => by cases h) (fun _ h => by cases h)
    · exact .mk _ (show I64 16 from ⟨by decide, by decide⟩) U64_0 U64_0 I64_0 cap_0 ht (fun _ h => by cases h) (fun _ h => by cases h)
theorem cnt_dr {i : Nat} (h : i < 1000) : DR (cntD i) := .mk _ (show I64 11 from ⟨by decide, by decide⟩) (show U64 (i : Int) from ⟨by omega, by omega⟩) U64_0 I64_0 cap_0 cap_0 (fun _ h => by cases h) (fun _ h => by cases h)
theorem fwd_dr {f : Nat → D} : ∀ n, n < 1000 → (∀ i, i < n → DR (f i)) → ∀ d ∈ fwdP f n, DR d
  | 0, _, _, d, h => by cases h
  | n + 1, hn, hf, d, h => by
    rcases List.mem_append.1 h with h | h
    · exact fwd_dr n (by omega) (fun i hi => hf i (by omega)) d h
    · simp at h
      rcases h with h | h
      · subst h; exact key_dr (hf n (by omega))
      · subst h; exact cnt_dr (by omega)
theorem bck_dr {f : Nat → D} : ∀ n, n < 1000 → (∀ i, i < n → DR (f i)) → ∀ d ∈ bckP f n, DR d
  | 0, _, _, d, h => by cases h
  | n + 1, hn, hf, d, h => by
    simp only [bckP, List.mem_cons] at h
    rcases h with h | h | h
    · subst h; exact key_dr (hf n (by omega))
    · subst h; exact cnt_dr (by omega)
    · exact bck_dr n (by omega) (fun i hi => hf i (by omega)) d h

theorem two_cells {i : Nat} {x : D} {kk kb : Int} {kt : ByteArray} (h : keyD i x = .mk kk ⟨#[]⟩ kb 0 kt [] [] 0) : cells8 [keyD i x, cntD i] = [.int .i64 kk, .string ⟨#[]⟩, .int .u64 kb, .int .u64 0, .string kt, .slice none 0 0, .slice none 0 0, .int .i64 0, .int .i64 11, .string ⟨#[]⟩, .int .u64 (i : Int), .int .u64 0, .string ⟨#[]⟩, .slice none 0 0, .slice none 0 0, .int .i64 0] := by
  rw [h]; rfl
theorem map_is {W : World} {a : Option Addr} {c : Nat} {ps : List D} (h : PartsAt W a c ps) : IsD W (.agg #[.int .i64 21, .string ⟨#[]⟩, .int .u64 0, .int .u64 0, .string ⟨#[]⟩, .slice none 0 0, .slice a ps.length c, .int .i64 0]) (mapD ps) := by
  obtain ⟨h1, h2, b, o, h3, h4⟩ := h
  exact IsD.mk (mapD ps) none 0 a c b o (show I64 21 from ⟨by decide, by decide⟩) U64_0 U64_0 I64_0 cap_0 cap_0 ⟨Nat.le_refl _, by simp [mapD, D.names], 0, 0, fun h => by simp [mapD, D.names] at h, fun i h => by simp [mapD, D.names] at h, fun x h => by cases h⟩ h1 h2 h3 h4
theorem flat_length2 : ∀ l : List (V × V), (flat l).length = 2 * l.length
  | [] => rfl
  | (a, b) :: l => by simp only [flat, List.length_cons, flat_length2 l]; omega
theorem cells8_one : ∀ l : List D, ∀ u ∈ cells8 l, u.oneCell' = true
  | [], u, h => by cases h
  | x :: l, u, h => by
    rcases List.mem_append.1 h with h | h
    · simp [cellsOfV, aggD] at h
      rcases h with h | h | h | h | h | h | h | h <;> (subst h; rfl)
    · exact cells8_one l u h
theorem bck_cells {f : Nat → D} {i : Nat} {kk kb : Int} {kt : ByteArray} (h : keyD i (f i) = .mk kk ⟨#[]⟩ kb 0 kt [] [] 0) : cells8 (bckP f (i + 1)) = [.int .i64 kk, .string ⟨#[]⟩, .int .u64 kb, .int .u64 0, .string kt, .slice none 0 0, .slice none 0 0, .int .i64 0, .int .i64 11, .string ⟨#[]⟩, .int .u64 (i : Int), .int .u64 0, .string ⟨#[]⟩, .slice none 0 0, .slice none 0 0, .int .i64 0] ++ cells8 (bckP f i) := by
  simp only [bckP, cells8]
  rw [h]; rfl
set_option maxHeartbeats 4000000 in
set_option maxRecDepth 100000 in
theorem maps_any {l : List D} {a : Option Addr} {c : Nat} {w : World} (h : PartsAt w a c l) : Calls Try.prog 9 #[.slice a l.length c] w fun e w' => e = .returned (.bool true) ∧ Below w.heap.size w w' := by
  obtain ⟨h1, h2, b, o, h3, h4⟩ := h
  unfold cap47 at h2
  have H3 := Lib.hid h3
  have H4 := Lib.hid h4
  clear h3 h4
  obtain ⟨i26, hi26, hz26, hs26, hb26⟩ := info_parts vinfo26
  obtain ⟨f, hf⟩ : ∃ f : Nat → D, ∀ i (h : i < l.length), f i = l[i] := ⟨fun i => if h : i < l.length then l[i] else zeroD, fun i h => by simp [h]⟩
  have HF := Lib.hid hf
  clear hf
  go_enter Try.func9, Try.ntmps9
  go_upto_block 0 with fail
  have HB1 := Lib.hid ((Blk.of (heap_alloc_new w (.cells #[.int .i64 21, .string ⟨#[]⟩, .int .u64 0, .int .u64 0, .string ⟨#[]⟩, .slice none 0 0, .slice none 0 0, .int .i64 0] 26))).below (Below.new (.cells #[.int .i64 21, .string ⟨#[]⟩, .int .u64 0, .int .u64 0, .string ⟨#[]⟩, .slice none 0 0, .slice none 0 0, .int .i64 0] 26)))
  have HB2 := Lib.hid (Blk.of (heap_alloc_new (w.alloc (.cells #[.int .i64 21, .string ⟨#[]⟩, .int .u64 0, .int .u64 0, .string ⟨#[]⟩, .slice none 0 0, .slice none 0 0, .int .i64 0] 26)) (.cells #[.int .i64 21, .string ⟨#[]⟩, .int .u64 0, .int .u64 0, .string ⟨#[]⟩, .slice none 0 0, .slice none 0 0, .int .i64 0] 26)))
  have HW0 := Lib.hid ((Below.new (w := w) (.cells #[.int .i64 21, .string ⟨#[]⟩, .int .u64 0, .int .u64 0, .string ⟨#[]⟩, .slice none 0 0, .slice none 0 0, .int .i64 0] 26)).push (.cells #[.int .i64 21, .string ⟨#[]⟩, .int .u64 0, .int .u64 0, .string ⟨#[]⟩, .slice none 0 0, .slice none 0 0, .int .i64 0] 26))
  have hsz1 : (w.alloc (.cells #[.int .i64 21, .string ⟨#[]⟩, .int .u64 0, .int .u64 0, .string ⟨#[]⟩, .slice none 0 0, .slice none 0 0, .int .i64 0] 26)).heap.size = w.heap.size + 1 := by simp
  rw [hsz1] at HB2
  have hsz2 : w.heap.size + 2 ≤ ((w.alloc (.cells #[.int .i64 21, .string ⟨#[]⟩, .int .u64 0, .int .u64 0, .string ⟨#[]⟩, .slice none 0 0, .slice none 0 0, .int .i64 0] 26)).alloc (.cells #[.int .i64 21, .string ⟨#[]⟩, .int .u64 0, .int .u64 0, .string ⟨#[]⟩, .slice none 0 0, .slice none 0 0, .int .i64 0] 26)).heap.size := by simp
  clear hsz1
  generalize (w.alloc (.cells #[.int .i64 21, .string ⟨#[]⟩, .int .u64 0, .int .u64 0, .string ⟨#[]⟩, .slice none 0 0, .slice none 0 0, .int .i64 0] 26)).alloc (.cells #[.int .i64 21, .string ⟨#[]⟩, .int .u64 0, .int .u64 0, .string ⟨#[]⟩, .slice none 0 0, .slice none 0 0, .int .i64 0] 26) = W0 at HB1 HB2 HW0 hsz2 ⊢
  go_cut [] (fun wx => ∃ (i : Nat) (v1 v2 : Value), i ≤ l.length ∧ i ≤ 12 ∧ Hid (wx.ownsRow (w.heap.size + 2) 26 8 v1 (2 * i) (cells8 (fwdP f i))) ∧ Hid (wx.ownsRow (w.heap.size + 2) 26 8 v2 (2 * i) (cells8 (bckP f i))) ∧ Hid (∀ g, v1.ownBlock = some g → v2.ownBlock ≠ some g) ∧
    Hid (Blk wx w.heap.size (.int .i64 21) (.string ⟨#[]⟩) (.int .u64 0) (.int .u64 0) (.string ⟨#[]⟩) (.slice none 0 0) v1 (.int .i64 0)) ∧ Hid (Blk wx (w.heap.size + 1) (.int .i64 21) (.string ⟨#[]⟩) (.int .u64 0) (.int .u64 0) (.string ⟨#[]⟩) (.slice none 0 0) v2 (.int .i64 0)) ∧ Hid (Below w.heap.size w wx) ∧ w.heap.size + 2 ≤ wx.heap.size)
  case first =>
    go_wp2_with fail
    go_loopw [5, 6, 7] (fun kk _ _ wx => ∃ (i : Nat) (v1 v2 : Value), kk = .int .i64 (i : Int) ∧ i ≤ l.length ∧ i ≤ 12 ∧ Hid (wx.ownsRow (w.heap.size + 2) 26 8 v1 (2 * i) (cells8 (fwdP f i))) ∧ Hid (wx.ownsRow (w.heap.size + 2) 26 8 v2 (2 * i) (cells8 (bckP f i))) ∧ Hid (∀ g, v1.ownBlock = some g → v2.ownBlock ≠ some g) ∧
    Hid (Blk wx w.heap.size (.int .i64 21) (.string ⟨#[]⟩) (.int .u64 0) (.int .u64 0) (.string ⟨#[]⟩) (.slice none 0 0) v1 (.int .i64 0)) ∧ Hid (Blk wx (w.heap.size + 1) (.int .i64 21) (.string ⟨#[]⟩) (.int .u64 0) (.int .u64 0) (.string ⟨#[]⟩) (.slice none 0 0) v2 (.int .i64 0)) ∧ Hid (Below w.heap.size w wx) ∧ w.heap.size + 2 ≤ wx.heap.size) (fun kk _ _ _ => 12 - (intOf kk).toNat)
    case atStart => exact ⟨0, _, _, rfl, Nat.zero_le _, Nat.zero_le _, ⟨rfl, .inl ⟨rfl, rfl⟩⟩, ⟨rfl, .inl ⟨rfl, rfl⟩⟩, fun g h => by simp [Value.ownBlock] at h, HB1.out, HB2.out, HW0.out, hsz2⟩
    case round =>
      obtain ⟨i, v1, v2, rfl, hi, hi12, HO1, HO2, HAP, HBA, HBB, HW, hsz⟩ := hrel
      clear HB1 HB2 HW0 hsz2
      by_cases hin : i < l.length ∧ i < 12
      · obtain ⟨hin, hi2⟩ := hin
        obtain rfl := H3.out (by omega)
        obtain ⟨x5, y5, x6, y6, hrow, hD⟩ := (H4.out i hin).row
        obtain ⟨k0, k1, k2, k3, k4, k5, k6, k7⟩ := hrow.below HW.out
        rw [← HF.out i hin] at k1 k2
        clear hrow hD k0 k3 k4 k5 k6 k7
        have hbl : b < wr.heap.size := World.block_lt_of_cell? wr _ k2
        have hpa : w.heap.size < wr.heap.size := by omega
        have hpb : w.heap.size + 1 < wr.heap.size := by omega
        by_cases hodd : i % 2 = 1
        have e2 : ((i : Int) % 2 == 1) = true := by simp; omega
        have hkd : keyD i (f i) = .mk 6 ⟨#[]⟩ (f i).bits 0 ⟨#[]⟩ [] [] 0 := by unfold keyD; rw [if_pos hodd]
        go_upto_region 9 with fail
        have hz1 : ((wr.alloc (.cells #[.int .i64 6, .string ⟨#[]⟩, .int .u64 (f i).bits, .int .u64 0, .string ⟨#[]⟩, .slice none 0 0, .slice none 0 0, .int .i64 0] 26)).alloc (.cells #[.int .i64 11, .string ⟨#[]⟩, .int .u64 (i : Int), .int .u64 0, .string ⟨#[]⟩, .slice none 0 0, .slice none 0 0, .int .i64 0] 26)).heap.size = wr.heap.size + 2 := by simp
        have hw1 : Below wr.heap.size wr ((wr.alloc (.cells #[.int .i64 6, .string ⟨#[]⟩, .int .u64 (f i).bits, .int .u64 0, .string ⟨#[]⟩, .slice none 0 0, .slice none 0 0, .int .i64 0] 26)).alloc (.cells #[.int .i64 11, .string ⟨#[]⟩, .int .u64 (i : Int), .int .u64 0, .string ⟨#[]⟩, .slice none 0 0, .slice none 0 0, .int .i64 0] 26)) := (Below.new _).push _
        have hkk : ∃ kk kb kt, keyD i (f i) = .mk kk ⟨#[]⟩ kb 0 kt [] [] 0 ∧ Blk ((wr.alloc (.cells #[.int .i64 6, .string ⟨#[]⟩, .int .u64 (f i).bits, .int .u64 0, .string ⟨#[]⟩, .slice none 0 0, .slice none 0 0, .int .i64 0] 26)).alloc (.cells #[.int .i64 11, .string ⟨#[]⟩, .int .u64 (i : Int), .int .u64 0, .string ⟨#[]⟩, .slice none 0 0, .slice none 0 0, .int .i64 0] 26)) wr.heap.size (.int .i64 kk) (.string ⟨#[]⟩) (.int .u64 kb) (.int .u64 0) (.string kt) (.slice none 0 0) (.slice none 0 0) (.int .i64 0) :=
          ⟨_, _, _, hkd, (Blk.of (heap_alloc_new wr (.cells #[.int .i64 6, .string ⟨#[]⟩, .int .u64 (f i).bits, .int .u64 0, .string ⟨#[]⟩, .slice none 0 0, .slice none 0 0, .int .i64 0] 26))).below (Below.new _)⟩
        have hcc : Blk ((wr.alloc (.cells #[.int .i64 6, .string ⟨#[]⟩, .int .u64 (f i).bits, .int .u64 0, .string ⟨#[]⟩, .slice none 0 0, .slice none 0 0, .int .i64 0] 26)).alloc (.cells #[.int .i64 11, .string ⟨#[]⟩, .int .u64 (i : Int), .int .u64 0, .string ⟨#[]⟩, .slice none 0 0, .slice none 0 0, .int .i64 0] 26)) (wr.heap.size + 1) (.int .i64 11) (.string ⟨#[]⟩) (.int .u64 (i : Int)) (.int .u64 0) (.string ⟨#[]⟩) (.slice none 0 0) (.slice none 0 0) (.int .i64 0) := by
          have := Blk.of (heap_alloc_new (wr.alloc (.cells #[.int .i64 6, .string ⟨#[]⟩, .int .u64 (f i).bits, .int .u64 0, .string ⟨#[]⟩, .slice none 0 0, .slice none 0 0, .int .i64 0] 26)) (.cells #[.int .i64 11, .string ⟨#[]⟩, .int .u64 (i : Int), .int .u64 0, .string ⟨#[]⟩, .slice none 0 0, .slice none 0 0, .int .i64 0] 26))
          simpa using this
        generalize ((wr.alloc (.cells #[.int .i64 6, .string ⟨#[]⟩, .int .u64 (f i).bits, .int .u64 0, .string ⟨#[]⟩, .slice none 0 0, .slice none 0 0, .int .i64 0] 26)).alloc (.cells #[.int .i64 11, .string ⟨#[]⟩, .int .u64 (i : Int), .int .u64 0, .string ⟨#[]⟩, .slice none 0 0, .slice none 0 0, .int .i64 0] 26)) = W1 at hz1 hw1 hkk hcc ⊢
        clear e2 hkd hodd
        rotate_left
        have e2 : ((i : Int) % 2 == 1) = false := by simp; omega
        have hkd : keyD i (f i) = .mk 16 ⟨#[]⟩ 0 0 (f i).type [] [] 0 := by unfold keyD; rw [if_neg hodd]
        go_upto_region 9 with fail
        have hz1 : ((wr.alloc (.cells #[.int .i64 16, .string ⟨#[]⟩, .int .u64 0, .int .u64 0, .string (f i).type, .slice none 0 0, .slice none 0 0, .int .i64 0] 26)).alloc (.cells #[.int .i64 11, .string ⟨#[]⟩, .int .u64 (i : Int), .int .u64 0, .string ⟨#[]⟩, .slice none 0 0, .slice none 0 0, .int .i64 0] 26)).heap.size = wr.heap.size + 2 := by simp
        have hw1 : Below wr.heap.size wr ((wr.alloc (.cells #[.int .i64 16, .string ⟨#[]⟩, .int .u64 0, .int .u64 0, .string (f i).type, .slice none 0 0, .slice none 0 0, .int .i64 0] 26)).alloc (.cells #[.int .i64 11, .string ⟨#[]⟩, .int .u64 (i : Int), .int .u64 0, .string ⟨#[]⟩, .slice none 0 0, .slice none 0 0, .int .i64 0] 26)) := (Below.new _).push _
        have hkk : ∃ kk kb kt, keyD i (f i) = .mk kk ⟨#[]⟩ kb 0 kt [] [] 0 ∧ Blk ((wr.alloc (.cells #[.int .i64 16, .string ⟨#[]⟩, .int .u64 0, .int .u64 0, .string (f i).type, .slice none 0 0, .slice none 0 0, .int .i64 0] 26)).alloc (.cells #[.int .i64 11, .string ⟨#[]⟩, .int .u64 (i : Int), .int .u64 0, .string ⟨#[]⟩, .slice none 0 0, .slice none 0 0, .int .i64 0] 26)) wr.heap.size (.int .i64 kk) (.string ⟨#[]⟩) (.int .u64 kb) (.int .u64 0) (.string kt) (.slice none 0 0) (.slice none 0 0) (.int .i64 0) :=
          ⟨_, _, _, hkd, (Blk.of (heap_alloc_new wr (.cells #[.int .i64 16, .string ⟨#[]⟩, .int .u64 0, .int .u64 0, .string (f i).type, .slice none 0 0, .slice none 0 0, .int .i64 0] 26))).below (Below.new _)⟩
        have hcc : Blk ((wr.alloc (.cells #[.int .i64 16, .string ⟨#[]⟩, .int .u64 0, .int .u64 0, .string (f i).type, .slice none 0 0, .slice none 0 0, .int .i64 0] 26)).alloc (.cells #[.int .i64 11, .string ⟨#[]⟩, .int .u64 (i : Int), .int .u64 0, .string ⟨#[]⟩, .slice none 0 0, .slice none 0 0, .int .i64 0] 26)) (wr.heap.size + 1) (.int .i64 11) (.string ⟨#[]⟩) (.int .u64 (i : Int)) (.int .u64 0) (.string ⟨#[]⟩) (.slice none 0 0) (.slice none 0 0) (.int .i64 0) := by
          have := Blk.of (heap_alloc_new (wr.alloc (.cells #[.int .i64 16, .string ⟨#[]⟩, .int .u64 0, .int .u64 0, .string (f i).type, .slice none 0 0, .slice none 0 0, .int .i64 0] 26)) (.cells #[.int .i64 11, .string ⟨#[]⟩, .int .u64 (i : Int), .int .u64 0, .string ⟨#[]⟩, .slice none 0 0, .slice none 0 0, .int .i64 0] 26))
          simpa using this
        generalize ((wr.alloc (.cells #[.int .i64 16, .string ⟨#[]⟩, .int .u64 0, .int .u64 0, .string (f i).type, .slice none 0 0, .slice none 0 0, .int .i64 0] 26)).alloc (.cells #[.int .i64 11, .string ⟨#[]⟩, .int .u64 (i : Int), .int .u64 0, .string ⟨#[]⟩, .slice none 0 0, .slice none 0 0, .int .i64 0] 26)) = W1 at hz1 hw1 hkk hcc ⊢
        clear e2 hkd hodd
        all_goals
          obtain ⟨kk, kb, kt, hkd, hkk⟩ := hkk
          have HKD := Lib.hid hkd
          have HKK := Lib.hid hkk
          have HCC := Lib.hid hcc
          have HW1 := Lib.hid hw1
          have HZ1 := Lib.hid hz1
          have a6 := cell_below hw1 HBA.out.c6
          have af6 := (hw1.frozen (p := ⟨w.heap.size, 6, none⟩) hpa).trans (HBA.out.f 6)
          obtain ⟨x0, x1, x2, x3, x4, x5', x6', x7, _⟩ := hkk
          obtain ⟨z0, z1, z2, z3, z4, z5, z6, z7, _⟩ := hcc
          have HO1' := Lib.hid (owns_later HO1.out hw1)
          have hmx : 2 * i + 2 ≤ maxLen := by unfold maxLen; omega
          have hbx : (2 * i + 2) * 112 ≤ 140737488355328 := by omega
          have HNA : Hid (v1.ownBlock ≠ some w.heap.size) := fun e => by have := (HO1.out.lt _ e).1; omega
          clear hkd hw1 hz1 k1 k2
          go_upto_region 10 with (first
            | (at_builtin; refine wpList_append_lies _ rfl (.tmp 49) (.tmp 52) 24 rfl (w.heap.size + 2) 26 i26 _ 8 112 Try.underlying24 hi26 hz26 hs26 hb26 rfl (by omega) v1 (2 * i) _ rfl (HO1'.out.alloc _) ⟨W1.heap.size, 0, none⟩ 2 2 [.int .i64 kk, .string ⟨#[]⟩, .int .u64 kb, .int .u64 0, .string kt, .slice none 0 0, .slice none 0 0, .int .i64 0, .int .i64 11, .string ⟨#[]⟩, .int .u64 (i : Int), .int .u64 0, .string ⟨#[]⟩, .slice none 0 0, .slice none 0 0, .int .i64 0] rfl rfl (World.news_of_block (cs := #[.int .i64 kk, .string ⟨#[]⟩, .int .u64 kb, .int .u64 0, .string kt, .slice none 0 0, .slice none 0 0, .int .i64 0, .int .i64 11, .string ⟨#[]⟩, .int .u64 (i : Int), .int .u64 0, .string ⟨#[]⟩, .slice none 0 0, .slice none 0 0, .int .i64 0]) (t := 26) (fr := (0, 0)) (heap_alloc_new W1 _)) (by simp [Value.oneCell']) (by omega) hmx hbx (by have := HZ1.out; simp; omega) (W1.heap.size + 1) (by simp) ?_; intro gg cap w6 hown6 hgrow6 hat6 hlt6; have HB6A : Hid (w6.heap[w.heap.size]? = W1.heap[w.heap.size]?) := (hgrow6.block _ (by have := HZ1.out; simp; omega) (fun e => HNA.out e.symm)).trans (Below.heap_alloc W1 _ _ (by have := HZ1.out; omega)); have u6' := cell_block HB6A.out a6; have uf6 := (frozen_blk (o := 6) HB6A.out).trans af6; have HOwn6 := Lib.hid hown6; have HGrow6 := Lib.hid hgrow6; have HAt6 := Lib.hid hat6; have HLT6 := Lib.hid hlt6; clear hown6 hgrow6 hat6 hlt6 x0 x1 x2 x3 x4 x5' x6' x7 z0 z1 z2 z3 z4 z5 z6 z7 a6 af6))
          clear u6' uf6
          have hkp : ∀ k, k < W1.heap.size → v1.ownBlock ≠ some k → k ≠ w.heap.size → (w6.setCell ⟨w.heap.size, 6, none⟩ (.slice (some ⟨gg, 0, none⟩) (2 * i + 2) cap)).heap[k]? = W1.heap[k]? := fun k hk hv hk0 => by
            rw [Below.heap_setCell _ _ _ _ hk0, HGrow6.out.block k (by simp; omega) (fun e => hv e.symm)]
            exact Below.heap_alloc W1 _ k hk
          have hz6 : W1.heap.size < (w6.setCell ⟨w.heap.size, 6, none⟩ (.slice (some ⟨gg, 0, none⟩) (2 * i + 2) cap)).heap.size := by
            have := HGrow6.out.size
            simp at this ⊢
            omega
          have hz1 := HZ1.out
          have vlt : ∀ k, v1.ownBlock = some k → w.heap.size + 2 ≤ k ∧ k < wr.heap.size := fun k hk => HO1.out.lt k hk
          have hggne : w.heap.size + 2 ≤ gg := by
            rcases HAt6.out with h | h
            · exact (vlt gg h).1
            · omega
          have HBA6 : Hid (Blk (w6.setCell ⟨w.heap.size, 6, none⟩ (.slice (some ⟨gg, 0, none⟩) (2 * i + 2) cap)) w.heap.size (.int .i64 21) (.string ⟨#[]⟩) (.int .u64 0) (.int .u64 0) (.string ⟨#[]⟩) (.slice none 0 0) (.slice (some ⟨gg, 0, none⟩) (2 * i + 2) cap) (.int .i64 0)) := ((HBA.out.below HW1.out).keep HB6A.out).put6 _
          have HBB6 : Hid (Blk (w6.setCell ⟨w.heap.size, 6, none⟩ (.slice (some ⟨gg, 0, none⟩) (2 * i + 2) cap)) (w.heap.size + 1) (.int .i64 21) (.string ⟨#[]⟩) (.int .u64 0) (.int .u64 0) (.string ⟨#[]⟩) (.slice none 0 0) v2 (.int .i64 0)) := (HBB.out.below HW1.out).keep (hkp _ (by omega) (fun e => by have := (vlt _ e).1; omega) (by omega))
          have HKK6 : Hid (Blk (w6.setCell ⟨w.heap.size, 6, none⟩ (.slice (some ⟨gg, 0, none⟩) (2 * i + 2) cap)) wr.heap.size (.int .i64 kk) (.string ⟨#[]⟩) (.int .u64 kb) (.int .u64 0) (.string kt) (.slice none 0 0) (.slice none 0 0) (.int .i64 0)) := HKK.out.keep (hkp _ (by omega) (fun e => by have := (vlt _ e).2; omega) (by omega))
          have HCC6 : Hid (Blk (w6.setCell ⟨w.heap.size, 6, none⟩ (.slice (some ⟨gg, 0, none⟩) (2 * i + 2) cap)) (wr.heap.size + 1) (.int .i64 11) (.string ⟨#[]⟩) (.int .u64 (i : Int)) (.int .u64 0) (.string ⟨#[]⟩) (.slice none 0 0) (.slice none 0 0) (.int .i64 0)) := HCC.out.keep (hkp _ (by omega) (fun e => by have := (vlt _ e).2; omega) (by omega))
          have HO16 : Hid ((w6.setCell ⟨w.heap.size, 6, none⟩ (.slice (some ⟨gg, 0, none⟩) (2 * i + 2) cap)).ownsRow (w.heap.size + 2) 26 8 (.slice (some ⟨gg, 0, none⟩) (2 * i + 2) cap) (2 * (i + 1)) (cells8 (fwdP f (i + 1)))) := by
            have h := owns_block (w' := w6.setCell ⟨w.heap.size, 6, none⟩ (.slice (some ⟨gg, 0, none⟩) (2 * i + 2) cap)) HOwn6.out fun g hg => Below.heap_setCell _ _ _ _ (by have := (HOwn6.out.lt g hg).1; show g ≠ w.heap.size; omega)
            rw [← two_cells HKD.out, ← cells8_append] at h
            exact Lib.hid h
          have HO26 : Hid ((w6.setCell ⟨w.heap.size, 6, none⟩ (.slice (some ⟨gg, 0, none⟩) (2 * i + 2) cap)).ownsRow (w.heap.size + 2) 26 8 v2 (2 * i) (cells8 (bckP f i))) :=
            Lib.hid (owns_block (owns_later HO2.out HW1.out) fun g hg => hkp g (by have := (HO2.out.lt g hg).2; omega) (fun e => HAP.out g e hg) (by have := (HO2.out.lt g hg).1; omega))
          have HW6 : Hid (Below w.heap.size w (w6.setCell ⟨w.heap.size, 6, none⟩ (.slice (some ⟨gg, 0, none⟩) (2 * i + 2) cap))) :=
            ((((HW.out.next HW1.out).push _).grown HGrow6.out (by simp; omega) (fun k hk => by have := (vlt k hk).1; omega)).setCell (p := ⟨w.heap.size, 6, none⟩) (Nat.le_refl _) _)
          have HGG : Hid (gg < (w6.setCell ⟨w.heap.size, 6, none⟩ (.slice (some ⟨gg, 0, none⟩) (2 * i + 2) cap)).heap.size) := by
            show _ < _
            have := HLT6.out
            simpa using this
          clear hkp vlt hggne HBA HBB HKK HCC HO1 HO2 HW HO1' HOwn6 HGrow6 HAt6 HB6A HLT6 HNA
          generalize w6.setCell ⟨w.heap.size, 6, none⟩ (.slice (some ⟨gg, 0, none⟩) (2 * i + 2) cap) = W6 at hz6 HBA6 HBB6 HKK6 HCC6 HO16 HO26 HW6 HGG ⊢
          have HZ6 := Lib.hid hz6
          clear hz6 hz1
          obtain ⟨x0, x1, x2, x3, x4, x5', x6', x7, _⟩ := HKK6.out
          obtain ⟨z0, z1, z2, z3, z4, z5, z6, z7, _⟩ := HCC6.out
          have b6 := HBB6.out.c6
          have bf6 := HBB6.out.f 6
          have b6' := cell_below (Below.new (w := W6) (.cells #[.int .i64 kk, .string ⟨#[]⟩, .int .u64 kb, .int .u64 0, .string kt, .slice none 0 0, .slice none 0 0, .int .i64 0, .int .i64 11, .string ⟨#[]⟩, .int .u64 (i : Int), .int .u64 0, .string ⟨#[]⟩, .slice none 0 0, .slice none 0 0, .int .i64 0] 26)) b6
          have hpb6 : w.heap.size + 1 < W6.heap.size := World.block_lt_of_cell? W6 _ b6
          have bf6' := ((Below.new (w := W6) (.cells #[.int .i64 kk, .string ⟨#[]⟩, .int .u64 kb, .int .u64 0, .string kt, .slice none 0 0, .slice none 0 0, .int .i64 0, .int .i64 11, .string ⟨#[]⟩, .int .u64 (i : Int), .int .u64 0, .string ⟨#[]⟩, .slice none 0 0, .slice none 0 0, .int .i64 0] 26)).frozen (p := ⟨w.heap.size + 1, 6, none⟩) hpb6).trans bf6
          have HLIT : Hid ((W6.alloc (.cells #[.int .i64 kk, .string ⟨#[]⟩, .int .u64 kb, .int .u64 0, .string kt, .slice none 0 0, .slice none 0 0, .int .i64 0, .int .i64 11, .string ⟨#[]⟩, .int .u64 (i : Int), .int .u64 0, .string ⟨#[]⟩, .slice none 0 0, .slice none 0 0, .int .i64 0] 26)).ownsRow (w.heap.size + 2) 26 8 (.slice (some ⟨W6.heap.size, 0, none⟩) 2 2) 2 [.int .i64 kk, .string ⟨#[]⟩, .int .u64 kb, .int .u64 0, .string kt, .slice none 0 0, .slice none 0 0, .int .i64 0, .int .i64 11, .string ⟨#[]⟩, .int .u64 (i : Int), .int .u64 0, .string ⟨#[]⟩, .slice none 0 0, .slice none 0 0, .int .i64 0]) :=
            World.ownsRow_lit (base := w.heap.size + 2) (e := 26) (size := 8) W6 #[.int .i64 kk, .string ⟨#[]⟩, .int .u64 kb, .int .u64 0, .string kt, .slice none 0 0, .slice none 0 0, .int .i64 0, .int .i64 11, .string ⟨#[]⟩, .int .u64 (i : Int), .int .u64 0, .string ⟨#[]⟩, .slice none 0 0, .slice none 0 0, .int .i64 0] 2 (by have := HZ6.out; have := HZ1.out; omega) (by unfold maxLen; omega) rfl
          by_cases hi0 : i = 0
          · subst hi0
            obtain ⟨ad, cd, rfl⟩ : ∃ ad cd, v2 = .slice ad 0 cd := by
              rcases HO26.out.2 with ⟨e, _⟩ | ⟨g, cc, cur, e, _⟩
              · exact ⟨_, _, e⟩
              · exact ⟨_, _, e⟩
            go_wp2_with (first
              | (at_builtin; refine wpList_append_zero rfl (.tmp 57) (.tmp 59) 24 rfl 26 i26 Try.underlying24 hi26 _ _ 2 2 cd rfl rfl (Nat.le_refl _) ?_))
            go_roundw
            case rel =>
              have hz6 := HZ6.out
              have hz1 := HZ1.out
              have hgg := HGG.out
              have hg2 := (HO16.out.lt gg rfl).1
              have key : ∀ k, k < W6.heap.size → k ≠ w.heap.size + 1 → ((W6.setCell ⟨w.heap.size + 1, 6, none⟩ (.slice (some ⟨W6.heap.size, 0, none⟩) 2 2)).alloc (.cells #[.int .i64 kk, .string ⟨#[]⟩, .int .u64 kb, .int .u64 0, .string kt, .slice none 0 0, .slice none 0 0, .int .i64 0, .int .i64 11, .string ⟨#[]⟩, .int .u64 ((0 : Nat) : Int), .int .u64 0, .string ⟨#[]⟩, .slice none 0 0, .slice none 0 0, .int .i64 0] 26)).heap[k]? = W6.heap[k]? := fun k hk hne => by
                rw [Below.heap_alloc _ _ k (by simp; omega)]
                exact Below.heap_setCell _ _ _ _ hne
              refine ⟨0 + 1, .slice (some ⟨gg, 0, none⟩) (2 * 0 + 2) cap, .slice (some ⟨W6.heap.size, 0, none⟩) 2 2, by go_num, by omega, by omega, Lib.hid ?_, Lib.hid ?_, Lib.hid ?_, Lib.hid ?_, Lib.hid ?_, Lib.hid ?_, ?_⟩
              · refine owns_block HO16.out fun g hg => ?_
                have e : gg = g := Option.some.inj hg
                subst e
                exact key _ hgg (by omega)
              · have := World.ownsRow_lit (base := w.heap.size + 2) (e := 26) (size := 8) (W6.setCell ⟨w.heap.size + 1, 6, none⟩ (.slice (some ⟨W6.heap.size, 0, none⟩) 2 2)) #[.int .i64 kk, .string ⟨#[]⟩, .int .u64 kb, .int .u64 0, .string kt, .slice none 0 0, .slice none 0 0, .int .i64 0, .int .i64 11, .string ⟨#[]⟩, .int .u64 ((0 : Nat) : Int), .int .u64 0, .string ⟨#[]⟩, .slice none 0 0, .slice none 0 0, .int .i64 0] 2 (by simp; omega) (by unfold maxLen; omega) rfl
                rw [bck_cells HKD.out]
                simpa [bckP, cells8] using this
              · intro g h1 h2
                have e1 : gg = g := Option.some.inj h1
                have e2 : W6.heap.size = g := Option.some.inj h2
                omega
              · exact HBA6.out.keep (key _ (by omega) (by omega))
              · exact (HBB6.out.put6 _).below (Below.new _)
              · exact (HW6.out.setCell (p := ⟨w.heap.size + 1, 6, none⟩) (by show _ ≤ w.heap.size + 1; omega) _).push _
              · simp; omega
            case measure => simp [intOf]
          · have HG2 : Hid (∃ g2 cap2, v2 = .slice (some ⟨g2, 0, none⟩) (2 * i) cap2 ∧ ∀ j u, (cells8 (bckP f i))[j]? = some u → (W6.alloc (.cells #[.int .i64 kk, .string ⟨#[]⟩, .int .u64 kb, .int .u64 0, .string kt, .slice none 0 0, .slice none 0 0, .int .i64 0, .int .i64 11, .string ⟨#[]⟩, .int .u64 (i : Int), .int .u64 0, .string ⟨#[]⟩, .slice none 0 0, .slice none 0 0, .int .i64 0] 26)).cell? ((⟨g2, 0, none⟩ : Addr).add j) = some u) := by
              rcases HO26.out.2 with ⟨_, e⟩ | ⟨g, cc, cur, e, _⟩
              · omega
              · exact ⟨g, cc, e, fun j u hu => cell_below (Below.new _) (HO26.out.cells (g := g) (by rw [e]; rfl) j u hu)⟩
            obtain ⟨g2, cap2, rfl, hnews⟩ := HG2.out
            have HNews := Lib.hid hnews
            have HLEN : Hid ((cells8 (bckP f i)).length = 2 * i * 8) := by
              show _ = _
              rw [cells8_length, (bck_fine f i).len]
            have H1C : Hid (∀ u ∈ cells8 (bckP f i), u.oneCell' = true) := cells8_one (bckP f i)
            have hm0 : 0 < 2 * i := by omega
            have hmx2 : 2 + 2 * i ≤ maxLen := by unfold maxLen; omega
            have hbx2 : (2 + 2 * i) * 112 ≤ 140737488355328 := by omega
            clear hnews
            go_wp2_with (first
              | (at_builtin; refine wpList_append_lies _ rfl (.tmp 57) (.tmp 59) 24 rfl (w.heap.size + 2) 26 i26 _ 8 112 Try.underlying24 hi26 hz26 hs26 hb26 rfl (by omega) (.slice (some ⟨W6.heap.size, 0, none⟩) 2 2) 2 _ rfl HLIT.out ⟨g2, 0, none⟩ (2 * i) cap2 (cells8 (bckP f i)) rfl HLEN.out HNews.out H1C.out hm0 hmx2 hbx2 (by have := HZ6.out; have := HZ1.out; simp; omega) (W6.heap.size + 1) (by simp) ?_; intro gq capq w7 hown7 hgrow7 hat7 hlt7; have HB7 : Hid (w7.heap[w.heap.size + 1]? = W6.heap[w.heap.size + 1]?) := (hgrow7.block _ (by simp; omega) (fun e => by have e := Option.some.inj (show some W6.heap.size = some (w.heap.size + 1) from e.symm); omega)).trans (Below.heap_alloc W6 _ _ hpb6); have u6' := cell_block HB7.out b6; have uf6 := (frozen_blk (o := 6) HB7.out).trans bf6; have HOwn7 := Lib.hid hown7; have HGrow7 := Lib.hid hgrow7; have HAt7 := Lib.hid hat7; have HLT7 := Lib.hid hlt7; clear hown7 hgrow7 hat7 hlt7))
            go_roundw
            case rel =>
              have hz6 := HZ6.out
              have hz1 := HZ1.out
              have hgg := HGG.out
              have hg2 := (HO16.out.lt gg rfl).1
              have hz7 : W6.heap.size + 1 ≤ w7.heap.size := by have := HGrow7.out.size; simpa using this
              have hgq : W6.heap.size ≤ gq := by
                rcases HAt7.out with h | h
                · have e : W6.heap.size = gq := Option.some.inj h; omega
                · omega
              have key : ∀ k, k < W6.heap.size → k ≠ w.heap.size + 1 → (w7.setCell ⟨w.heap.size + 1, 6, none⟩ (.slice (some ⟨gq, 0, none⟩) (2 + 2 * i) capq)).heap[k]? = W6.heap[k]? := fun k hk hne => by
                rw [Below.heap_setCell _ _ _ _ hne, HGrow7.out.block k (by simp; omega) (fun e => by have e := Option.some.inj (show some W6.heap.size = some k from e.symm); omega)]
                exact Below.heap_alloc W6 _ k hk
              refine ⟨i + 1, .slice (some ⟨gg, 0, none⟩) (2 * i + 2) cap, .slice (some ⟨gq, 0, none⟩) (2 + 2 * i) capq, by go_num, by omega, by omega, Lib.hid ?_, Lib.hid ?_, Lib.hid ?_, Lib.hid ?_, Lib.hid ?_, Lib.hid ?_, ?_⟩
              · refine owns_block HO16.out fun g hg => ?_
                have e : gg = g := Option.some.inj hg
                subst e
                exact key _ hgg (by omega)
              · rw [bck_cells HKD.out, show 2 * (i + 1) = 2 + 2 * i by omega]
                refine owns_block HOwn7.out fun g hg => Below.heap_setCell _ _ _ _ ?_
                have e : gq = g := Option.some.inj hg
                show g ≠ w.heap.size + 1
                omega
              · intro g h1 h2
                have e1 : gg = g := Option.some.inj h1
                have e2 : gq = g := Option.some.inj h2
                omega
              · exact HBA6.out.keep (key _ (by omega) (by omega))
              · exact (HBB6.out.keep HB7.out).put6 _
              · exact ((HW6.out.push _).grown HGrow7.out (by simp; omega) (fun k hk => by have e := Option.some.inj (show some W6.heap.size = some k from hk); omega)).setCell (p := ⟨w.heap.size + 1, 6, none⟩) (by show _ ≤ w.heap.size + 1; omega) _
              · simp; omega
            case measure => simp [intOf]; omega
      · by_cases hl : i < l.length
        · have hl12 : ¬ i < 12 := fun h => hin ⟨hl, h⟩
          go_wp2_with fail
          go_meet
          exact ⟨i, v1, v2, hi, hi12, HO1, HO2, HAP, HBA, HBB, HW, hsz⟩
        · go_wp2_with fail
          go_meet
          exact ⟨i, v1, v2, hi, hi12, HO1, HO2, HAP, HBA, HBB, HW, hsz⟩
  case rest =>
    obtain ⟨i, v1, v2, hi, hi12, HO1, HO2, HAP, HBA, HBB, HW, hsz⟩ := hcut
    apply_assumption
    clear HB1 HB2 HW0 hsz2 HAP
    have HDR : Hid (∀ j, j < i → DR (f j)) := by
      intro j hj
      rw [HF.out j (by omega)]
      exact (H4.out j (by omega)).rng
    have HU : Hid (∀ j, j < i → U64 (f j).bits) := by
      intro j hj
      have := HDR.out j hj
      cases this with | mk _ _ hb => exact hb
    have hl1 : (fwdP f i).length = 2 * i := (fwd_fine f i).len
    have hl2 : (bckP f i).length = 2 * i := (bck_fine f i).len
    obtain ⟨a1, c1, rfl, hp1⟩ := bare_parts (v := v1) (by rw [hl1]; exact HO1.out) (fwd_bare f i) (fwd_dr i (by omega) HDR.out) (by unfold cap47; omega)
    obtain ⟨a2, c2, rfl, hp2⟩ := bare_parts (v := v2) (by rw [hl2]; exact HO2.out) (bck_bare f i) (bck_dr i (by omega) HDR.out) (by unfold cap47; omega)
    have HD1 : Hid (IsD wc (.agg #[.int .i64 21, .string ⟨#[]⟩, .int .u64 0, .int .u64 0, .string ⟨#[]⟩, .slice none 0 0, .slice a1 (fwdP f i).length c1, .int .i64 0]) (mapD (fwdP f i))) := map_is hp1
    have HD2 : Hid (IsD wc (.agg #[.int .i64 21, .string ⟨#[]⟩, .int .u64 0, .int .u64 0, .string ⟨#[]⟩, .slice none 0 0, .slice a2 (bckP f i).length c2, .int .i64 0]) (mapD (bckP f i))) := map_is hp2
    clear hp1 hp2 HO1 HO2
    rw [hl1] at HD1 HBA
    rw [hl2] at HD2 HBB
    obtain ⟨N, hN⟩ : ∃ N, 2 * i = N := ⟨_, rfl⟩
    rw [hN] at HD1 HD2 HBA HBB hl1 hl2
    have HN := Lib.hid hN
    have HL1 := Lib.hid hl1
    clear hl1 hl2 hN
    have HERR : Hid (errD (mapD (bckP f i)) = errD (mapD (fwdP f i)) ∧ errD (mapD (fwdP f i)) = if 1024 < maxT f i then 2 else if mkV (mapD (fwdP f i)) = none then 5 else 0) := by
      have q1 := map_err (fwd_fine f i) (maxT_nn f i) hi12
      have q2 := map_err (bck_fine f i) (maxT_nn f i) hi12
      rw [map_bck] at q2
      exact ⟨q2.trans q1.symm, q1⟩
    have HMK : Hid (mkV (mapD (bckP f i)) = mkV (mapD (fwdP f i))) := map_bck f i
    have HWc := HW
    obtain ⟨p0, p1, p2, p3, p4, p5, p6, p7, _⟩ := HBA.out
    go_wp2_with fail
    clear p0 p1 p2 p3 p4 p5 p6 p7
    refine (build_any HD1.out).mono ?_
    rintro e w3 ⟨hB3, hbad, hgood⟩
    have HB3 := Lib.hid hB3
    have HBB3 := Lib.hid (HBB.out.below hB3)
    obtain ⟨p0, p1, p2, p3, p4, p5, p6, p7, _⟩ := HBB3.out
    clear hB3
    by_cases h0 : errD (mapD (fwdP f i)) = 0
    · obtain ⟨t', y', x, hx, rfl, hvf⟩ := hgood h0
      have HV3 := Lib.hid hvf.isV
      have HX := Lib.hid hx
      have H0 := Lib.hid h0
      clear hbad hgood hvf hx h0
      go_wp2_with fail
      clear p0 p1 p2 p3 p4 p5 p6 p7
      refine (build_any (HD2.out.later HB3.out)).mono ?_
      rintro e w4 ⟨hB4, _, hgood⟩
      obtain ⟨t2, y2, x', hx', rfl, hvf⟩ := hgood (HERR.out.1.trans H0.out)
      obtain rfl : x = x' := by
        have h1 := HX.out
        have h2 := HMK.out
        rw [h1, hx'] at h2
        injection h2 with h2
        exact h2.symm
      have HB4 := Lib.hid hB4
      have HV4 := Lib.hid hvf.isV
      have HV34 := Lib.hid (HV3.out.later hB4)
      clear hB4 hgood hx' hvf HV3
      have HFx : Hid (x.ok ∧ VR x) := built_facts HD1.out.rng H0.out HX.out
      have HAx : Hid (Apart (entF f i) ∧ x = .great .map ⟨21, ⟨#[]⟩, 0⟩ 0 [] (flat (sortP (entF f i)))) := by
        have h1 := HX.out
        rw [map_fwd] at h1
        split at h1
        · rename_i ha
          injection h1 with h1
          exact ⟨ha, h1.symm⟩
        · cases h1
      have HMT : Hid (maxT f i ≤ 1024) := by
        have h1 := HERR.out.2
        rw [H0.out] at h1
        split at h1
        · cases h1
        · rename_i h; exact Lib.hid (by omega)
      have HRISE : Hid (∀ k, k + 1 < i → ∃ a b, errD a = 0 ∧ errD b = 0 ∧ DR a ∧ DR b ∧ mkV a = some (leafV a) ∧ mkV b = some (leafV b) ∧ (rawV x).parts[k * 2]? = some a ∧ (rawV x).parts[(k + 1) * 2]? = some b ∧ ordV (leafV a) (leafV b) = -1) := by
        intro k hk
        obtain ⟨ha, rfl⟩ := HAx.out
        obtain ⟨hlen, hr⟩ := maps_rise f i HU.out ha
        obtain ⟨p, q, hp, hq, e1, e2, e3, e4, e5⟩ := hr k (by omega)
        refine ⟨keyD p (f p), keyD q (f q), ?_, ?_, key_dr (HDR.out p hp), key_dr (HDR.out q hq), mk_key _ _, mk_key _ _, ?_, ?_, e5⟩
        · have := maxT_le f i p hp; have := HMT.out; exact key_err (by omega)
        · have := maxT_le f i q hq; have := HMT.out; exact key_err (by omega)
        · show (rawL (flat (sortP (entF f i))))[k * 2]? = _
          rw [raw_parts _ _ (by omega), e3]
        · show (rawL (flat (sortP (entF f i))))[(k + 1) * 2]? = _
          rw [raw_parts _ _ (by omega), e4]
      have HRL : Hid ((rawV x).parts.length = N) := by
        obtain ⟨ha, rfl⟩ := HAx.out
        show (rawL (flat (sortP (entF f i)))).length = N
        rw [rawL_length, flat_length2, (maps_rise f i HU.out ha).1]
        exact HN.out
      obtain ⟨r, hr⟩ : ∃ r, rawV x = r := ⟨_, rfl⟩
      rw [hr] at HRISE HRL
      have HRr := Lib.hid hr
      clear hr HAx HMT
      have hraw : Calls Try.prog 17 #[.iface t' y'] w4 (RawAt w4 r) := by
        rw [← HRr.out]
        exact Raw_at HFx.out.2 HV34.out
      go_wp2_with fail
      refine hraw.mono ?_
      rintro e w5 ⟨hB5, g5, g5', g6, g6', rfl, hdg⟩
      have HDG := Lib.hid hdg.isD
      have HB5 := Lib.hid hB5
      clear hdg hB5 hraw
      unfold aggD at HDG ⊢
      rw [HRL.out] at HDG ⊢
      go_upto_region 18 with fail
      have hb5n : Below w5.heap.size w5 (w5.alloc (.cells #[.int .i64 r.kind, .string r.type, .int .u64 r.bits, .int .u64 r.imag, .string r.text, .slice g5 r.names.length g5', .slice g6 N g6', .int .i64 r.hook] 26)) := Below.new _
      have HBg := Lib.hid (Blk.of (heap_alloc_new w5 (.cells #[.int .i64 r.kind, .string r.type, .int .u64 r.bits, .int .u64 r.imag, .string r.text, .slice g5 r.names.length g5', .slice g6 N g6', .int .i64 r.hook] 26)))
      have HB45 := Lib.hid (HB5.out.next hb5n)
      have HDG6 := Lib.hid (HDG.out.later hb5n)
      generalize w5.alloc (.cells #[.int .i64 r.kind, .string r.type, .int .u64 r.bits, .int .u64 r.imag, .string r.text, .slice g5 r.names.length g5', .slice g6 N g6', .int .i64 r.hook] 26) = W6 at HBg HB45 HDG6 hb5n ⊢
      have HBA6 := Lib.hid (((HBA.out.below HB3.out).below HB4.out).below HB45.out)
      have HW6 := Lib.hid (((HW.out.next HB3.out).next HB4.out).next HB45.out)
      have HV46 := Lib.hid (HV4.out.later HB45.out)
      clear hb5n
      have HC17 : Hid (∀ W, Below W6.heap.size W6 W → Calls Try.prog 17 #[.iface t2 y2] W (RawAt W r)) := by
        intro W hW
        rw [← HRr.out]
        exact Raw_at HFx.out.2 (HV46.out.later hW)
      have HC16 : Hid (∀ (W : World) (vb : Value), Below W6.heap.size W6 W → IsD W vb r → Calls Try.prog 16 #[.agg #[.int .i64 r.kind, .string r.type, .int .u64 r.bits, .int .u64 r.imag, .string r.text, .slice g5 r.names.length g5', .slice g6 N g6', .int .i64 r.hook], vb] W fun e w' => e = .returned (.bool true) ∧ Below W.heap.size W w') := by
        intro W vb hW hvb
        refine (same_any r r W _ vb (HDG6.out.later hW) hvb).mono fun e w' h => ?_
        rw [← sameD_true (d := r) rfl]
        exact h
      have HBW : Below W6.heap.size W6 W6.drew := (Below.refl _ _).drew
      have K0 : W6.cell? ⟨w5.heap.size, 0, none⟩ = some (.int .i64 r.kind) ∧ W6.cell? ⟨w5.heap.size, 1, none⟩ = some (.string r.type) ∧ W6.cell? ⟨w5.heap.size, 2, none⟩ = some (.int .u64 r.bits) ∧ W6.cell? ⟨w5.heap.size, 3, none⟩ = some (.int .u64 r.imag) ∧ W6.cell? ⟨w5.heap.size, 4, none⟩ = some (.string r.text) ∧ W6.cell? ⟨w5.heap.size, 5, none⟩ = some (.slice g5 r.names.length g5') ∧ W6.cell? ⟨w5.heap.size, 6, none⟩ = some (.slice g6 N g6') ∧ W6.cell? ⟨w5.heap.size, 7, none⟩ = some (.int .i64 r.hook) ∧ W6.cell? ⟨w.heap.size, 6, none⟩ = some (.slice a1 N c1) := ⟨HBg.out.c0, HBg.out.c1, HBg.out.c2, HBg.out.c3, HBg.out.c4, HBg.out.c5, HBg.out.c6, HBg.out.c7, HBA6.out.c6⟩
      obtain ⟨z0, z1, z2, z3, z4, z5, z6, z7, z8⟩ := K0
      refine late_begin [] (fun _ => True) (fun w' => w'.cell? ⟨w5.heap.size, 0, none⟩ = some (.int .i64 r.kind) ∧ w'.cell? ⟨w5.heap.size, 1, none⟩ = some (.string r.type) ∧ w'.cell? ⟨w5.heap.size, 2, none⟩ = some (.int .u64 r.bits) ∧ w'.cell? ⟨w5.heap.size, 3, none⟩ = some (.int .u64 r.imag) ∧ w'.cell? ⟨w5.heap.size, 4, none⟩ = some (.string r.text) ∧ w'.cell? ⟨w5.heap.size, 5, none⟩ = some (.slice g5 r.names.length g5') ∧ w'.cell? ⟨w5.heap.size, 6, none⟩ = some (.slice g6 N g6') ∧ w'.cell? ⟨w5.heap.size, 7, none⟩ = some (.int .i64 r.hook) ∧ w'.cell? ⟨w.heap.size, 6, none⟩ = some (.slice a1 N c1)) (by kernel_rfl) ?_
      refine late_take (i := 0) (.agg #[.int .i64 r.kind, .string r.type, .int .u64 r.bits, .int .u64 r.imag, .string r.text, .slice g5 r.names.length g5', .slice g6 N g6', .int .i64 r.hook]) false rfl (by kernel_rfl) (by kernel_rfl) (by kernel_rfl) (by kernel_rfl) (fun h => by cases h) (fun _ _ _ h => h) (by rfl) (fun W hS hT => ?_) (fun _ => trivial) ⟨z0, z1, z2, z3, z4, z5, z6, z7, z8⟩ (fun h => by cases h) ?_
      · (obtain ⟨x0, x1, x2, x3, x4, x5, x6, x7, x8⟩ := hT; first | (go_simp; done) | (go_simp; with_reducible rfl))
      simp only [Act.put, List.getElem_toArray, List.getElem_cons_zero, List.getElem_cons_succ, List.setIfInBounds_toArray, List.set_cons_zero, List.set_cons_succ]
      refine late_take (i := 1) (.iface t2 y2) false rfl (by kernel_rfl) (by kernel_rfl) (by kernel_rfl) (by kernel_rfl) (fun h => by cases h) (fun _ _ _ h => h) (by rfl) (fun W hS hT => ?_) (fun _ => trivial) ⟨z0, z1, z2, z3, z4, z5, z6, z7, z8⟩ (fun h => by cases h) ?_
      · first | (go_simp; done) | (go_simp; with_reducible rfl) | rfl
      simp only [Act.put, List.getElem_toArray, List.getElem_cons_zero, List.getElem_cons_succ, List.setIfInBounds_toArray, List.set_cons_zero, List.set_cons_succ]
      refine late_one 2 rfl (by kernel_rfl) (fun K hK => ?_)
      try simp only [List.getElem_toArray, List.getElem_cons_zero, List.getElem_cons_succ]
      rw [if_pos (by rfl)]
      go_simp
      refine (HC17.out _ HBW).mono ?_
      rintro e wa ⟨hbN, f5, f5', f6, f6', rfl, hdf⟩
      (try go_simp)
      have z0 := cell_below hbN z0
      have z1 := cell_below hbN z1
      have z2 := cell_below hbN z2
      have z3 := cell_below hbN z3
      have z4 := cell_below hbN z4
      have z5 := cell_below hbN z5
      have z6 := cell_below hbN z6
      have z7 := cell_below hbN z7
      have z8 := cell_below hbN z8
      have HBW := HBW.next hbN
      have HDR' := Lib.hid hdf.isD
      clear hdf
      refine hK _ _ (fun _ => trivial) ⟨z0, z1, z2, z3, z4, z5, z6, z7, z8⟩ ?_
      clear hK K hbN
      try simp only [Act.put, List.getElem_toArray, List.getElem_cons_zero, List.getElem_cons_succ, List.setIfInBounds_toArray, List.set_cons_zero, List.set_cons_succ]
      refine late_one 3 rfl (by kernel_rfl) (fun K hK => ?_)
      try simp only [List.getElem_toArray, List.getElem_cons_zero, List.getElem_cons_succ]
      rw [if_pos (by rfl)]
      go_simp
      refine (HC16.out _ _ HBW HDR'.out).mono ?_
      rintro e wb ⟨rfl, hbN⟩
      (try go_simp)
      have z0 := cell_below hbN z0
      have z1 := cell_below hbN z1
      have z2 := cell_below hbN z2
      have z3 := cell_below hbN z3
      have z4 := cell_below hbN z4
      have z5 := cell_below hbN z5
      have z6 := cell_below hbN z6
      have z7 := cell_below hbN z7
      have z8 := cell_below hbN z8
      have HBW := HBW.next hbN
      refine hK _ _ (fun _ => trivial) ⟨z0, z1, z2, z3, z4, z5, z6, z7, z8⟩ ?_
      clear hK K hbN
      try simp only [Act.put, List.getElem_toArray, List.getElem_cons_zero, List.getElem_cons_succ, List.setIfInBounds_toArray, List.set_cons_zero, List.set_cons_succ]
      refine late_take (i := 4) (.bool false) false rfl (by kernel_rfl) (by kernel_rfl) (by kernel_rfl) (by kernel_rfl) (fun h => by cases h) (fun _ _ _ h => h) (by rfl) (fun W hS hT => ?_) (fun _ => trivial) ⟨z0, z1, z2, z3, z4, z5, z6, z7, z8⟩ (fun h => by cases h) ?_
      · first | (go_simp; done) | (go_simp; with_reducible rfl) | rfl
      simp only [Act.put, List.getElem_toArray, List.getElem_cons_zero, List.getElem_cons_succ, List.setIfInBounds_toArray, List.set_cons_zero, List.set_cons_succ]
      refine late_take (i := 5) (.bool false) false rfl (by kernel_rfl) (by kernel_rfl) (by kernel_rfl) (by kernel_rfl) (fun h => by cases h) (fun _ _ _ h => h) (by rfl) (fun W hS hT => ?_) (fun _ => trivial) ⟨z0, z1, z2, z3, z4, z5, z6, z7, z8⟩ (fun h => by cases h) ?_
      · first | (go_simp; done) | (go_simp; with_reducible rfl) | rfl
      simp only [Act.put, List.getElem_toArray, List.getElem_cons_zero, List.getElem_cons_succ, List.setIfInBounds_toArray, List.set_cons_zero, List.set_cons_succ]
      refine late_take (i := 6) (.pointer (some ⟨w5.heap.size, 6, none⟩)) false rfl (by kernel_rfl) (by kernel_rfl) (by kernel_rfl) (by kernel_rfl) (fun h => by cases h) (fun _ _ _ h => h) (by rfl) (fun W hS hT => ?_) (fun _ => trivial) ⟨z0, z1, z2, z3, z4, z5, z6, z7, z8⟩ (fun h => by cases h) ?_
      · first | (go_simp; done) | (go_simp; with_reducible rfl) | rfl
      simp only [Act.put, List.getElem_toArray, List.getElem_cons_zero, List.getElem_cons_succ, List.setIfInBounds_toArray, List.set_cons_zero, List.set_cons_succ]
      refine late_take (i := 7) (.slice g6 N g6') false rfl (by kernel_rfl) (by kernel_rfl) (by kernel_rfl) (by kernel_rfl) (fun h => by cases h) (fun _ _ _ h => h) (by rfl) (fun W hS hT => ?_) (fun _ => trivial) ⟨z0, z1, z2, z3, z4, z5, z6, z7, z8⟩ (fun h => by cases h) ?_
      · (obtain ⟨x0, x1, x2, x3, x4, x5, x6, x7, x8⟩ := hT; first | (go_simp; done) | (go_simp; with_reducible rfl))
      simp only [Act.put, List.getElem_toArray, List.getElem_cons_zero, List.getElem_cons_succ, List.setIfInBounds_toArray, List.set_cons_zero, List.set_cons_succ]
      refine late_take (i := 8) (.int .i64 (N : Int)) false rfl (by kernel_rfl) (by kernel_rfl) (by kernel_rfl) (by kernel_rfl) (fun h => by cases h) (fun _ _ _ h => h) (by rfl) (fun W hS hT => ?_) (fun _ => trivial) ⟨z0, z1, z2, z3, z4, z5, z6, z7, z8⟩ (fun h => by cases h) ?_
      · first | (go_simp; done) | (go_simp; with_reducible rfl) | rfl
      simp only [Act.put, List.getElem_toArray, List.getElem_cons_zero, List.getElem_cons_succ, List.setIfInBounds_toArray, List.set_cons_zero, List.set_cons_succ]
      refine late_take (i := 9) (.pointer (some ⟨w.heap.size, 6, none⟩)) false rfl (by kernel_rfl) (by kernel_rfl) (by kernel_rfl) (by kernel_rfl) (fun h => by cases h) (fun _ _ _ h => h) (by rfl) (fun W hS hT => ?_) (fun _ => trivial) ⟨z0, z1, z2, z3, z4, z5, z6, z7, z8⟩ (fun h => by cases h) ?_
      · first | (go_simp; done) | (go_simp; with_reducible rfl) | rfl
      simp only [Act.put, List.getElem_toArray, List.getElem_cons_zero, List.getElem_cons_succ, List.setIfInBounds_toArray, List.set_cons_zero, List.set_cons_succ]
      refine late_take (i := 10) (.slice a1 N c1) false rfl (by kernel_rfl) (by kernel_rfl) (by kernel_rfl) (by kernel_rfl) (fun h => by cases h) (fun _ _ _ h => h) (by rfl) (fun W hS hT => ?_) (fun _ => trivial) ⟨z0, z1, z2, z3, z4, z5, z6, z7, z8⟩ (fun h => by cases h) ?_
      · (obtain ⟨x0, x1, x2, x3, x4, x5, x6, x7, x8⟩ := hT; first | (go_simp; done) | (go_simp; with_reducible rfl))
      simp only [Act.put, List.getElem_toArray, List.getElem_cons_zero, List.getElem_cons_succ, List.setIfInBounds_toArray, List.set_cons_zero, List.set_cons_succ]
      refine late_take (i := 11) (.int .i64 (N : Int)) false rfl (by kernel_rfl) (by kernel_rfl) (by kernel_rfl) (by kernel_rfl) (fun h => by cases h) (fun _ _ _ h => h) (by rfl) (fun W hS hT => ?_) (fun _ => trivial) ⟨z0, z1, z2, z3, z4, z5, z6, z7, z8⟩ (fun h => by cases h) ?_
      · first | (go_simp; done) | (go_simp; with_reducible rfl) | rfl
      simp only [Act.put, List.getElem_toArray, List.getElem_cons_zero, List.getElem_cons_succ, List.setIfInBounds_toArray, List.set_cons_zero, List.set_cons_succ]
      refine late_take (i := 12) (.bool false) false rfl (by kernel_rfl) (by kernel_rfl) (by kernel_rfl) (by kernel_rfl) (fun h => by cases h) (fun _ _ _ h => h) (by rfl) (fun W hS hT => ?_) (fun _ => trivial) ⟨z0, z1, z2, z3, z4, z5, z6, z7, z8⟩ (fun h => by cases h) ?_
      · first | (go_simp; done) | (go_simp; with_reducible rfl) | rfl
      simp only [Act.put, List.getElem_toArray, List.getElem_cons_zero, List.getElem_cons_succ, List.setIfInBounds_toArray, List.set_cons_zero, List.set_cons_succ]
      refine late_take (i := 13) (.bool false) false rfl (by kernel_rfl) (by kernel_rfl) (by kernel_rfl) (by kernel_rfl) (fun h => by cases h) (fun _ _ _ h => h) (by rfl) (fun W hS hT => ?_) (fun _ => trivial) ⟨z0, z1, z2, z3, z4, z5, z6, z7, z8⟩ (fun h => by cases h) ?_
      · first | (go_simp; done) | (go_simp; with_reducible rfl) | rfl
      simp only [Act.put, List.getElem_toArray, List.getElem_cons_zero, List.getElem_cons_succ, List.setIfInBounds_toArray, List.set_cons_zero, List.set_cons_succ]
      refine late_done (by kernel_rfl) ?_ _
      have HBF := Lib.hid HBW
      clear HBW
      generalize hwq : wb = w8 at HBF z0 z1 z2 z3 z4 z5 z6 z7 z8 ⊢
      have HW8 := Lib.hid (HW6.out.next HBF.out)
      have HDG8 := Lib.hid (HDG6.out.later HBF.out)
      have HPT : Hid (PartsAt w8 g6 g6' r.parts) := by
        obtain ⟨b5, e5, b6, e6, heq, _, _, _, _, _, _, hpt⟩ := HDG8.out.open
        unfold aggD at heq
        simp only [Value.agg.injEq, Array.mk.injEq, List.cons.injEq, Value.slice.injEq, true_and, and_true] at heq
        obtain ⟨_, rfl, _, rfl⟩ := heq
        exact Lib.hid hpt
      have hN9 : N ≤ 24 := by have := HN.out; omega
      have HC13 : Hid (∀ W, Calls Try.prog 13 #[] W fun e w' => e = .returned (.bool true) ∧ Below W.heap.size W w') := fun W => lives_any W
      have Z6 := Lib.hid z6
      have z6l : w5.heap.size < w8.heap.size := World.block_lt_of_cell? w8 _ z6
      go_upto_block 2 with fail
      clear z0 z1 z2 z3 z4 z5 z6 z7 z8
      go_wp2_with fail
      go_loopw [13] (fun kk wr => ∃ j k : Nat, kk = .int .i64 ((j : Int) + 2) ∧ k * 2 = j ∧ (k = 0 ∨ k < i) ∧ Hid (Below w8.heap.size w8 wr)) (fun kk _ => N + 2 - (intOf kk).toNat)
      case atStart => exact ⟨0, 0, rfl, rfl, .inl rfl, Below.refl _ _⟩
      case round =>
        obtain ⟨j, k, rfl, hjk, hki, HB⟩ := hrel
        have HJK := Lib.hid hjk
        clear hjk
        have z6 := cell_below HB.out Z6.out
        by_cases hin : j + 2 < N
        · have hjk := HJK.out
          have hjl : j < r.parts.length := by rw [HRL.out]; omega
          have hjl2 : j + 2 < r.parts.length := by rw [HRL.out]; exact hin
          obtain ⟨a, b, ea, eb, da, db, ma, mb, pa, pb, ho⟩ := HRISE.out k (by have := HN.out; omega)
          rw [hjk, List.getElem?_eq_getElem hjl] at pa
          rw [show (k + 1) * 2 = j + 2 by omega, List.getElem?_eq_getElem hjl2] at pb
          have hpa := Option.some.inj pa
          have hpb := Option.some.inj pb
          clear pa pb
          obtain ⟨bb, oo, y5, z5, y6, z6', rfl, hrow, hY⟩ := HPT.out.elem0 HB.out hjl
          obtain ⟨bb', oo', y5', z5', y6', z6'', hbo, hrow', hY'⟩ := HPT.out.elem0 HB.out hjl2
          injection hbo with hbo
          injection hbo with hb1 hb2 _
          subst hb1 hb2
          rw [hpa] at hrow hY
          rw [hpb] at hrow' hY'
          clear hpa hpb
          have HY := Lib.hid hY
          have HY' := Lib.hid hY'
          have HROW' := Lib.hid hrow'
          have HF := Lib.hid (And.intro ea (And.intro eb (And.intro da (And.intro db (And.intro ma (And.intro mb ho))))))
          obtain ⟨k0, k1, k2, k3, k4, k5, k6, k7⟩ := hrow
          have i1 : (0 : Int) ≤ (j : Int) + 2 := by omega
          have i2 : (j : Int) + 2 < (N : Int) := by omega
          have i3 : ((j : Int) + 2).toNat = j + 2 := by omega
          have i4 : (j : Int) < (N : Int) := by omega
          clear hjk hjl hjl2 ea eb da db ma mb ho hY hY' hrow'
          go_wp2_with fail
          refine (build_any (HY.out.later HB.out)).mono ?_
          rintro e w9 ⟨hB9, _, hgood⟩
          obtain ⟨t3, y3, xa, hxa, rfl, hvf⟩ := hgood HF.out.1
          obtain rfl : xa = leafV a := by
            rw [HF.out.2.2.2.2.1] at hxa
            injection hxa with hxa
            exact hxa.symm
          have HB9 := Lib.hid hB9
          have HVA := Lib.hid hvf.isV
          have z6 := cell_below hB9 z6
          obtain ⟨k0, k1, k2, k3, k4, k5, k6, k7⟩ := HROW'.out.below hB9
          have HBr9 := Lib.hid (HB.out.next hB9)
          clear hB9 hgood hxa hvf
          go_wp2_with fail
          refine (build_any (HY'.out.later HBr9.out)).mono ?_
          rintro e w10 ⟨hB10, _, hgood⟩
          obtain ⟨t4, y4, xb, hxb, rfl, hvf⟩ := hgood HF.out.2.1
          obtain rfl : xb = leafV b := by
            rw [HF.out.2.2.2.2.2.1] at hxb
            injection hxb with hxb
            exact hxb.symm
          have HVB := Lib.hid hvf.isV
          have HVA10 := Lib.hid (HVA.out.later hB10)
          have HBr10 := Lib.hid (HBr9.out.next hB10)
          clear hB10 hgood hxb hvf k0 k1 k2 k3 k4 k5 k6 k7 z6
          go_wp2_with fail
          refine (Cmp_any HVA10.out HVB.out (built_facts HF.out.2.2.1 HF.out.1 HF.out.2.2.2.2.1).1 (built_facts HF.out.2.2.2.1 HF.out.2.1 HF.out.2.2.2.2.2.1).1).mono ?_
          rintro e w11 ⟨rfl, hB11⟩
          have HBr11 := Lib.hid (HBr10.out.next hB11)
          clear hB11
          rw [HF.out.2.2.2.2.2.2]
          go_wp2_with fail
          go_roundw
          case rel => exact ⟨j + 2, k + 1, by go_num, by have := HJK.out; omega, .inr (by have := HJK.out; have := HN.out; omega), HBr11⟩
          case measure => simp [intOf]; omega
        · have i2 : ¬ ((j : Int) + 2 < (N : Int)) := by omega
          go_wp2_with fail
          refine (HC13.out _).mono ?_
          rintro e wl ⟨rfl, hBl⟩
          have HBl := Lib.hid ((HW8.out.next HB.out).next hBl)
          clear hBl
          go_wp2_with fail
          go_ret
          exact ⟨rfl, HBl.out⟩
    · obtain rfl := hbad h0
      have hc : errD (mapD (fwdP f i)) = 2 ∨ errD (mapD (fwdP f i)) = 5 := by
        have := HERR.out.2
        split at this
        · exact .inl this
        · split at this
          · exact .inr this
          · exact absurd this h0
      have HC13 : Hid (∀ W, Calls Try.prog 13 #[] W fun e w' => e = .returned (.bool true) ∧ Below W.heap.size W w') := fun W => lives_any W
      clear hbad hgood h0
      rcases hc with hc | hc
      all_goals
        have HC := Lib.hid hc
        rw [hc]
        clear hc
        go_wp2_with fail
        refine (build_any (HD2.out.later HB3.out)).mono ?_
        rintro e w4 ⟨hB4, hbad2, _⟩
        obtain rfl := hbad2 (by rw [HERR.out.1, HC.out]; decide)
        rw [HERR.out.1, HC.out]
        have HB4 := Lib.hid hB4
        clear hB4 hbad2 p0 p1 p2 p3 p4 p5 p6 p7
        go_wp2_with fail
        refine (HC13.out _).mono ?_
        rintro e wl ⟨rfl, hBl⟩
        have HBl := Lib.hid (((HW.out.next HB3.out).next HB4.out).next hBl)
        clear hBl
        go_wp2_with fail
        go_ret
        exact ⟨rfl, HBl.out⟩
end Go.Proofs.Ythpgnhmikffcpaa
