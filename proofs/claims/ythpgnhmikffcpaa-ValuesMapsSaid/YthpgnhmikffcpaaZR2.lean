/- The values that stand directly in a value: inner. Condition: the argument is a value. -/
import Derived.Test.YthpgnhmikffcpaaZM4
import Derived.Test.YthpgnhmikffcpaaZR0
namespace Go.Proofs.Ythpgnhmikffcpaa
set_option linter.unusedVariables false
set_option linter.unusedSimpArgs false
open Go.RowKit

def kids : V → List V
  | .great _ _ _ _ l => l
  | _ => []
/-- The values of l lie in the slice. -/
structure Kids (w0 w : World) (a : Option Addr) (c : Nat) (l : List V) (bb oo : Nat) (vs : Nat → Value) : Prop where
  cap : l.length ≤ c
  len : l.length < 1000
  adr : 0 < l.length → a = some ⟨bb, oo, none⟩
  cell : ∀ i, i < l.length → w.cell? ⟨bb, oo + i, none⟩ = some (vs i)
  val : ∀ i (h : i < l.length), IsV w0 (vs i) l[i]
  ifc : ∀ i, i < l.length → ∃ t y, vs i = .iface t y
def InnerPost (w0 w : World) (x : V) (e : Ending) (w' : World) : Prop :=
  Below w.heap.size w w' ∧ ∃ a c bb oo vs, e = .returned (.slice a (kids x).length c) ∧ Kids w0 w' a c (kids x) bb oo vs
theorem Kids.none (w0 w : World) (a : Option Addr) (c : Nat) : Kids w0 w a c [] 0 0 (fun _ => undef) := ⟨Nat.zero_le _, by simp, fun h => by simp at h, fun i h => by simp at h, fun i h => by simp at h, fun i h => by simp at h⟩
theorem inner_nil (w0 w : World) : Calls Try.prog 50 #[.nilIface] w (InnerPost w0 w .nil) := by
  have t104 := asn104
  have t108 := asn108
  have t114 := asn114
  have t117 := asn117
  go_enter Try.func50, Try.ntmps50
  go_wp2
  go_ret
  exact ⟨Below.refl _ _, none, 0, 0, 0, _, rfl, Kids.none _ _ _ _⟩
theorem inner_none (t : TypeId) (y : Value) (x : V) (hx : kids x = []) (h1 : t ≠ 104) (h2 : t ≠ 114) (h3 : t ≠ 117) (h4 : t ≠ 108) (w0 w : World) : Calls Try.prog 50 #[.iface t y] w (InnerPost w0 w x) := by
  have t104 := fun (y : Value) (w : World) => as104 t y w
  have t108 := fun (y : Value) (w : World) => as108 t y w
  have t114 := fun (y : Value) (w : World) => as114 t y w
  have t117 := fun (y : Value) (w : World) => as117 t y w
  simp only [if_neg h1] at t104
  simp only [if_neg h2] at t114
  simp only [if_neg h3] at t117
  simp only [if_neg h4] at t108
  have HX := Lib.hid hx
  clear hx
  go_enter Try.func50, Try.ntmps50
  go_wp2
  go_ret
  unfold InnerPost
  rw [HX.out]
  exact ⟨Below.refl _ _, none, 0, 0, 0, _, rfl, Kids.none _ _ _ _⟩
theorem inner_list (b : B) (a : Option Addr) (c bb oo : Nat) (vs : Nat → Value) (l : List V) (w0 w : World) (hk : Kids w0 w a c l bb oo vs) :
    Calls Try.prog 50 #[.iface 114 (.agg #[.int .i64 b.kind, .string b.name, .int .i64 b.hook, .slice a l.length c])] w (InnerPost w0 w (.great .list b 0 [] l)) := by
  have t104 := as104
  have t114 := as114
  have HK := Lib.hid hk
  clear hk
  go_enter Try.func50, Try.ntmps50
  go_wp2
  go_ret
  have hB := Below.new (w := w) (.cells #[.int .i64 b.kind, .string b.name, .int .i64 b.hook, .slice a l.length c] 114)
  exact ⟨hB, a, c, bb, oo, vs, rfl, HK.out.cap, HK.out.len, HK.out.adr, fun i h => cell_below hB (HK.out.cell i h), HK.out.val, HK.out.ifc⟩
theorem inner_ptr0 (b : B) (addr : Int) (w0 w : World) : Calls Try.prog 50 #[.iface 108 (.agg #[.int .i64 b.kind, .string b.name, .int .i64 b.hook, .int .u64 addr, .nilIface])] w (InnerPost w0 w (.great .ptr b addr [] [])) := by
  have t104 := as104
  have t108 := as108
  have t114 := as114
  have t117 := as117
  go_enter Try.func50, Try.ntmps50
  go_wp2
  go_ret
  exact ⟨Below.new _, none, 0, 0, 0, _, rfl, Kids.none _ _ _ _⟩
theorem row_kids {w0 w : World} {base : Nat} {v : Value} {l : List V} {vs : Nat → Value} {n : Nat} (hn : n = l.length) (hown : w.ownsRow base 30 1 v n ((List.range n).map vs)) (hl : n < 1000) (hv : ∀ i (h : i < l.length), IsV w0 (vs i) l[i]) (hi : ∀ i, i < l.length → ∃ t y, vs i = .iface t y) : ∃ a c bb, v = .slice a l.length c ∧ Kids w0 w a c l bb 0 vs := by
  subst hn
  by_cases h0 : 0 < l.length
  · obtain ⟨g, cap, e1, e2, e3, e4, e5, e6⟩ := owns_cell hown h0
    exact ⟨_, cap, g, e1, e4, hl, fun _ => rfl, fun i h => by rw [Nat.zero_add]; exact e6 i _ (by simp [h]), hv, hi⟩
  · have e : l = [] := List.eq_nil_of_length_eq_zero (by omega)
    subst e
    rcases hown.2 with ⟨h, _⟩ | ⟨g, cap, cur, h, _⟩
    · exact ⟨none, 0, 0, h, Nat.zero_le _, by simp, fun h => by simp at h, fun i h => by simp at h, fun i h => by simp at h, fun i h => by simp at h⟩
    · exact ⟨_, cap, 0, h, Nat.zero_le _, by simp, fun h => by simp at h, fun i h => by simp at h, fun i h => by simp at h, fun i h => by simp at h⟩
theorem inner_ptr1 (b : B) (addr : Int) (t : TypeId) (y : Value) (x : V) (w0 w : World) (hx : IsV w0 (.iface t y) x) : Calls Try.prog 50 #[.iface 108 (.agg #[.int .i64 b.kind, .string b.name, .int .i64 b.hook, .int .u64 addr, .iface t y])] w (InnerPost w0 w (.great .ptr b addr [] [x])) := by
  have t104 := as104
  have t108 := as108
  have t114 := as114
  have t117 := as117
  have HX := Lib.hid hx
  clear hx
  obtain ⟨i0, hi0, hz0, hz1, hz2⟩ := info_parts vinfo30
  go_enter Try.func50, Try.ntmps50
  go_wp2_with (at_builtin; refine wpList_append_one _ rfl (.tmp 58) (.tmp 61) 75 rfl w.heap.size 30 i0 .nilIface 1 16 Try.underlying75 hi0 hz0 hz1 hz2 rfl (by decide) _ _ _ rfl (World.ownsRow_nil _ _ _ _) ⟨w.heap.size + 1, 0, none⟩ 1 [.iface t y] rfl rfl ?c1 ?c2 ?c3 ?c4 ?c5 ?_)
  case c1 =>
    intro j u' hj
    match j, hj with
    | 0, hj => simp at hj; subst hj; simp [Addr.add]
  case c2 => intro u' hu'; simp at hu'; subst hu'; rfl
  case c3 => unfold maxLen; omega
  case c4 => omega
  case c5 => simp; omega
  intro v' w4 hown' hgrow hlast
  have HB : Hid (Below w.heap.size w w4) := by
    refine Below.grown ((Below.new _).push _) hgrow (by simp; omega) ?_
    intro k hk
    simp [Value.ownBlock] at hk
  have HK := Lib.hid (row_kids (w0 := w0) (l := [x]) (vs := fun _ => .iface t y) rfl hown' (by simp) (fun i h => by simp at h; subst h; exact HX.out) (fun _ _ => ⟨_, _, rfl⟩))
  clear hown' hgrow hlast
  obtain ⟨a, c, bb, rfl, hk⟩ := HK.out
  have HKK := Lib.hid hk
  clear hk
  go_wp2_with fail
  go_ret
  exact ⟨HB.out, a, c, bb, 0, _, rfl, HKK.out⟩

set_option maxHeartbeats 4000000 in
theorem inner_struct (b : B) (a : Option Addr) (c bb oo : Nat) (vs : Nat → Value) (names : List ByteArray) (l : List V) (w0 w : World) (hn : names.length = l.length) (h2 : l.length < 1000) (h3 : 0 < l.length → a = some ⟨bb, oo, none⟩)
    (h4 : ∀ i (h : i < names.length), w.cell? ⟨bb, oo + i * 2, none⟩ = some (.string names[i])) (h4' : ∀ i, i < l.length → w.cell? ⟨bb, oo + i * 2 + 1, none⟩ = some (vs i)) (h5 : ∀ i (h : i < l.length), IsV w0 (vs i) l[i]) (h6 : ∀ i, i < l.length → ∃ t y, vs i = .iface t y) :
    Calls Try.prog 50 #[.iface 104 (.agg #[.int .i64 b.kind, .string b.name, .int .i64 b.hook, .slice a l.length c])] w (InnerPost w0 w (.great .struct b 0 names l)) := by
  have t104 := as104
  have HN := Lib.hid hn
  have H3 := Lib.hid h3
  have H4 := Lib.hid h4
  have H4' := Lib.hid h4'
  have H5 := Lib.hid h5
  have H6 := Lib.hid h6
  clear hn h3 h4 h4' h5 h6
  obtain ⟨i0, hi0, hz0, hz1, hz2⟩ := info_parts vinfo30
  have hl9 : l.length ≤ 9223372036854775807 := by omega
  go_enter Try.func50, Try.ntmps50
  go_wp2_with fail
  go_loopw [3, 19] (fun v k wr => ∃ i : Nat, k = .int .i64 (i : Int) ∧ i ≤ l.length ∧ Hid (wr.ownsRow w.heap.size 30 1 v i ((List.range i).map vs)) ∧ Hid (Below w.heap.size w wr)) (fun _ k _ => l.length - (intOf k).toNat)
  case atStart => exact ⟨0, rfl, Nat.zero_le _, ⟨rfl, .inl ⟨rfl, rfl⟩⟩, (Below.new _)⟩
  case round =>
    obtain ⟨i, rfl, hi, HO, HB⟩ := hrel
    by_cases hin : i < l.length
    · obtain rfl := H3.out (by omega)
      obtain ⟨t, y, hty⟩ := H6.out i hin
      have k0 := cell_below HB.out (H4.out i (by rw [HN.out]; exact hin))
      have k1 := cell_below HB.out (H4'.out i hin)
      rw [hty] at k1
      have HTY := Lib.hid hty
      clear hty
      have hz := HB.out.size
      have HO2 := Lib.hid ((HO.out.alloc (.cells #[.string (names[i]'(by rw [HN.out]; exact hin)), .iface t y] 106)).alloc (.cells #[.iface t y] 30))
      have hbase : w.heap.size ≤ ((wr.alloc (.cells #[.string (names[i]'(by rw [HN.out]; exact hin)), .iface t y] 106)).alloc (.cells #[.iface t y] 30)).heap.size := by simp; omega
      generalize names[i]'(by rw [HN.out]; exact hin) = nm at k0 HO2 hbase
      go_wp2_with (at_builtin; refine wpList_append_one _ rfl (.tmp 23) (.tmp 26) 75 rfl w.heap.size 30 i0 .nilIface 1 16 Try.underlying75 hi0 hz0 hz1 hz2 rfl (by decide) _ _ _ rfl HO2.out ⟨wr.heap.size + 1, 0, none⟩ 1 [.iface t y] rfl rfl ?c1 ?c2 ?c3 ?c4 hbase ?_)
      case c2 => rfl
      case c3 => unfold maxLen; omega
      case c4 => omega
      intro v' w4 hown' hgrow hlast
      have HB4 : Hid (Below w.heap.size w w4) := below_grown ((HB.out.push _).push _) hgrow HO2.out hbase
      have HO4 : Hid (w4.ownsRow w.heap.size 30 1 v' (i + 1) ((List.range (i + 1)).map vs)) := by
        show World.ownsRow _ _ _ _ _ _ _
        rw [List.range_succ, List.map_append, List.map_singleton, HTY.out]
        exact hown'
      clear hown' hgrow hlast HO2 k0 k1
      go_wp2_with fail
      go_roundw
      case rel => exact ⟨i + 1, by go_num, by omega, HO4, HB4⟩
      case measure => simp [intOf]; omega
    · have hii : i = l.length := by omega
      obtain ⟨a2, c2, b2, hv2, hk2⟩ := row_kids (w0 := w0) hii HO.out (by omega) H5.out H6.out
      have HK := Lib.hid hk2
      have HII := Lib.hid hii
      subst hv2
      clear hk2
      subst hii
      go_wp2_with fail
      go_ret
      exact ⟨HB.out, a2, c2, b2, 0, vs, rfl, HK.out⟩

set_option maxHeartbeats 4000000 in
theorem inner_map (b : B) (a : Option Addr) (c bb oo n : Nat) (vs : Nat → Value) (l : List V) (w0 w : World) (hn : l.length = n * 2) (h2 : l.length < 1000) (h3 : 0 < n → a = some ⟨bb, oo, none⟩)
    (h4 : ∀ i, i < n → w.cell? ⟨bb, oo + i * 2, none⟩ = some (vs (i * 2))) (h4' : ∀ i, i < n → w.cell? ⟨bb, oo + i * 2 + 1, none⟩ = some (vs (i * 2 + 1))) (h5 : ∀ i (h : i < l.length), IsV w0 (vs i) l[i]) (h6 : ∀ i, i < l.length → ∃ t y, vs i = .iface t y) :
    Calls Try.prog 50 #[.iface 117 (.agg #[.int .i64 b.kind, .string b.name, .int .i64 b.hook, .slice a n c])] w (InnerPost w0 w (.great .map b 0 [] l)) := by
  have t104 := as104
  have t114 := as114
  have t117 := as117
  have hn9 : n < 500 := by omega
  have HN := Lib.hid hn
  have H3 := Lib.hid h3
  have H4 := Lib.hid h4
  have H4' := Lib.hid h4'
  have H5 := Lib.hid h5
  have H6 := Lib.hid h6
  clear hn h3 h4 h4' h5 h6
  obtain ⟨i0, hi0, hz0, hz1, hz2⟩ := info_parts vinfo30
  have hl9 : n ≤ 9223372036854775807 := by omega
  go_enter Try.func50, Try.ntmps50
  go_wp2_with fail
  go_loopw [3, 40] (fun v k wr => ∃ i : Nat, k = .int .i64 (i : Int) ∧ i ≤ n ∧ Hid (wr.ownsRow w.heap.size 30 1 v (i * 2) ((List.range (i * 2)).map vs)) ∧ Hid (Below w.heap.size w wr)) (fun _ k _ => n - (intOf k).toNat)
  case atStart => exact ⟨0, rfl, Nat.zero_le _, ⟨rfl, .inl ⟨rfl, rfl⟩⟩, (Below.new _)⟩
  case round =>
    obtain ⟨i, rfl, hi, HO, HB⟩ := hrel
    by_cases hin : i < n
    · obtain rfl := H3.out (by omega)
      obtain ⟨t, y, hty⟩ := H6.out (i * 2) (by rw [HN.out]; omega)
      obtain ⟨s, z, hsz⟩ := H6.out (i * 2 + 1) (by rw [HN.out]; omega)
      have k0 := cell_below HB.out (H4.out i hin)
      have k1 := cell_below HB.out (H4'.out i hin)
      rw [hty] at k0
      rw [hsz] at k1
      have HTY := Lib.hid hty
      have HSZ := Lib.hid hsz
      clear hty hsz
      have hz := HB.out.size
      have HO2 := Lib.hid ((HO.out.alloc (.cells #[.iface t y, .iface s z] 119)).alloc (.cells #[.iface t y, .iface s z] 30))
      have hbase : w.heap.size ≤ ((wr.alloc (.cells #[.iface t y, .iface s z] 119)).alloc (.cells #[.iface t y, .iface s z] 30)).heap.size := by simp; omega
      go_wp2_with (at_builtin; refine wpList_append_own _ rfl (.tmp 44) (.tmp 49) 75 rfl w.heap.size 30 i0 .nilIface 1 16 Try.underlying75 hi0 hz0 hz1 hz2 rfl (by decide) _ _ _ rfl HO2.out ⟨wr.heap.size + 1, 0, none⟩ 2 2 [.iface t y, .iface s z] rfl rfl ?c1 ?c2 ?c3 ?c4 hbase ?_)
      case c2 => exact ⟨rfl, rfl⟩
      case c3 => unfold maxLen; omega
      case c4 => omega
      intro v' w4 hown' hgrow _
      have HB4 : Hid (Below w.heap.size w w4) := below_grown ((HB.out.push _).push _) hgrow HO2.out hbase
      have HO4 : Hid (w4.ownsRow w.heap.size 30 1 v' ((i + 1) * 2) ((List.range ((i + 1) * 2)).map vs)) := by
        show World.ownsRow _ _ _ _ _ _ _
        have e : (i + 1) * 2 = i * 2 + 1 + 1 := by omega
        rw [e, List.range_succ, List.range_succ, List.map_append, List.map_append, List.map_singleton, List.map_singleton, HTY.out, HSZ.out, List.append_assoc]
        exact hown'
      clear hown' hgrow HO2 k0 k1
      go_wp2_with fail
      go_roundw
      case rel => exact ⟨i + 1, by go_num, by omega, HO4, HB4⟩
      case measure => simp [intOf]; omega
    · have hii : i = n := by omega
      obtain ⟨a2, c2, b2, hv2, hk2⟩ := row_kids (w0 := w0) (n := i * 2) (by rw [HN.out, hii]) HO.out (by omega) H5.out H6.out
      have HK := Lib.hid hk2
      subst hv2
      clear hk2
      subst hii
      go_wp2_with fail
      go_ret
      exact ⟨HB.out, a2, c2, b2, 0, vs, rfl, HK.out⟩

theorem Leaf.ty_ne (l : Leaf) : l.ty ≠ 104 ∧ l.ty ≠ 114 ∧ l.ty ≠ 117 ∧ l.ty ≠ 108 := by cases l <;> simp [Leaf.ty]
theorem inner_any {w0 w : World} (hb : Below w0.heap.size w0 w) {v : Value} {x : V} (h : IsV w0 v x) : Calls Try.prog 50 #[v] w (InnerPost w0 w x) := by
  cases h with
  | nil => exact inner_none 80 _ .nil rfl (by decide) (by decide) (by decide) (by decide) w0 w
  | nil0 => exact inner_nil w0 w
  | leaf l => rw [Leaf.val_eq]; exact inner_none l.ty _ (.leaf l) rfl l.ty_ne.1 l.ty_ne.2.1 l.ty_ne.2.2.1 l.ty_ne.2.2.2 w0 w
  | list b a c bb oo vs l h1 h2 h3 h4 h5 h6 => exact inner_list b a c bb oo vs l w0 w ⟨h1, h2, h3, fun i h => cell_below hb (h4 i h), h5, h6⟩
  | struct b a c bb oo vs names l hn h1 h2 h3 h4 h4' h5 h6 => exact inner_struct b a c bb oo vs names l w0 w hn h2 h3 (fun i h => cell_below hb (h4 i h)) (fun i h => cell_below hb (h4' i h)) h5 h6
  | map b a c bb oo n vs l hn h1 h2 h3 h4 h4' h5 h6 => exact inner_map b a c bb oo n vs l w0 w hn h2 h3 (fun i h => cell_below hb (h4 i h)) (fun i h => cell_below hb (h4' i h)) h5 h6
  | ptr0 b addr => exact inner_ptr0 b addr w0 w
  | ptr1 b addr u x hv h =>
    rcases h.shape with rfl | ⟨t, y, rfl⟩
    · exact absurd rfl hv
    · exact inner_ptr1 b addr t y x w0 w h
end Go.Proofs.Ythpgnhmikffcpaa
