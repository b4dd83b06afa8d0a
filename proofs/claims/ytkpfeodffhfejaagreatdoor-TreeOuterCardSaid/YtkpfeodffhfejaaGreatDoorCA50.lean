/- A law's row out of its walk: a general step for rows that say 'true, the input reads as it did'. No condition. -/
import Derived.Test.YtkpfeodffhfejaaGreatDoorCA00
import Derived.WalkKit
import Derived.ProofKit
import Derived.OpenShut
import Derived.SizedLaws
import Derived.Test.YtkpfeodffhfejaaGreatDoorCA31
import Derived.SliceStrings
import Derived.ChangeArms
import Derived.Deep.Slices
import Derived.Lib.LaidIn
import Derived.PinnedBridge
import Derived.LaidMore
import Derived.Lay
namespace Go.Proofs.YtkpfeodffhfejaaGreatDoor
open Go.ChangeShapes Go.WideShapes Go.ChangeAt Go.RowKit Go.WideElems

theorem Tryz.laidOut : laidOutB Tryz.prog = true := by kernel_rfl
theorem i64_of_wf {x : Int} (h : (Lit.int .i64 x).wf = true) : I64 x := by
  simp only [Lit.wf, Bool.and_eq_true, decide_eq_true_eq] at h
  rw [show IntKind.i64.min = -9223372036854775808 from rfl, show IntKind.i64.max = 9223372036854775807 from rfl] at h
  unfold I64; omega
theorem u64_of_wf {x : Int} (h : (Lit.int .u64 x).wf = true) : U64 x := by
  simp only [Lit.wf, Bool.and_eq_true, decide_eq_true_eq] at h
  rw [show IntKind.u64.min = 0 from rfl, show IntKind.u64.max = 18446744073709551615 from rfl] at h
  unfold U64; omega

theorem trodAll_keep {H : Type} {enc : TypeId × Value → H} {P : Program} (hl : laidOutB P = true) {W W' : World} (hb : Below W.heap.size W W') :
    ∀ {ts : List TypeId} {vs : List Value} {ds : List (DataW H)} {ps : List MemPlace}, (ts.all fun t => P.readableRec t && decide (t < P.types.size)) = true →
      DataW.TrodAll enc P W 0 (fun _ => true) true ts vs ds ps → (∀ x ∈ ps, x.block < W.heap.size) →
      DataW.TrodAll enc P W' 0 (fun b => decide (b < W.heap.size)) true ts vs ds ps
  | [], _, _, _, _, h, _ => by
    obtain ⟨rfl, rfl, rfl⟩ := trodAll_nil h
    exact rfl
  | t :: ts, _, _, _, ht, h, hlt => by
    obtain ⟨v, vs, d, ds, p, q, rfl, rfl, rfl, h0, r0⟩ := trodAll_cons h
    simp only [List.all_cons, Bool.and_eq_true, decide_eq_true_eq] at ht
    exact trodAll_cons_mk (Trod_stays hl ht.1.1 ht.1.2 h0 (fun x hx => hb.same (hlt x (by simp [hx]))) (fun x hx => by simpa using hlt x (by simp [hx])))
      (trodAll_keep hl hb ht.2 r0 (fun x hx => hlt x (by simp [hx])))

/-- A law's row out of its walk: true; the input reads as it did. -/
theorem true_contract {H : Type} {enc : TypeId × Value → H} {C : Checked} {f : FuncId} {fn : Func} {s : ChangeSpec} {tb : TypeId}
    (hl : laidOutB C.prog = true) (hts : (fn.params.toList.all fun t => C.prog.readableRec t && decide (t < C.prog.types.size)) = true)
    (hres : fn.resultTypes = #[tb]) (htb : C.prog.underlying tb = some .bool) (hv : s.vars = [])
    (hs : ∀ ds : List (DataW H), ds.length = fn.params.size → s.fn H ds = { results := [.lit (.bool true)], args := ds })
    {W : World} {args : Array Value} {ds gs : List (DataW H)} {before : List MemPlace}
    (hW : DataW.Whole enc C.prog fn.params.toList s.vars false W args.toList ds gs before)
    (walk : DataW.TrodAll enc C.prog W 0 (fun _ => true) true fn.params.toList args.toList ds before → (∀ x ∈ before, x.block < W.heap.size) →
      Calls C.prog f args W fun e W' => e = .returned (.bool true) ∧ Below W.heap.size W W') :
    Calls C.prog f args W fun e W' => ∃ v, e = .returned v ∧ s.post enc C.prog fn false true false false W args v W' := by
  have hlt := hW.lt
  have hW' := hW
  obtain ⟨p, q, hA, hV, rfl, hfz, hnd⟩ := hW
  rw [hv] at hV
  have hq : gs = [] ∧ q = [] := by
    cases gs with
    | nil => exact ⟨rfl, hV⟩
    | cons a b => exact hV.elim
  obtain ⟨rfl, rfl⟩ := hq
  simp only [List.append_nil] at hlt hW'
  have hlen : ds.length = fn.params.size := by
    have : ∀ {ts : List TypeId} {vs : List Value} {ds : List (DataW H)} {ps : List MemPlace}, DataW.TrodAll enc C.prog W 0 (fun _ => true) true ts vs ds ps → ds.length = ts.length := by
      intro ts
      induction ts with
      | nil => intro vs ds ps h; obtain ⟨_, rfl, _⟩ := trodAll_nil h; rfl
      | cons t ts ih => intro vs ds ps h; obtain ⟨v, vs, d, ds, p, q, rfl, rfl, rfl, h0, r0⟩ := trodAll_cons h; simp [ih r0]
    simpa using this hA
  simp only [List.append_nil] at walk
  refine (walk hA hlt).mono fun e W' ⟨he, hb⟩ => ?_
  subst he
  refine ⟨_, rfl, ds, [], p, [], p, [], hW', ?_, ?_, ?_, World.keptBut_mono (fun _ h => h.elim) (hb.frame (fun _ => False)), fun h => by cases h⟩
  · rw [List.append_nil, hs ds hlen, hres]
    exact trodAll_mk1 (shut_bool htb true)
  · rw [List.append_nil, hs ds hlen]
    exact trodAll_keep hl hb hts hA hlt
  · rw [List.append_nil, hs ds hlen, hv]
    rfl

end Go.Proofs.YtkpfeodffhfejaaGreatDoor

/- A descriptor that was handed in, opened. Condition: its texts and slices are within a machine's reach. -/
namespace Go.Proofs.YtkpfeodffhfejaaGreatDoor
set_option linter.unusedVariables false
set_option maxRecDepth 1000000
set_option linter.unusedSimpArgs false
open Go.RowKit Go.ChangeShapes Go.WideShapes Go.ChangeAt Go.WideElems

theorem cells26 : Tryz.prog.cellsOf 26 = 8 := by kernel_rfl
theorem cells1 : Tryz.prog.cellsOf 3 = 1 ∧ Tryz.prog.cellsOf 9 = 1 ∧ Tryz.prog.cellsOf 22 = 1 ∧ Tryz.prog.cellsOf 23 = 1 ∧ Tryz.prog.cellsOf 24 = 1 := by refine ⟨?_, ?_, ?_, ?_, ?_⟩ <;> kernel_rfl
theorem bytes26 : Tryz.prog.bytesOf 26 = 112 := by kernel_rfl
theorem bytes9 : Tryz.prog.bytesOf 9 = 16 := by kernel_rfl
/-- The eight cells of a descriptor. -/
def Small {H : Type} (t : TypeId) (d : DataW H) : Prop := ∀ m ∈ d.weights Tryz.prog t, m ≤ reachBytes

theorem list8 {α : Type} {l : List α} (h : l.length = 8) : ∃ a0 a1 a2 a3 a4 a5 a6 a7, l = [a0, a1, a2, a3, a4, a5, a6, a7] := by
  match l, h with
  | [a0, a1, a2, a3, a4, a5, a6, a7], _ => exact ⟨_, _, _, _, _, _, _, _, rfl⟩
set_option maxRecDepth 100000 in
theorem desc_cells {H : Type} {enc : TypeId × Value → H} {W : World} {spare : Nat → Bool} {held : Bool} {fuel : Nat} {cs : List Value} {x : DataW H × List MemPlace}
    (h : DataW.trod enc Tryz.prog W 0 spare held fuel 26 cs = some x) (hs : Small 26 x.1) :
    ∃ (n : Nat) (k hk b i : Int) (t tx : ByteArray) (v5 v6 : Value) (y5 y6 : DataW H × List MemPlace), fuel = n + 1 ∧ cs = [.int .i64 k, .string t, .int .u64 b, .int .u64 i, .string tx, v5, v6, .int .i64 hk] ∧ I64 k ∧ I64 hk ∧ U64 b ∧ U64 i ∧ t.size ≤ reachBytes ∧ tx.size ≤ reachBytes ∧
      DataW.trod enc Tryz.prog W 0 spare held n 23 [v5] = some y5 ∧ DataW.trod enc Tryz.prog W 0 spare held n 24 [v6] = some y6 ∧ Small 23 y5.1 ∧ Small 24 y6.1 := by
  obtain ⟨xs, n, rfl, rfl, hl, hlen, hf⟩ := DataW.trod_struct Tryz.underlying26 h
  rw [cells26] at hl
  obtain ⟨q3, q9, q22, q23, q24⟩ := cells1
  obtain ⟨c0, c1, c2, c3, c4, c5, c6, c7, rfl⟩ := list8 hl
  obtain ⟨y0, y1, y2, y3, y4, y5, y6, y7, rfl⟩ := list8 (l := xs) hlen
  have h0 := hf 0 _ rfl
  have h1 := hf 1 _ rfl
  have h2 := hf 2 _ rfl
  have h3 := hf 3 _ rfl
  have h4 := hf 4 _ rfl
  have h5 := hf 5 _ rfl
  have h6 := hf 6 _ rfl
  have h7 := hf 7 _ rfl
  simp only [q3, q9, q22, q23, q24, List.drop, List.take, List.getElem?_cons_zero, List.getElem?_cons_succ] at h0 h1 h2 h3 h4 h5 h6 h7
  obtain ⟨k, e0, z0, w0⟩ := DataW.trod_int Tryz.underlying3 h0
  obtain ⟨t, e1, z1, w1⟩ := DataW.trod_string Tryz.underlying9 h1
  obtain ⟨b, e2, z2, w2⟩ := DataW.trod_int Tryz.underlying22 h2
  obtain ⟨i, e3, z3, w3⟩ := DataW.trod_int Tryz.underlying22 h3
  obtain ⟨tx, e4, z4, w4⟩ := DataW.trod_string Tryz.underlying9 h4
  obtain ⟨hk, e7, z7, w7⟩ := DataW.trod_int Tryz.underlying3 h7
  obtain rfl : c0 = _ := (List.cons.inj e0).1
  obtain rfl : c1 = _ := (List.cons.inj e1).1
  obtain rfl : c2 = _ := (List.cons.inj e2).1
  obtain rfl : c3 = _ := (List.cons.inj e3).1
  obtain rfl : c4 = _ := (List.cons.inj e4).1
  obtain rfl : c7 = _ := (List.cons.inj e7).1
  obtain rfl := z0
  obtain rfl := z1
  obtain rfl := z2
  obtain rfl := z3
  obtain rfl := z4
  obtain rfl := z7
  have hw : ∀ m ∈ DataW.weightsEach Tryz.prog [3, 9, 22, 22, 9, 23, 24, 3] [(DataW.lit (.int .i64 k) : DataW H), .lit (.string t.data.toList), .lit (.int .u64 b), .lit (.int .u64 i), .lit (.string tx.data.toList), y5.1, y6.1, .lit (.int .i64 hk)], m ≤ reachBytes := by
    intro m hm
    refine hs m ?_
    unfold DataW.weights
    rw [Tryz.underlying26]
    exact hm
  simp only [DataW.weightsEach, DataW.weights, List.nil_append, List.append_nil, List.cons_append, List.mem_cons, List.mem_append] at hw
  have e5 : t.data.toList.length = t.size := Array.length_toList
  have e6 : tx.data.toList.length = tx.size := Array.length_toList
  exact ⟨n, k, hk, b, i, t, tx, c5, c6, y5, y6, rfl, rfl, i64_of_wf w0, i64_of_wf w7, u64_of_wf w2, u64_of_wf w3, by rw [← e5]; exact hw _ (.inl rfl), by rw [← e6]; exact hw _ (.inr (.inl rfl)), h5, h6,
    fun m hm => hw m (.inr (.inr (.inl hm))), fun m hm => hw m (.inr (.inr (.inr hm)))⟩
theorem spot_none {W : World} {a : Addr} {v : Value} (h : W.cell? a = some v) : a.spot = none := by
  unfold World.cell? at h
  split at h
  · split at h
    · cases h
    · rename_i hs; simpa using hs
  · cases h
theorem add_lit (b o j : Nat) : Addr.add ⟨b, o, none⟩ j = ⟨b, o + j, none⟩ := by
  unfold Addr.add
  split
  · rename_i h; subst h; rfl
  · rfl
theorem strs_weigh {H : Type} : ∀ (l : List ByteArray) x, x ∈ l → x.size ∈ DataW.weightsAll (H := H) Tryz.prog 9 (strs l)
  | y :: l, x, h => by
    simp only [strs, List.map_cons, DataW.weightsAll, DataW.weights]
    rcases List.mem_cons.1 h with e | h
    · subst e
      have e5 : x.data.toList.length = x.size := Array.length_toList
      rw [e5]; exact List.mem_append_left _ (by simp)
    · exact List.mem_append_right _ (strs_weigh l x h)
/-- A slice of texts, opened. -/
theorem names_open {H : Type} {enc : TypeId × Value → H} {W : World} {held : Bool} {fuel : Nat} {v : Value} {y : DataW H × List MemPlace}
    (h : DataW.trod enc Tryz.prog W 0 (fun _ => true) held fuel 23 [v] = some y) (hs : Small 23 y.1) : ∃ a c l, v = .slice a l.length c ∧ NamesAt W a c l := by
  rcases open_strings Tryz.underlying23 Tryz.underlying9 cells1.2.1 h with ⟨e, rfl⟩ | ⟨a, len, cap, ss, e, hb, hl, hm, hlen, rfl, hc, hss⟩
  · obtain rfl := (List.cons.inj e).1
    exact ⟨none, 0, [], rfl, Nat.le_refl _, by simp, 0, 0, fun h => by simp at h, fun i h => by simp at h, fun x h => by cases h⟩
  · obtain rfl := (List.cons.inj e).1
    simp only [if_true] at hlen
    have hlt : (ss.take len).length = len := by rw [List.length_take]; omega
    refine ⟨some a, cap, ss.take len, by rw [hlt], by rw [hlt]; exact hl, ?_, a.block, a.off, fun h0 => ?_, fun i hi => ?_, fun x hx => ?_⟩
    · have := hs _ (by unfold DataW.weights; rw [Tryz.underlying23]; exact List.mem_cons_self)
      rw [bytes9] at this
      simp only [strs, List.length_map, List.length_take, List.length_drop] at this
      rw [hlt]
      unfold reachBytes at this
      unfold cap47
      omega
    · have := spot_none (hc 0 (by omega))
      cases a
      simp [Addr.add] at this
      subst this
      rfl
    · have hi' : i < ss.length := by rw [List.length_take] at hi; omega
      have h1 := hc i hi'
      have h3 : (a.add i) = ⟨a.block, a.off + i, none⟩ := by
        have h2 := spot_none (hc 0 (by omega))
        cases a
        simp [Addr.add] at h2
        subst h2
        exact add_lit _ _ _
      rw [h3] at h1
      rw [h1]
      simp [List.getD, List.getElem?_eq_getElem hi']
    · have h1 : x.size ∈ DataW.weightsAll (H := H) Tryz.prog 9 (strs (ss.take len)) := strs_weigh _ x hx
      have := hs _ (by unfold DataW.weights; rw [Tryz.underlying23]; exact List.mem_cons_of_mem _ (List.mem_append_left _ h1))
      unfold reachBytes at this
      unfold cap47
      omega
theorem all_weigh {H : Type} {t : TypeId} : ∀ (l : List (DataW H)) x, x ∈ l → ∀ m ∈ x.weights Tryz.prog t, m ∈ DataW.weightsAll Tryz.prog t l
  | y :: l, x, h, m, hm => by
    simp only [DataW.weightsAll]
    rcases List.mem_cons.1 h with e | h
    · subst e; exact List.mem_append_left _ hm
    · exact List.mem_append_right _ (all_weigh l x h m hm)
instance : Inhabited D := ⟨zeroD⟩
/-- A row of cells, read. -/
theorem row_read {W : World} {b o i : Nat} {cs : List Value} (h : W.cells? 0 ((⟨b, o, none⟩ : Addr).add (i * 8)) 8 = some cs) : cs.length = 8 ∧ rowD W b (o + i * 8) = .agg cs.toArray := by
  obtain ⟨_, hl, hc⟩ := World.cells?_some h
  refine ⟨hl, ?_⟩
  obtain ⟨c0, c1, c2, c3, c4, c5, c6, c7, rfl⟩ := list8 hl
  have h0 := hc 0 (by omega)
  have h1 := hc 1 (by omega)
  have h2 := hc 2 (by omega)
  have h3 := hc 3 (by omega)
  have h4 := hc 4 (by omega)
  have h5 := hc 5 (by omega)
  have h6 := hc 6 (by omega)
  have h7 := hc 7 (by omega)
  simp only [add_lit, List.getElem?_cons_zero, List.getElem?_cons_succ, Nat.add_zero] at h0 h1 h2 h3 h4 h5 h6 h7
  simp [rowD, h0, h1, h2, h3, h4, h5, h6, h7]
/-- A slice of descriptors, opened. -/
theorem parts_open {H : Type} {enc : TypeId × Value → H} {W : World} {held : Bool} {fuel : Nat} {v : Value} {y : DataW H × List MemPlace}
    (ih : ∀ n, n < fuel → ∀ (cs : List Value) (x : DataW H × List MemPlace), DataW.trod enc Tryz.prog W 0 (fun _ => true) held n 26 cs = some x → Small 26 x.1 → ∃ d, IsD W (.agg cs.toArray) d)
    (h : DataW.trod enc Tryz.prog W 0 (fun _ => true) held fuel 24 [v] = some y) (hs : Small 24 y.1) : ∃ a c l, v = .slice a l.length c ∧ PartsAt W a c l := by
  rcases DataW.trod_slice Tryz.underlying24 h with ⟨e, rfl⟩ | ⟨a, len, cap, elems, rest, n, rfl, e, rfl, hb, hl, hm, hlen, hel, _, _⟩
  · obtain rfl := (List.cons.inj e).1
    exact ⟨none, 0, [], rfl, PartsAt.nil W⟩
  · obtain rfl := (List.cons.inj e).1
    rw [cells26] at hel
    have hsz : len ≤ cap47 := by
      have := hs _ (by unfold DataW.weights; rw [Tryz.underlying24]; exact List.mem_cons_self)
      rw [bytes26] at this
      simp only [List.length_map] at this
      unfold reachBytes at this
      unfold cap47
      omega
    have each : ∀ i, i < len → ∃ d, (∃ cs, W.cells? 0 (a.add (i * 8)) 8 = some cs ∧ IsD W (.agg cs.toArray) d) := by
      intro i hi
      have := hel i hi
      rw [List.getElem?_eq_getElem (by omega)] at this
      obtain ⟨cs, h1, h2⟩ := Option.bind_eq_some_iff.1 this
      obtain ⟨d, hd⟩ := ih n (by omega) cs _ h2 (fun m hm => hs m (by
        unfold DataW.weights
        rw [Tryz.underlying24]
        exact List.mem_cons_of_mem _ (List.mem_append_left _ (all_weigh _ _ (List.mem_map.2 ⟨_, List.getElem_mem _, rfl⟩) m hm))))
      exact ⟨d, cs, h1, hd⟩
    by_cases h0 : 0 < len
    · have hsp : a.spot = none := by
        obtain ⟨_, cs, h1, _⟩ := each 0 h0
        obtain ⟨_, hl8, hc⟩ := World.cells?_some h1
        have := hc 0 (by omega)
        rw [List.getElem?_eq_getElem (by omega)] at this
        have := spot_none this
        simpa [Addr.add] using this
      obtain ⟨b, o, s⟩ := a
      simp only at hsp
      subst hsp
      obtain ⟨D, hD⟩ := Go.Deep.choose_lt each
      refine ⟨_, cap, (List.range len).map D, by simp, by simpa using hl, by simpa using hsz, b, o, fun _ => rfl, fun i hi => ?_⟩
      simp only [List.length_map, List.length_range] at hi
      obtain ⟨cs, h1, h2⟩ := hD i hi
      rw [(row_read h1).2]
      simpa using h2
    · obtain rfl : len = 0 := by omega
      exact ⟨some a, cap, [], rfl, Nat.zero_le _, by simp, 0, 0, fun h => by simp at h, fun i h => by simp at h⟩
/-- A descriptor, opened. -/
theorem desc_open {H : Type} {enc : TypeId × Value → H} {W : World} {held : Bool} : ∀ (fuel : Nat) (cs : List Value) (x : DataW H × List MemPlace),
    DataW.trod enc Tryz.prog W 0 (fun _ => true) held fuel 26 cs = some x → Small 26 x.1 → ∃ d, IsD W (.agg cs.toArray) d := by
  intro fuel
  induction fuel using Nat.strongRecOn with
  | ind fuel ih =>
    intro cs x h hs
    obtain ⟨n, k, hk, b, i, t, tx, v5, v6, y5, y6, rfl, rfl, g0, g1, g2, g3, g4, g5, h5, h6, s5, s6⟩ := desc_cells h hs
    obtain ⟨a5, c5, ns, rfl, hn⟩ := names_open h5 s5
    obtain ⟨a6, c6, ps, rfl, hp⟩ := parts_open (fun m hm => ih m (by omega)) h6 s6
    obtain ⟨p1, p2, pb, po, p3, p4⟩ := hp
    exact ⟨.mk k t b i tx ns ps hk, .mk (.mk k t b i tx ns ps hk) a5 c5 a6 c6 pb po g0 g2 g3 g1 (by unfold reachBytes at g4; unfold cap47; show t.size ≤ _; omega) (by unfold reachBytes at g5; unfold cap47; show tx.size ≤ _; omega) hn p1 p2 p3 p4⟩
end Go.Proofs.YtkpfeodffhfejaaGreatDoor

/- A descriptor that is handed in by value, opened: for the rows. No condition. -/
namespace Go.Proofs.YtkpfeodffhfejaaGreatDoor
open Go.ChangeShapes Go.WideShapes Go.ChangeAt Go.RowKit Go.WideElems

theorem agg_of_ok {P : Program} {W : World} {r : Reach} {base : Nat} {t : TypeId} {v : Value} {fs : Array Field} (hs : P.underlying t = some (.struct fs)) (h : Value.okWide P W r base t v) : ∃ cs, v = .agg cs := by
  unfold Value.okWide at h
  rw [hs] at h
  obtain ⟨cs, e, _⟩ := h
  exact ⟨cs, e⟩
set_option maxRecDepth 100000 in
theorem desc_arg {H : Type} {enc : TypeId × Value → H} {W : World} {base : Nat} {held : Bool} {v : Value} {y : DataW H} {p : List MemPlace} (hok : Value.okWide Tryz.prog W .any base 26 v)
    (h : DataW.Trod enc Tryz.prog W 0 (fun _ => true) held 26 v y p) (hs : Small 26 y) : ∃ d, IsD W v d := by
  obtain ⟨cs, rfl⟩ := agg_of_ok Tryz.underlying26 hok
  obtain ⟨fuel, h⟩ := h
  exact desc_open fuel cs.toList (y, p) h hs
theorem small_of {H : Type} {ts : List TypeId} {ds : List (DataW H)} (h : (DataW.weightsEach Tryz.prog ts ds).all (· ≤ reachBytes) = true) {j : Nat} {t : TypeId} {d : DataW H} (ht : ts[j]? = some t) (hd : ds[j]? = some d) : Small t d := by
  intro m hm
  have := List.all_eq_true.1 h m (DataW.weights_mem_each ht hd m hm)
  simpa using this
end Go.Proofs.YtkpfeodffhfejaaGreatDoor

/- The rows of the tree: they list the tables of utf8 and unicode's case ranges: the world in which they are laid. No condition. -/
namespace Go.Proofs.YtkpfeodffhfejaaGreatDoor
open Go.Shelf Go.ChangeShapes Go.WideShapes Go.ChangeAt Go.RowKit Go.Lib

theorem own : ownKnob Tryz.prog.godebug = none := by kernel_rfl
theorem laid_fits (os : Os) : (World.holding Tryz.prog os ⟨#[], #[], []⟩).layFits Tryz.prog Rows.treeTypesRow.laid [] = true := by kernel_rfl
theorem laid_ifaces (os : Os) : (World.holding Tryz.prog os ⟨#[], #[], []⟩).layIfaces Tryz.prog Rows.treeTypesRow.laid (World.laidAll Tryz.prog os Rows.treeTypesRow.laid) = true := by kernel_rfl
theorem laid_met (os : Os) (args : Array Value) : laidMetH Tryz.prog Rows.treeTypesRow.laid ((World.laidAll Tryz.prog os Rows.treeTypesRow.laid).forCall (fun _ _ => 0) ⟨#[], args, []⟩).memory := by
  rw [MakeChecks.laidMetH_plain _ _ _ (by kernel_rfl)]
  exact laidMet_laidAll _ (laid_fits os) (laid_ifaces os)
end Go.Proofs.YtkpfeodffhfejaaGreatDoor
