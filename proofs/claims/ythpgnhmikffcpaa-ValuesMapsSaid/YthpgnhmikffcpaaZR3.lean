/- A region that draws its order: an operation that yields what it yields while a condition on the world holds may be taken first, though late operations, that wait for it, break the condition. No condition. -/
import Derived.OrdersHeld
import Derived.RegionTactic
import Derived.Test.YthpgnhmikffcpaaZR2
import Derived.Test.YthpgnhmikffcpaaZR1
import Derived.Test.YthpgnhmikffcpaaZM5
import Derived.Deep.AppendLies
import Derived.Deep.RegionLaw
import Derived.Deep.DeepCutAuto
namespace Go.Proofs.Ythpgnhmikffcpaa
set_option linter.unusedVariables false
open Go

section
variable {P : Program} {ops : Array Oper} {Q : Exit → Act → World → Prop} {md : Region.Mode} {S T : World → Prop} {late : List Nat}

/-- No late operation has come up. -/
def quietB (late : List Nat) (listed : Array Bool) : Bool := late.all fun j => !(listed.getD j false)
theorem quiet_set {i : Nat} (h : i ∉ late) (listed : Array Bool) : quietB late (listed.setIfInBounds i true) = quietB late listed := by
  unfold quietB
  rw [Bool.eq_iff_iff, List.all_eq_true, List.all_eq_true]
  have key : ∀ j ∈ late, (listed.setIfInBounds i true).getD j false = listed.getD j false := by
    intro j hj
    have hij : i ≠ j := fun e => h (e ▸ hj)
    simp only [Array.getD_eq_getD_getElem?, Array.getElem?_setIfInBounds, if_neg hij]
  exact ⟨fun q j hj => by rw [← key j hj]; exact q j hj, fun q j hj => by rw [key j hj]; exact q j hj⟩
/-- Any order from here on; T holds behind each operation, S too as long as no late one has come up. -/
def AnyLate (P : Program) (md : Region.Mode) (ops : Array Oper) (Q : Exit → Act → World → Prop) (late : List Nat) (S T : World → Prop) : Nat → Array Bool → Act → World → Prop
  | 0, listed, a, w => Region.ready md ops listed = [] ∧ Q .normal a w
  | n + 1, listed, a, w =>
    (Region.ready md ops listed = [] → Q .normal a w) ∧
      ∀ i ∈ Region.ready md ops listed, wpOp P ops Q i (fun a' w' => ((quietB late (listed.setIfInBounds i true) = true → S w') ∧ T w') ∧ AnyLate P md ops Q late S T n (listed.setIfInBounds i true) a' w') a w
theorem any_of_late : ∀ (n : Nat) (listed : Array Bool) (a : Act) (w : World), AnyLate P md ops Q late S T n listed a w → wpAny P md ops Q n listed a w
  | 0, _, _, _, h => h
  | n + 1, _, _, _, h => ⟨h.1, fun i hi => wpOp_mono (fun a' w' h' => any_of_late n _ a' w' h'.2) (h.2 i hi)⟩
/-- All late operations wait for operation i. -/
def waitB (md : Region.Mode) (ops : Array Oper) (late : List Nat) (i : Nat) : Bool :=
  late.all fun j => match ops[j]? with
    | some o => o.after.any fun e => Region.binds md e && e.on == i
    | none => true
theorem late_first {i : Nat} {oi : Oper} {v : Value} (hi : ops[i]? = some oi) (hsel : ∀ (j : Nat) (o : Oper) cs b, ops[j]? = some o → o.op ≠ .select cs b)
    (hQ : ∀ c a w, Q (.panic c) (a.put oi.dst v) w → Q (.panic c) a w) (hil : i ∉ late) (fl : Bool) (hl : fl = true → waitB md ops late i = true) :
    ∀ (n : Nat) (listed : Array Bool) (a : Act) (w : World),
      (∀ j oj, ops[j]? = some oj → j ≠ i → listed.getD j true = false → (∀ e ∈ oj.after, Region.binds md e = true → e.on ≠ i) → oi.apart ops oj = true) →
      i ∈ Region.ready md ops listed → YieldsIf P ops (fun w => (fl = true → S w) ∧ T w) oi v a → (quietB late listed = true → S w) → T w → (fl = true → quietB late listed = true) →
      AnyLate P md ops Q late S T n (listed.setIfInBounds i true) (a.put oi.dst v) w → AnyLate P md ops Q late S T (n + 1) listed a w := by
  intro n
  induction n with
  | zero =>
    intro listed a w _ hr hy hS hT hq H
    refine ⟨fun h => (by rw [h] at hr; cases hr), fun j hj => ?_⟩
    by_cases hji : j = i
    · subst hji; exact hy.wpOp hi ⟨fun h => hS (hq h), hT⟩ ⟨⟨fun h => hS (by rw [quiet_set hil] at h; exact h), hT⟩, H⟩
    · have := ready_mono hj hji
      rw [H.1] at this
      cases this
  | succ n ih =>
    intro listed a w hfree hr hy hS hT hq H
    refine ⟨fun h => (by rw [h] at hr; cases hr), fun j hj => ?_⟩
    by_cases hji : j = i
    · subst hji; exact hy.wpOp hi ⟨fun h => hS (hq h), hT⟩ ⟨⟨fun h => hS (by rw [quiet_set hil] at h; exact h), hT⟩, H⟩
    · have h1 := H.2 j (ready_mono hj hji)
      obtain ⟨hjun, oj, hoj, hall⟩ := mem_ready.1 hj
      have hnot : ∀ e ∈ oj.after, Region.binds md e = true → e.on ≠ i := fun e he hb heq => by
        have h1 := hall e he hb
        have h0 := (mem_ready.1 hr).1
        rw [heq] at h1
        rcases Nat.lt_or_ge i listed.size with h' | h'
        · simp [h'] at h0 h1; rw [h0] at h1; cases h1
        · simp [Array.getElem?_eq_none h'] at h1
      have hjl : fl = true → j ∉ late := fun hfl hm => by
        have := List.all_eq_true.1 (hl hfl) j hm
        rw [hoj] at this
        simp only [Array.any_eq_true, Bool.and_eq_true, beq_iff_eq] at this
        obtain ⟨k, hk, hb, he⟩ := this
        exact hnot _ (Array.getElem_mem hk) hb he
      have h2 := wpOp_putIf hoj (hfree j oj hoj hji hjun hnot) (fun cs b => hsel i oi cs b hi) (fun cs b => hsel j oj cs b hoj) hQ hy h1
      have hfree' : ∀ k ok, ops[k]? = some ok → k ≠ i → (listed.setIfInBounds j true).getD k true = false →
          (∀ e ∈ ok.after, Region.binds md e = true → e.on ≠ i) → oi.apart ops ok = true := fun k ok hk hki hun hno => by
        refine hfree k ok hk hki ?_ hno
        by_cases hjk : j = k
        · subst hjk; exact hjun
        · rw [getD_set_ne true hjk] at hun; exact hun
      refine wpOp_mono (fun a' w' h3 => ?_) h2
      obtain ⟨h3y, ⟨h3s, h3t⟩, h3a⟩ := h3
      rw [Array.setIfInBounds_comm _ _ (Ne.symm hji), quiet_set hil] at h3s
      refine ⟨⟨h3s, h3t⟩, ih (listed.setIfInBounds j true) a' w' hfree' (ready_mono hr (Ne.symm hji)) h3y h3s h3t (fun h => by rw [quiet_set (hjl h)]; exact hq h) ?_⟩
      rw [Array.setIfInBounds_comm _ _ hji]
      exact h3a
/-- Take number i first. -/
theorem late_take {i : Nat} {oi : Oper} (v : Value) (fl : Bool) {n : Nat} {listed : Array Bool} {a : Act} {w : World} (hi : ops[i]? = some oi)
    (hs : Region.noSelect ops = true) (hf : Region.free md ops listed i = true) (hr : (Region.ready md ops listed).contains i = true) (hil : late.contains i = false) (hl : fl = true → waitB md ops late i = true)
    (hQ : ∀ c a w, Q (.panic c) (a.put oi.dst v) w → Q (.panic c) a w) (hw : Region.wanted oi (yielded ops a.tmps) = true) (hy : ∀ w, (fl = true → S w) → T w → (execOp a.eval oi).run P w = .ok (.value v) w)
    (hS : quietB late listed = true → S w) (hT : T w) (hq : fl = true → quietB late listed = true)
    (h : AnyLate P md ops Q late S T n (listed.setIfInBounds i true) (a.put oi.dst v) w) : AnyLate P md ops Q late S T (n + 1) listed a w :=
  late_first hi (Region.noSelect_spec hs) hQ (by simpa using hil) fl hl n listed a w (Region.free_spec hi hf) (by simpa using hr) (.inl ⟨hw, fun w h => hy w h.1 h.2⟩) hS hT hq h
/-- One alone may come up. -/
theorem late_one (k : Nat) {o : Oper} {n : Nat} {listed : Array Bool} {a : Act} {w : World} (ho : ops[k]? = some o) (hr : Region.ready md ops listed = [k])
    (h : ∀ K : Act → World → Prop, (∀ a' w', (quietB late (listed.setIfInBounds k true) = true → S w') → T w' → AnyLate P md ops Q late S T n (listed.setIfInBounds k true) a' w' → K a' w') →
      if Region.wanted o (yielded ops a.tmps) = true then Oper.wp P o a w K Q else K (a.put o.dst undef) w) : AnyLate P md ops Q late S T (n + 1) listed a w := by
  refine ⟨(fun h0 => by rw [hr] at h0; cases h0), fun i hi => ?_⟩
  rw [hr] at hi
  obtain rfl := List.mem_singleton.1 hi
  have q := h (fun a' w' => ((quietB late (listed.setIfInBounds i true) = true → S w') ∧ T w') ∧ AnyLate P md ops Q late S T n (listed.setIfInBounds i true) a' w') fun a' w' h1 h2 h3 => ⟨⟨h1, h2⟩, h3⟩
  unfold wpOp
  simp only [ho]
  split
  · rename_i hw
    rw [if_pos hw] at q
    exact .inl q
  · rename_i hw
    rw [if_neg hw] at q
    exact q
theorem late_done {listed : Array Bool} {a : Act} {w : World} (hr : Region.ready md ops listed = []) (h : Q .normal a w) : ∀ n, AnyLate P md ops Q late S T n listed a w
  | 0 => ⟨hr, h⟩
  | _ + 1 => ⟨fun _ => h, by rw [hr]; simp⟩
theorem late_begin (late : List Nat) (S T : World → Prop) {id : Nat} {a : Act} {w : World} (hm : P.follows .mixedOrders = true) (h : AnyLate P .any ops Q late S T ops.size (Array.replicate ops.size false) a w.drew) : (Code.region id ops true).wp P Q a w :=
  wp_region_any hm (any_of_late _ _ _ _ h)
end
end Go.Proofs.Ythpgnhmikffcpaa

/- Descriptors in a row of the call's own. No condition. -/
namespace Go.Proofs.Ythpgnhmikffcpaa
set_option linter.unusedVariables false
open Go.RowKit

theorem vinfo26 : (Try.prog.info? 26).map (fun i => (i.zero, i.size, i.bytes)) = some (some (.agg #[.int .i64 0, .string ⟨#[]⟩, .int .u64 0, .int .u64 0, .string ⟨#[]⟩, .slice none 0 0, .slice none 0 0, .int .i64 0]), 8, 112) := by kernel_rfl
theorem vinfo9 : (Try.prog.info? 9).map (fun i => (i.zero, i.size, i.bytes)) = some (some (.string ⟨#[]⟩), 1, 16) := by kernel_rfl

/-- The cells of an aggregate. -/
def cellsOfV : Value → List Value
  | .agg cs => cs.toList
  | _ => []
def flatV8 : List Value → List Value
  | [] => []
  | u :: l => cellsOfV u ++ flatV8 l
theorem flatV8_snoc : ∀ (l : List Value) (u : Value), flatV8 (l ++ [u]) = flatV8 l ++ cellsOfV u
  | [], u => by simp [flatV8]
  | x :: l, u => by simp [flatV8, flatV8_snoc l u]
theorem flatV8_get : ∀ (l : List Value), (∀ u ∈ l, (cellsOfV u).length = 8) → ∀ i (h : i < l.length) j, j < 8 → (flatV8 l)[i * 8 + j]? = (cellsOfV l[i])[j]?
  | x :: l, hl, 0, h, j, hj => by
    have h8 := hl x (by simp)
    simp only [flatV8, List.getElem_cons_zero]
    rw [List.getElem?_append_left (by omega), Nat.zero_mul, Nat.zero_add]
  | x :: l, hl, i + 1, h, j, hj => by
    have h8 := hl x (by simp)
    simp only [flatV8, List.getElem_cons_succ]
    rw [List.getElem?_append_right (by omega), h8, show (i + 1) * 8 + j - 8 = i * 8 + j by omega]
    exact flatV8_get l (fun u hu => hl u (by simp [hu])) i (by simpa using h) j hj

/-- The descriptors ds lie in the row v, each in blocks of its own. -/
structure DRow (lo : Nat) (vn v : Value) (us : List Value) (ds : List D) (w : World) : Prop where
  own : w.ownsRow lo 26 8 v us.length (flatV8 us)
  len : ds.length = us.length
  eight : ∀ u ∈ us, (cellsOfV u).length = 8 ∧ ∃ cs, u = .agg cs
  ex : ∃ R : Nat → Nat → Prop, (∀ j (h : j < us.length) (h' : j < ds.length), IsDF w (R j) us[j] ds[j]) ∧ (∀ j k, R j k → lo ≤ k ∧ k < w.heap.size ∧ v.ownBlock ≠ some k ∧ vn.ownBlock ≠ some k) ∧ ∀ i j k, i ≠ j → R i k → ¬ R j k
  sep : ∀ k, v.ownBlock = some k → vn.ownBlock ≠ some k
theorem DRow.start (lo : Nat) (vn : Value) (w : World) : DRow lo vn (.slice none 0 0) [] [] w :=
  ⟨⟨rfl, .inl ⟨rfl, rfl⟩⟩, rfl, (fun u h => by cases h), ⟨fun _ _ => False, (fun j h => by simp at h), fun _ _ h => h.elim, fun _ _ _ _ h => h.elim⟩, fun k h => by simp [Value.ownBlock] at h⟩
/-- The row where other blocks changed. -/
theorem DRow.keep {lo : Nat} {vn v : Value} {us : List Value} {ds : List D} {w w' : World} (h : DRow lo vn v us ds w) (hs : ∀ k, k < w.heap.size → lo ≤ k → vn.ownBlock ≠ some k → w'.heap[k]? = w.heap[k]?) (hz : w.heap.size ≤ w'.heap.size) : DRow lo vn v us ds w' := by
  obtain ⟨R, r1, r2, r3⟩ := h.ex
  refine ⟨owns_block h.own (fun g hg => hs g (h.own.lt g hg).2 (h.own.lt g hg).1 (h.sep g hg)), h.len, h.eight, ⟨R, fun j a b => (r1 j a b).keep fun k hk hk' => hs k hk (r2 j k hk').1 (r2 j k hk').2.2.2, fun j k hk => ?_, r3⟩, h.sep⟩
  have := r2 j k hk
  exact ⟨this.1, by omega, this.2.2⟩
/-- Another row's block moved. -/
theorem DRow.rename {lo : Nat} {vn v vn' : Value} {us : List Value} {ds : List D} {w : World} (h : DRow lo vn v us ds w) (hn : ∀ k, vn'.ownBlock = some k → vn.ownBlock = some k ∨ w.heap.size ≤ k) : DRow lo vn' v us ds w := by
  obtain ⟨R, r1, r2, r3⟩ := h.ex
  refine ⟨h.own, h.len, h.eight, ⟨R, r1, fun j k hk => ?_, r3⟩, fun k hk e => ?_⟩
  · have q := r2 j k hk
    refine ⟨q.1, q.2.1, q.2.2.1, fun e => ?_⟩
    rcases hn k e with e | e
    · exact q.2.2.2 e
    · omega
  · rcases hn k e with e | e
    · exact h.sep k hk e
    · have := (h.own.lt k hk).2; omega
theorem DRow.moved {lo : Nat} {vn v vn' : Value} {us : List Value} {ds : List D} {w w' : World} (h : DRow lo vn v us ds w) (hs : ∀ k, k < w.heap.size → lo ≤ k → vn.ownBlock ≠ some k → w'.heap[k]? = w.heap[k]?) (hz : w.heap.size ≤ w'.heap.size)
    (hn : ∀ k, vn'.ownBlock = some k → vn.ownBlock = some k ∨ w.heap.size ≤ k) : DRow lo vn' v us ds w' := by
  obtain ⟨R, r1, r2, r3⟩ := h.ex
  have q := h.rename hn
  refine ⟨owns_block h.own (fun g hg => hs g (h.own.lt g hg).2 (h.own.lt g hg).1 (h.sep g hg)), h.len, h.eight, ⟨R, fun j a b => (r1 j a b).keep fun k hk hk' => hs k hk (r2 j k hk').1 (r2 j k hk').2.2.2, fun j k hk => ?_, r3⟩, q.sep⟩
  have t := r2 j k hk
  refine ⟨t.1, by omega, t.2.2.1, fun e => ?_⟩
  rcases hn k e with e | e
  · exact t.2.2.2 e
  · omega
theorem DRow.below {lo : Nat} {vn v : Value} {us : List Value} {ds : List D} {w w' : World} (h : DRow lo vn v us ds w) (hb : Below w.heap.size w w') : DRow lo vn v us ds w' := h.keep (fun k hk _ _ => hb.block k hk) hb.size

/-- One descriptor more: w at the call, w1 behind it, W1 as the append finds it, w2 behind the append. -/
theorem DRow.push {lo : Nat} {vn v : Value} {us : List Value} {ds : List D} {w w1 W1 w2 : World} (h : DRow lo vn v us ds w) (hb : Below w.heap.size w w1) {cs : Array Value} (h8 : cs.size = 8) {d : D} (hd : IsDF w1 (w.heap.size ≤ ·) (.agg cs) d) (hlo : lo ≤ w.heap.size)
    (hb1 : Below w1.heap.size w1 W1) {g cap : Nat} (hown : w2.ownsRow lo 26 8 (.slice (some ⟨g, 0, none⟩) (us.length + 1) cap) (us.length + 1) (flatV8 us ++ cs.toList)) (hg : W1.grownBy w2 v.ownBlock) (hl : v.ownBlock = some g ∨ w1.heap.size ≤ g) (hvn : ∀ k, vn.ownBlock = some k → k < w.heap.size) :
    DRow lo vn (.slice (some ⟨g, 0, none⟩) (us.length + 1) cap) (us ++ [.agg cs]) (ds ++ [d]) w2 := by
  obtain ⟨R, r1, r2, r3⟩ := h.ex
  have hz1 := hb.size
  have hz2 := hb1.size
  have hz3 := hg.size
  have vb : ∀ k, v.ownBlock = some k → lo ≤ k ∧ k < w.heap.size := fun k hk => h.own.lt k hk
  have keep1 : ∀ k, k < w1.heap.size → v.ownBlock ≠ some k → w2.heap[k]? = w1.heap[k]? := fun k hk hv => (hg.block k (by omega) (fun e => hv e.symm)).trans (hb1.block k hk)
  refine ⟨?_, by simp [h.len], ?_, ⟨fun j k => if j = us.length then w.heap.size ≤ k ∧ k < w1.heap.size else R j k, ?_, ?_, ?_⟩, ?_⟩
  · rw [flatV8_snoc, List.length_append, List.length_singleton]; exact hown
  · intro u hu
    rcases List.mem_append.1 hu with hu | hu
    · exact h.eight u hu
    · simp at hu; subst hu; exact ⟨by simpa [cellsOfV] using h8, _, rfl⟩
  · intro j hj hj'
    by_cases e : j < us.length
    · rw [List.getElem_append_left e, List.getElem_append_left (by have := h.len; omega)]
      have e2 : j ≠ us.length := by omega
      have := (r1 j e (by have := h.len; omega)).keep (w' := w2) fun k hk hk' => by
        have q := r2 j k hk'
        exact (keep1 k (by omega) q.2.2.1).trans (hb.block k hk)
      simpa only [e2, if_false] using this
    · have e2 : j = us.length := by simp at hj; omega
      subst e2
      rw [List.getElem_append_right (by omega), List.getElem_append_right (by have := h.len; omega)]
      simp only [Nat.sub_self, List.getElem_cons_zero, h.len, if_true]
      refine hd.clip.keep fun k hk hk' => keep1 k hk (fun e => ?_)
      have q := vb k e
      have := hk'.1
      omega
  · intro j k hk
    by_cases e : j = us.length
    · simp only [e, if_true] at hk
      refine ⟨by omega, by omega, fun q => ?_, fun q => by have := hvn k q; omega⟩
      simp [Value.ownBlock] at q
      subst q
      rcases hl with hl | hl
      · have := vb _ hl; omega
      · omega
    · simp only [e, if_false] at hk
      have q := r2 j k hk
      refine ⟨q.1, by omega, fun q' => ?_, q.2.2.2⟩
      simp [Value.ownBlock] at q'
      subst q'
      rcases hl with hl | hl
      · exact q.2.2.1 hl
      · omega
  · intro i j k hij hi hj
    by_cases e1 : i = us.length
    · by_cases e2 : j = us.length
      · omega
      · simp only [e1, if_true] at hi
        simp only [e2, if_false] at hj
        have := r2 j k hj
        omega
    · simp only [e1, if_false] at hi
      by_cases e2 : j = us.length
      · simp only [e2, if_true] at hj
        have := r2 i k hi
        omega
      · simp only [e2, if_false] at hj
        exact r3 i j k hij hi hj
  · intro k hk e
    simp [Value.ownBlock] at hk
    subst hk
    rcases hl with hl | hl
    · exact h.sep _ hl e
    · have := hvn _ e; omega

/-- The row read as the parts of a descriptor. -/
theorem DRow.parts {lo : Nat} {vn v : Value} {us : List Value} {ds : List D} {w : World} (h : DRow lo vn v us ds w) :
    ∃ a c g, v = .slice a ds.length c ∧ ds.length ≤ c ∧ (0 < ds.length → a = some ⟨g, 0, none⟩ ∧ lo ≤ g ∧ g < w.heap.size) ∧ (∀ i, i < ds.length → ∀ j, j < 8 → w.frozen? ⟨g, 0 + i * 8 + j, none⟩ = false) ∧
      (∃ R : Nat → Nat → Prop, (∀ i (h : i < ds.length), IsDF w (R i) (rowD w g (0 + i * 8)) ds[i]) ∧ (∀ i k, R i k → lo ≤ k ∧ k < w.heap.size ∧ (0 < ds.length → k ≠ g) ∧ vn.ownBlock ≠ some k) ∧ ∀ i j k, i ≠ j → R i k → ¬ R j k) ∧ (0 < ds.length → vn.ownBlock ≠ some g) := by
  obtain ⟨R, r1, r2, r3⟩ := h.ex
  by_cases h0 : 0 < us.length
  · obtain ⟨g, cap, e1, e2, e3, e4, e5, e6⟩ := owns_cell h.own h0
    subst e1
    refine ⟨_, cap, g, by rw [h.len], by rw [h.len]; exact e4, fun _ => ⟨rfl, e2, e3⟩, fun i _ j _ => ?_, ⟨R, fun i hi => ?_, fun i k hk => ⟨(r2 i k hk).1, (r2 i k hk).2.1, fun _ e => (r2 i k hk).2.2.1 (by rw [e]; rfl), (r2 i k hk).2.2.2⟩, r3⟩, fun _ => h.sep g rfl⟩
    · rcases h.own.2 with ⟨e, _⟩ | ⟨g', cap', cur, e1, _, e3', _⟩
      · cases e
      · injection e1 with e1 _ _
        injection e1 with e1
        injection e1 with e1 _ _
        subst e1
        simp [World.frozen?, e3']
    · have hlt : i < us.length := by have := h.len; omega
      obtain ⟨h8, cs, hcs⟩ := h.eight us[i] (List.getElem_mem _)
      have hr := r1 i hlt hi
      have hrow : rowD w g (0 + i * 8) = us[i] := by
        have get : ∀ j u, j < 8 → (cellsOfV us[i])[j]? = some u → w.cell? ⟨g, i * 8 + j, none⟩ = some u := fun j u hj hu => by
          apply e6
          rw [flatV8_get us (fun u hu => (h.eight u hu).1) i hlt j hj, hu]
        generalize us[i] = ui at hcs get h8
        subst hcs
        obtain ⟨l⟩ := cs
        simp only [cellsOfV] at get h8
        match l, h8 with
        | [x0, x1, x2, x3, x4, x5, x6, x7], _ =>
          have g0 := get 0 x0 (by decide) rfl
          have g1 := get 1 x1 (by decide) rfl
          have g2 := get 2 x2 (by decide) rfl
          have g3 := get 3 x3 (by decide) rfl
          have g4 := get 4 x4 (by decide) rfl
          have g5 := get 5 x5 (by decide) rfl
          have g6 := get 6 x6 (by decide) rfl
          have g7 := get 7 x7 (by decide) rfl
          simp only [Nat.add_zero] at g0
          simp [rowD, g0, g1, g2, g3, g4, g5, g6, g7]
      rw [hrow]
      exact hr
  · have e : us = [] := List.eq_nil_of_length_eq_zero (by omega)
    have e' : ds = [] := List.eq_nil_of_length_eq_zero (by have := h.len; omega)
    subst e e'
    rcases h.own.2 with ⟨h1, _⟩ | ⟨g, cap, cur, h1, _⟩
    · exact ⟨none, 0, 0, h1, Nat.zero_le _, fun h => by simp at h, fun i h => by simp at h, ⟨fun _ _ => False, fun i h => by simp at h, fun _ _ h => h.elim, fun _ _ _ _ h => h.elim⟩, fun h => by simp at h⟩
    · exact ⟨_, cap, 0, h1, Nat.zero_le _, fun h => by simp at h, fun i h => by simp at h, ⟨fun _ _ => False, fun i h => by simp at h, fun _ _ h => h.elim, fun _ _ _ _ h => h.elim⟩, fun h => by simp at h⟩
end Go.Proofs.Ythpgnhmikffcpaa

/- The descriptor of a list, of a map: raw. Condition: the values' numbers are in range. -/
namespace Go.Proofs.Ythpgnhmikffcpaa
set_option linter.unusedVariables false
set_option linter.unusedSimpArgs false
open Go.RowKit

theorem grown_below {w0 w w' : World} {p : Nat} (h : w0.grownBy w (some p)) (hb : Below w.heap.size w w') : w0.grownBy w' (some p) :=
  ⟨hb.os.trans h.os, hb.tape.trans h.tape, hb.output.trans h.output, Nat.le_trans h.size hb.size, fun k hk hp => (hb.block k (by have := h.size; omega)).trans (h.block k hk hp)⟩
theorem grown_row {w0 w w' : World} {p : Nat} {row : Option Nat} (h : w0.grownBy w (some p)) (hg : w.grownBy w' row) (hr : ∀ k, row = some k → w0.heap.size ≤ k) : w0.grownBy w' (some p) :=
  ⟨hg.os.trans h.os, hg.tape.trans h.tape, hg.output.trans h.output, Nat.le_trans h.size hg.size, fun k hk hp => (hg.block k (by have := h.size; omega) (fun e => by have := hr k e.symm; omega)).trans (h.block k hk hp)⟩
theorem grown_put {w0 w : World} {p : Nat} (h : w0.grownBy w (some p)) (i : Nat) (u : Value) : w0.grownBy (w.setCell ⟨p, i, none⟩ u) (some p) := by
  have hb := (Below.refl 0 w).setCell (p := ⟨p, i, none⟩) (Nat.zero_le _) u
  exact ⟨hb.os.trans h.os, hb.tape.trans h.tape, hb.output.trans h.output, Nat.le_trans h.size hb.size, fun k hk hp => (Below.heap_setCell w ⟨p, i, none⟩ u k (by intro e; exact hp (by rw [e]))).trans (h.block k hk hp)⟩
theorem grown_to_below {w w0 w' : World} {p : Nat} (h : Below w.heap.size w w0) (hg : w0.grownBy w' (some p)) (hp : w.heap.size ≤ p) : Below w.heap.size w w' :=
  h.grown hg h.size (fun k hk => by injection hk with hk; omega)
theorem ne_of_iface {W : World} {p bb o : Nat} {k : Int} {n : ByteArray} {b i : Int} {x : ByteArray} {a5 : Option Addr} {n5 c5 : Nat} {a6 : Option Addr} {n6 c6 : Nat} {h : Int} {t : TypeId} {y : Value}
    (hp : W.heap[p]? = some (.cells #[.int .i64 k, .string n, .int .u64 b, .int .u64 i, .string x, .slice a5 n5 c5, .slice a6 n6 c6, .int .i64 h] 26 (0, 0))) (hc : W.cell? ⟨bb, o, none⟩ = some (.iface t y)) : bb ≠ p := by
  intro e
  subst e
  simp only [World.cell?, hp] at hc
  match o, hc with
  | 0, hc => simp at hc
  | 1, hc => simp at hc
  | 2, hc => simp at hc
  | 3, hc => simp at hc
  | 4, hc => simp at hc
  | 5, hc => simp at hc
  | 6, hc => simp at hc
  | 7, hc => simp at hc
  | o + 8, hc => simp at hc
theorem isDF_row {w w' : World} {S : Nat → Prop} {g o : Nat} {d : D} (h : IsDF w S (rowD w g o) d) (hg : w'.heap[g]? = w.heap[g]?) (hs : ∀ k, k < w.heap.size → S k → w'.heap[k]? = w.heap[k]?) : IsDF w' S (rowD w' g o) d := by
  obtain ⟨x5, y5, x6, y6, hr, _⟩ := h.isD.row
  have hr' : RowD w' g o d x5 y5 x6 y6 := ⟨cell_block hg hr.k0, cell_block hg hr.k1, cell_block hg hr.k2, cell_block hg hr.k3, cell_block hg hr.k4, cell_block hg hr.k5, cell_block hg hr.k6, cell_block hg hr.k7⟩
  have := h.keep hs
  rw [hr.eq] at this
  rw [hr'.eq]; exact this
/-- A descriptor's value with its eight cells open. -/
def RawOpen (W : World) (x : V) (e : Ending) (w' : World) : Prop := Below W.heap.size W w' ∧ ∃ k0 ty b0 i0 tx a5 n5 c5 a6 n6 c6 h0, e = .returned (.agg #[.int .i64 k0, .string ty, .int .u64 b0, .int .u64 i0, .string tx, .slice a5 n5 c5, .slice a6 n6 c6, .int .i64 h0]) ∧
  IsDF w' (W.heap.size ≤ ·) (.agg #[.int .i64 k0, .string ty, .int .u64 b0, .int .u64 i0, .string tx, .slice a5 n5 c5, .slice a6 n6 c6, .int .i64 h0]) (rawV x)
theorem raw_open {W : World} {x : V} {e : Ending} {w' : World} (h : RawPost W x e w') : RawOpen W x e w' := by
  obtain ⟨h1, v, h2, h3⟩ := h
  refine ⟨h1, ?_⟩
  generalize hd : rawV x = d at h3 ⊢
  have h4 := h3
  cases h3 with
  | mk S d a5 c5 a6 c6 b5 o5 b6 o6 P hk hb hi hh ht hx n1 n2 n3 n4 n5 p1 p2 p3 p4 p5 p6 p7 p8 => exact ⟨_, _, _, _, _, _, _, _, _, _, _, _, h2, h4⟩
theorem Blk.keep {w w' : World} {b : Nat} {v0 v1 v2 v3 v4 v5 v6 v7 : Value} (hb : w'.heap[b]? = w.heap[b]?) (h : Blk w b v0 v1 v2 v3 v4 v5 v6 v7) : Blk w' b v0 v1 v2 v3 v4 v5 v6 v7 :=
  ⟨cell_block hb h.c0, cell_block hb h.c1, cell_block hb h.c2, cell_block hb h.c3, cell_block hb h.c4, cell_block hb h.c5, cell_block hb h.c6, cell_block hb h.c7, fun j => by rw [frozen_blk hb]; exact h.f j⟩
theorem Blk.put6 {w : World} {b : Nat} {v0 v1 v2 v3 v4 v5 v6 v7 : Value} (h : Blk w b v0 v1 v2 v3 v4 v5 v6 v7) (u : Value) : Blk (w.setCell ⟨b, 6, none⟩ u) b v0 v1 v2 v3 v4 v5 u v7 :=
  ⟨put_other h.c0 (by decide), put_other h.c1 (by decide), put_other h.c2 (by decide), put_other h.c3 (by decide), put_other h.c4 (by decide), put_other h.c5 (by decide), put_same h.c6, put_other h.c7 (by decide), fun j => by simpa using h.f j⟩
theorem Blk.put5 {w : World} {b : Nat} {v0 v1 v2 v3 v4 v5 v6 v7 : Value} (h : Blk w b v0 v1 v2 v3 v4 v5 v6 v7) (u : Value) : Blk (w.setCell ⟨b, 5, none⟩ u) b v0 v1 v2 v3 v4 u v6 v7 :=
  ⟨put_other h.c0 (by decide), put_other h.c1 (by decide), put_other h.c2 (by decide), put_other h.c3 (by decide), put_other h.c4 (by decide), put_same h.c5, put_other h.c6 (by decide), put_other h.c7 (by decide), fun j => by simpa using h.f j⟩

set_option maxHeartbeats 8000000 in
set_option maxRecDepth 100000 in
theorem raw_many (t : TypeId) (y : Value) (tg : Tag) (b : B) (l : List V) (h82 : t ≠ 82) (h85 : t ≠ 85) (h87 : t ≠ 87) (h90 : t ≠ 90) (h92 : t ≠ 92) (h94 : t ≠ 94) (h95 : t ≠ 95) (h104 : t ≠ 104) (h108 : t ≠ 108) (w : World) (hv : IsV w (.iface t y) (.great tg b 0 [] l)) (hb : b.Rng)
    (ih : ∀ x ∈ l, ∀ (w : World) (v : Value), IsV w v x → Calls Try.prog 45 #[v] w (RawPost w x)) : Calls Try.prog 45 #[.iface t y] w (RawPost w (.great tg b 0 [] l)) := by
  have t82 := fun (y : Value) (w : World) => as82 t y w
  simp only [if_neg h82] at t82
  have t85 := fun (y : Value) (w : World) => as85 t y w
  simp only [if_neg h85] at t85
  have t87 := fun (y : Value) (w : World) => as87 t y w
  simp only [if_neg h87] at t87
  have t90 := fun (y : Value) (w : World) => as90 t y w
  simp only [if_neg h90] at t90
  have t92 := fun (y : Value) (w : World) => as92 t y w
  simp only [if_neg h92] at t92
  have t94 := fun (y : Value) (w : World) => as94 t y w
  simp only [if_neg h94] at t94
  have t95 := fun (y : Value) (w : World) => as95 t y w
  simp only [if_neg h95] at t95
  have t104 := fun (y : Value) (w : World) => as104 t y w
  simp only [if_neg h104] at t104
  have t108 := fun (y : Value) (w : World) => as108 t y w
  simp only [if_neg h108] at t108
  have HV := Lib.hid hv
  have IH := Lib.hid ih
  have HR := Lib.hid hb
  clear hv ih hb
  obtain ⟨i26, hi26, hz26, hs26, hb26⟩ := info_parts vinfo26
  go_enter Try.func45, Try.ntmps45
  go_wp2_with fail
  refine (base_any (HV.out.later (Below.new _))).mono ?_
  rintro e w1 ⟨rfl, hB⟩
  have HB := Lib.hid ((Below.new _).next hB)
  have hbk := (Blk.new w).below hB
  have hsz : w.heap.size < w1.heap.size := by have := hB.size; simp at this; omega
  clear hB
  simp only [V.base, V.isNil, Bool.not_false]
  go_wp2_with fail
  refine (inner_any ((HB.out.push _).push _) HV.out).mono ?_
  rintro e w2 ⟨hB2, al, cl, bb, oo, vs, rfl, hK⟩
  have hpb : w2.heap[w1.heap.size + 1]? = some (.cells #[.int .i64 b.kind, .string b.name, .int .u64 0, .int .u64 0, .string ⟨#[]⟩, .slice none 0 0, .slice none 0 0, .int .i64 b.hook] 26 (0, 0)) := by
    rw [hB2.block _ (by simp)]
    have := heap_alloc_new (w1.alloc (.cells #[.int .i64 b.kind, .string b.name, .int .i64 b.hook] 71)) (.cells #[.int .i64 b.kind, .string b.name, .int .u64 0, .int .u64 0, .string ⟨#[]⟩, .slice none 0 0, .slice none 0 0, .int .i64 b.hook] 26)
    simpa using this
  have hz2 : w1.heap.size + 1 < w2.heap.size := by have := hB2.size; simp at this; omega
  have hbk2 := ((hbk.below (Below.new (.cells #[.int .i64 b.kind, .string b.name, .int .i64 b.hook] 71))).below (Below.new (.cells #[.int .i64 b.kind, .string b.name, .int .u64 0, .int .u64 0, .string ⟨#[]⟩, .slice none 0 0, .slice none 0 0, .int .i64 b.hook] 26))).below hB2
  have HB2 := Lib.hid (((HB.out.push _).push _).next hB2)
  have HPB := Lib.hid hpb
  have HBK2 := Lib.hid hbk2
  have HK := Lib.hid hK
  simp only [kids] at HK ⊢
  have hll : l.length < 1000 := HK.out.len
  clear hB2 hK hpb hbk2 hbk
  go_wp2_with fail
  go_loopw [19, 39] (fun _ kk wr => ∃ (i : Nat) (v : Value) (us : List Value), kk = .int .i64 (i : Int) ∧ i ≤ l.length ∧ Hid (us.length = i) ∧ Hid (DRow w2.heap.size (.slice none 0 0) v us (rawL (l.take i)) wr) ∧ Hid (Blk wr (w1.heap.size + 1) (.int .i64 b.kind) (.string b.name) (.int .u64 0) (.int .u64 0) (.string ⟨#[]⟩) (.slice none 0 0) v (.int .i64 b.hook)) ∧ Hid (w2.grownBy wr (some (w1.heap.size + 1)))) (fun _ kk _ => l.length - (intOf kk).toNat)
  case atStart =>
    exact ⟨0, _, [], rfl, Nat.zero_le _, rfl, DRow.start _ _ _, Blk.of HPB.out, ⟨rfl, rfl, rfl, Nat.le_refl _, fun _ _ _ => rfl⟩⟩
  case round =>
    obtain ⟨i, v, us, rfl, hi, HU, HD, HBL, HG⟩ := hrel
    by_cases hin : i < l.length
    · obtain rfl := HK.out.adr (by omega)
      obtain ⟨s, z, hsz'⟩ := HK.out.ifc i hin
      have hc0 := HK.out.cell i hin
      have hv0 := HK.out.val i hin
      rw [hsz'] at hc0 hv0
      have hne := ne_of_iface HPB.out hc0
      have hc := cell_block (HG.out.block bb (World.block_lt_of_cell? w2 _ hc0) (by intro e; injection e with e; exact hne e)) hc0
      have HIH : Hid (∀ W, Below w.heap.size w W → Calls Try.prog 45 #[.iface s z] W (RawOpen W l[i])) := by
        intro W hW
        refine (IH.out l[i] (List.getElem_mem _) W _ ?_).mono fun e w' h => raw_open h
        exact hv0.later hW
      obtain ⟨x, hx⟩ : ∃ x, x = l[i] := ⟨_, rfl⟩
      rw [← hx] at HIH
      have HX := Lib.hid hx
      have c6 := HBL.out.c6
      have f6 := HBL.out.f 6
      have lp := World.block_lt_of_cell? wr _ c6
      simp only at lp
      have HOW := Lib.hid HD.out.own
      have hun := HU.out
      have HGZ := HG.out.size
      have HWR : Hid (Below w.heap.size w wr) := grown_to_below HB2.out HG.out (by omega)
      have hmx : us.length + 1 ≤ maxLen := by unfold maxLen; omega
      have hbx : (us.length + 1) * 112 ≤ 140737488355328 := by omega
      have hnv : v.ownBlock ≠ some (w1.heap.size + 1) := fun e => by have := HOW.out.lt _ e; omega
      have HNV := Lib.hid hnv
      clear hne hc0 hv0 hsz' hnv hun hx
      go_wp2_with fail
      go_region_law (first
        | (rw [if_pos (by simp [Region.wanted])]; go_simp; go_at_call 45; (with_reducible refine (HIH.out _ HWR.out.drew).mono ?_); rintro e w3 ⟨hb3, k0, ty, b0, i0, tx, a5, n5, c5, a6, n6, c6', h0, rfl, hd3⟩; have HB3 := Lib.hid hb3; have HD3 := Lib.hid hd3; have q6 := cell_below hb3 c6; have qf := (hb3.frozen (p := ⟨w1.heap.size + 1, 6, none⟩) lp).trans f6; have hz3 : wr.heap.size ≤ w3.heap.size := hb3.size; have lq : w1.heap.size + 1 < w3.heap.size := Nat.lt_of_lt_of_le lp hz3; clear hb3 hd3; (try go_simp))
        | (refine step_append_lies _ (by rfl) _ _ _ (by rfl) w2.heap.size 26 i26 _ 8 112 Try.underlying24 hi26 hz26 hs26 hb26 rfl (by omega) v us.length _ (by rfl) ((owns_later HOW.out.drew HB3.out).alloc _) ⟨w3.heap.size, 0, none⟩ 1 1 [.int .i64 k0, .string ty, .int .u64 b0, .int .u64 i0, .string tx, .slice a5 n5 c5, .slice a6 n6 c6', .int .i64 h0] (by rfl) (by rfl) (World.news_of_block (cs := #[.int .i64 k0, .string ty, .int .u64 b0, .int .u64 i0, .string tx, .slice a5 n5 c5, .slice a6 n6 c6', .int .i64 h0]) (t := 26) (fr := (0, 0)) (heap_alloc_new w3 _)) (by simp [Value.oneCell']) (by omega) hmx hbx (by simp; omega) (w3.heap.size + 1) (by simp) ?_; intro gg cap w6 hown6 hgrow6 hat6 hlt6; have bS6 : w6.heap[w1.heap.size + 1]? = w3.heap[w1.heap.size + 1]? := (hgrow6.block _ (by simp; omega) (fun e => HNV.out e.symm)).trans (Below.heap_alloc w3 _ _ lq); have u6 := cell_block bS6 q6; have uf := (frozen_block (o := 6) bS6).trans qf; clear bS6))
      all_goals
        have hb3' : Below wr.heap.size wr w3 := ((Below.refl _ _).drew).next HB3.out
        have hpush : DRow w2.heap.size (.slice none 0 0) (.slice (some ⟨gg, 0, none⟩) (us.length + 1) cap) (us ++ [.agg #[.int .i64 k0, .string ty, .int .u64 b0, .int .u64 i0, .string tx, .slice a5 n5 c5, .slice a6 n6 c6', .int .i64 h0]]) (rawL (l.take i) ++ [rawV x]) w6 :=
          HD.out.push hb3' rfl HD3.out HGZ (Below.new _) hown6 hgrow6 (by rcases hat6 with h | h; exact .inl h; right; omega) (fun k h => by simp [Value.ownBlock] at h)
        have HDN : Hid (DRow w2.heap.size (.slice none 0 0) (.slice (some ⟨gg, 0, none⟩) (us.length + 1) cap) (us ++ [.agg #[.int .i64 k0, .string ty, .int .u64 b0, .int .u64 i0, .string tx, .slice a5 n5 c5, .slice a6 n6 c6', .int .i64 h0]]) (rawL (l.take (i + 1))) (w6.setCell ⟨w1.heap.size + 1, 6, none⟩ (.slice (some ⟨gg, 0, none⟩) (us.length + 1) cap))) := by
          show DRow _ _ _ _ _ _
          rw [List.take_succ_eq_append_getElem hin, ← HX.out, rawL_snoc]
          exact hpush.keep (fun k hk hlo _ => Below.heap_setCell _ _ _ _ (by show k ≠ w1.heap.size + 1; omega)) (by simp)
        have HGN : Hid (w2.grownBy (w6.setCell ⟨w1.heap.size + 1, 6, none⟩ (.slice (some ⟨gg, 0, none⟩) (us.length + 1) cap)) (some (w1.heap.size + 1))) :=
          grown_put (grown_row (grown_below HG.out (hb3'.push _)) hgrow6 (fun k hk => (HOW.out.lt k hk).1)) 6 _
        have bS6 : w6.heap[w1.heap.size + 1]? = w3.heap[w1.heap.size + 1]? := (hgrow6.block _ (by simp; omega) (fun e => HNV.out e.symm)).trans (Below.heap_alloc w3 _ _ lq)
        have HBN := Lib.hid (((HBL.out.below hb3').keep bS6).put6 (.slice (some ⟨gg, 0, none⟩) (us.length + 1) cap))
        have HUN : Hid ((us ++ [Value.agg #[.int .i64 k0, .string ty, .int .u64 b0, .int .u64 i0, .string tx, .slice a5 n5 c5, .slice a6 n6 c6', .int .i64 h0]]).length = i + 1) := by show _ = _; rw [List.length_append, List.length_singleton, HU.out]
        clear hpush bS6 hown6 hgrow6 hat6 hlt6 u6 uf q6 qf c6 f6 hc hb3'
        go_wp2_with fail
        go_roundw
        case rel => exact ⟨i + 1, _, _, by go_num, by omega, HUN, HDN, HBN, HGN⟩
        case measure => simp [intOf]; omega
    · obtain rfl : i = l.length := by omega
      have hD := HD.out
      rw [List.take_length] at hD
      obtain ⟨ap, cp, gp, rfl, p1, p2, p3, ⟨R, p4, p5, p6⟩, _⟩ := hD.parts
      have hlen := rawL_length l
      have hb2 := HBK2.out.keep (HG.out.block w.heap.size (World.block_lt_of_cell? w2 _ HBK2.out.c0) (by intro e; injection e with e; omega))
      have hq := HBL.out
      have HWR := Lib.hid (grown_to_below HB2.out HG.out (by omega))
      have HP := Lib.hid (And.intro p1 (And.intro p2 (And.intro p3 (And.intro p4 (And.intro p5 p6)))))
      have HLEN := Lib.hid hlen
      have hzz : w.heap.size < w2.heap.size := by omega
      clear p1 p2 p3 p4 p5 p6 hlen hD
      have rc0 := hb2.c0
      have rc1 := hb2.c1
      have rc2 := hb2.c2
      have rc3 := hb2.c3
      have rc4 := hb2.c4
      have rc5 := hb2.c5
      have rc6 := hb2.c6
      have rc7 := hb2.c7
      have rf0 := hb2.f 0
      have rf1 := hb2.f 1
      have rf2 := hb2.f 2
      have rf3 := hb2.f 3
      have rf4 := hb2.f 4
      have rf5 := hb2.f 5
      have rf6 := hb2.f 6
      have rf7 := hb2.f 7
      have sc0 := hq.c0
      have sc1 := hq.c1
      have sc2 := hq.c2
      have sc3 := hq.c3
      have sc4 := hq.c4
      have sc5 := hq.c5
      have sc6 := hq.c6
      have sc7 := hq.c7
      have sf0 := hq.f 0
      have sf1 := hq.f 1
      have sf2 := hq.f 2
      have sf3 := hq.f 3
      have sf4 := hq.f 4
      have sf5 := hq.f 5
      have sf6 := hq.f 6
      have sf7 := hq.f 7
      go_upto_region 46 with (fail)
      go_wp2_with fail
      change bodyPost Try.prog Try.f45 _ _ _ (st8 wr w.heap.size (.int .i64 b.kind) (.string b.name) (.int .u64 0) (.int .u64 0) (.string ⟨#[]⟩) (.slice none 0 0) (.slice ap (rawL l).length cp) (.int .i64 b.hook))
      have hb3 := Blk.put wr w.heap.size hb2 (.int .i64 b.kind) (.string b.name) (.int .u64 0) (.int .u64 0) (.string ⟨#[]⟩) (.slice none 0 0) (.slice ap (rawL l).length cp) (.int .i64 b.hook)
      have HBW := Lib.hid (st8_below HWR.out (Nat.le_refl _) (.int .i64 b.kind) (.string b.name) (.int .u64 0) (.int .u64 0) (.string ⟨#[]⟩) (.slice none 0 0) (.slice ap (rawL l).length cp) (.int .i64 b.hook))
      have HKP := Lib.hid (fun k (hk : k ≠ w.heap.size) => st8_other (w := wr) (b := w.heap.size) (u0 := .int .i64 b.kind) (u1 := .string b.name) (u2 := .int .u64 0) (u3 := .int .u64 0) (u4 := .string ⟨#[]⟩) (u5 := .slice none 0 0) (u6 := .slice ap (rawL l).length cp) (u7 := .int .i64 b.hook) hk)
      generalize st8 wr w.heap.size (.int .i64 b.kind) (.string b.name) (.int .u64 0) (.int .u64 0) (.string ⟨#[]⟩) (.slice none 0 0) (.slice ap (rawL l).length cp) (.int .i64 b.hook) = W9 at hb3 HBW HKP ⊢
      clear rc0 rc1 rc2 rc3 rc4 rc5 rc6 rc7 rf0 rf1 rf2 rf3 rf4 rf5 rf6 rf7 sc0 sc1 sc2 sc3 sc4 sc5 sc6 sc7
      have zc0 := hb3.c0
      have zc1 := hb3.c1
      have zc2 := hb3.c2
      have zc3 := hb3.c3
      have zc4 := hb3.c4
      have zc5 := hb3.c5
      have zc6 := hb3.c6
      have zc7 := hb3.c7
      refine bodyPost_ret (v := .agg #[.int .i64 b.kind, .string b.name, .int .u64 0, .int .u64 0, .string ⟨#[]⟩, .slice none 0 0, .slice ap (rawL l).length cp, .int .i64 b.hook]) (by simp [results, Try.f45, go_sem, zc0, zc1, zc2, zc3, zc4, zc5, zc6, zc7]) rfl ?_
      obtain ⟨p1, p2, p3, p4, p5, p6⟩ := HP.out
      have hkp : ∀ k, k < wr.heap.size → w2.heap.size ≤ k → W9.heap[k]? = wr.heap[k]? := fun k _ hk => HKP.out k (by omega)
      refine ⟨HBW.out, _, rfl, IsDF.mk (w.heap.size ≤ ·) (rawV (.great tg b 0 [] l)) none 0 ap cp 0 0 gp 0 R HR.out.1 U64_0 U64_0 HR.out.2.1 HR.out.2.2 cap_0 (Nat.le_refl _) (by simp [rawV, D.names]) (fun h => by simp [rawV, D.names] at h) (fun i h => by simp [rawV, D.names] at h) (fun x h => by simp [rawV, D.names] at h) ?_ ?_ ?_ ?_ ?_ ?_ p6 (fun _ h => by simp [rawV, D.names] at h)⟩
      · simpa [rawV, D.parts] using p1
      · simp only [rawV, D.parts]; rw [HLEN.out]; unfold cap47; omega
      · intro h; simp only [rawV, D.parts] at h; exact ⟨(p2 h).1, by have := (p2 h).2.1; omega⟩
      · intro i h j hj; simp only [rawV, D.parts] at h; rw [frozen_blk (hkp gp (p2 (by omega)).2.2 (p2 (by omega)).2.1)]; exact p3 i h j hj
      · intro i h; simp only [rawV, D.parts] at h ⊢; exact isDF_row (p4 i h) (hkp gp (p2 (by omega)).2.2 (p2 (by omega)).2.1) (fun k hk hR => hkp k hk (p5 i k hR).1)
      · intro i h k hk; simp only [rawV, D.parts] at h; exact ⟨by have := (p5 i k hk).1; omega, (p5 i k hk).2.2.1 (by omega), fun h => by simp [rawV, D.names] at h⟩
end Go.Proofs.Ythpgnhmikffcpaa
