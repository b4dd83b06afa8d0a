/- A region that draws its order: an operation that yields what it yields while a condition on the world holds may be taken first, though late operations, that wait for it, break the condition. No condition. -/
import Derived.OrdersHeld
import Derived.RegionTactic
namespace Go.Proofs.Ythpgnhmikffcpaa
set_option linter.unusedVariables false
open Go

section
variable {P : Program} {ops : Array Oper} {Q : Exit → Act → World → Prop} {md : Region.Mode} {S T : World → Prop} {late : List Nat}

/-- No late operation has come up. -/
def quietB (late : List Nat) (listed : Array Bool) : Bool := late.all fun j => !(listed.getD j false)
theorem quiet_set {i : Nat} (h : i ∉ late) (listed : Array Bool) : quietB late (listed.setIfInBounds i true) = quietB late listed := by
  unfold quietB
  rw [Bool.eq_iff_iff, List.all_eq_true, List.all_eq_true]
  have key : ∀ j ∈ late, (listed.setIfInBounds i true).getD j false = listed.getD j false := by
    intro j hj
    have hij : i ≠ j := fun e => h (e ▸ hj)
    simp only [Array.getD_eq_getD_getElem?, Array.getElem?_setIfInBounds, if_neg hij]
  exact ⟨fun q j hj => by rw [← key j hj]; exact q j hj, fun q j hj => by rw [key j hj]; exact q j hj⟩
/-- Any order from here on; T holds behind each operation, S too as long as no late one has come up. -/
def AnyLate (P : Program) (md : Region.Mode) (ops : Array Oper) (Q : Exit → Act → World → Prop) (late : List Nat) (S T : World → Prop) : Nat → Array Bool → Act → World → Prop
  | 0, listed, a, w => Region.ready md ops listed = [] ∧ Q .normal a w
  | n + 1, listed, a, w =>
    (Region.ready md ops listed = [] → Q .normal a w) ∧
      ∀ i ∈ Region.ready md ops listed, wpOp P ops Q i (fun a' w' => ((quietB late (listed.setIfInBounds i true) = true → S w') ∧ T w') ∧ AnyLate P md ops Q late S T n (listed.setIfInBounds i true) a' w') a w
theorem any_of_late : ∀ (n : Nat) (listed : Array Bool) (a : Act) (w : World), AnyLate P md ops Q late S T n listed a w → wpAny P md ops Q n listed a w
  | 0, _, _, _, h => h
  | n + 1, _, _, _, h => ⟨h.1, fun i hi => wpOp_mono (fun a' w' h' => any_of_late n _ a' w' h'.2) (h.2 i hi)⟩
/-- All late operations wait for operation i. -/
def waitB (md : Region.Mode) (ops : Array Oper) (late : List Nat) (i : Nat) : Bool :=
  late.all fun j => match ops[j]? with
    | some o => o.after.any fun e => Region.binds md e && e.on == i
    | none => true
theorem late_first {i : Nat} {oi : Oper} {v : Value} (hi : ops[i]? = some oi) (hsel : ∀ (j : Nat) (o : Oper) cs b, ops[j]? = some o → o.op ≠ .select cs b)
    (hQ : ∀ c a w, Q (.panic c) (a.put oi.dst v) w → Q (.panic c) a w) (hil : i ∉ late) (fl : Bool) (hl : fl = true → waitB md ops late i = true) :
    ∀ (n : Nat) (listed : Array Bool) (a : Act) (w : World),
      (∀ j oj, ops[j]? = some oj → j ≠ i → listed.getD j true = false → (∀ e ∈ oj.after, Region.binds md e = true → e.on ≠ i) → oi.apart ops oj = true) →
      i ∈ Region.ready md ops listed → YieldsIf P ops (fun w => (fl = true → S w) ∧ T w) oi v a → (quietB late listed = true → S w) → T w → (fl = true → quietB late listed = true) →
      AnyLate P md ops Q late S T n (listed.setIfInBounds i true) (a.put oi.dst v) w → AnyLate P md ops Q late S T (n + 1) listed a w := by
  intro n
  induction n with
  | zero =>
    intro listed a w _ hr hy hS hT hq H
    refine ⟨fun h => (by rw [h] at hr; cases hr), fun j hj => ?_⟩
    by_cases hji : j = i
    · subst hji; exact hy.wpOp hi ⟨fun h => hS (hq h), hT⟩ ⟨⟨fun h => hS (by rw [quiet_set hil] at h; exact h), hT⟩, H⟩
    · have := ready_mono hj hji
      rw [H.1] at this
      cases this
  | succ n ih =>
    intro listed a w hfree hr hy hS hT hq H
    refine ⟨fun h => (by rw [h] at hr; cases hr), fun j hj => ?_⟩
    by_cases hji : j = i
    · subst hji; exact hy.wpOp hi ⟨fun h => hS (hq h), hT⟩ ⟨⟨fun h => hS (by rw [quiet_set hil] at h; exact h), hT⟩, H⟩
    · have h1 := H.2 j (ready_mono hj hji)
      obtain ⟨hjun, oj, hoj, hall⟩ := mem_ready.1 hj
      have hnot : ∀ e ∈ oj.after, Region.binds md e = true → e.on ≠ i := fun e he hb heq => by
        have h1 := hall e he hb
        have h0 := (mem_ready.1 hr).1
        rw [heq] at h1
        rcases Nat.lt_or_ge i listed.size with h' | h'
        · simp [h'] at h0 h1; rw [h0] at h1; cases h1
        · simp [Array.getElem?_eq_none h'] at h1
      have hjl : fl = true → j ∉ late := fun hfl hm => by
        have := List.all_eq_true.1 (hl hfl) j hm
        rw [hoj] at this
        simp only [Array.any_eq_true, Bool.and_eq_true, beq_iff_eq] at this
        obtain ⟨k, hk, hb, he⟩ := this
        exact hnot _ (Array.getElem_mem hk) hb he
      have h2 := wpOp_putIf hoj (hfree j oj hoj hji hjun hnot) (fun cs b => hsel i oi cs b hi) (fun cs b => hsel j oj cs b hoj) hQ hy h1
      have hfree' : ∀ k ok, ops[k]? = some ok → k ≠ i → (listed.setIfInBounds j true).getD k true = false →
          (∀ e ∈ ok.after, Region.binds md e = true → e.on ≠ i) → oi.apart ops ok = true := fun k ok hk hki hun hno => by
        refine hfree k ok hk hki ?_ hno
        by_cases hjk : j = k
        · subst hjk; exact hjun
        · rw [getD_set_ne true hjk] at hun; exact hun
      refine wpOp_mono (fun a' w' h3 => ?_) h2
      obtain ⟨h3y, ⟨h3s, h3t⟩, h3a⟩ := h3
      rw [Array.setIfInBounds_comm _ _ (Ne.symm hji), quiet_set hil] at h3s
      refine ⟨⟨h3s, h3t⟩, ih (listed.setIfInBounds j true) a' w' hfree' (ready_mono hr (Ne.symm hji)) h3y h3s h3t (fun h => by rw [quiet_set (hjl h)]; exact hq h) ?_⟩
      rw [Array.setIfInBounds_comm _ _ hji]
      exact h3a
/-- Take number i first. -/
theorem late_take {i : Nat} {oi : Oper} (v : Value) (fl : Bool) {n : Nat} {listed : Array Bool} {a : Act} {w : World} (hi : ops[i]? = some oi)
    (hs : Region.noSelect ops = true) (hf : Region.free md ops listed i = true) (hr : (Region.ready md ops listed).contains i = true) (hil : late.contains i = false) (hl : fl = true → waitB md ops late i = true)
    (hQ : ∀ c a w, Q (.panic c) (a.put oi.dst v) w → Q (.panic c) a w) (hw : Region.wanted oi (yielded ops a.tmps) = true) (hy : ∀ w, (fl = true → S w) → T w → (execOp a.eval oi).run P w = .ok (.value v) w)
    (hS : quietB late listed = true → S w) (hT : T w) (hq : fl = true → quietB late listed = true)
    (h : AnyLate P md ops Q late S T n (listed.setIfInBounds i true) (a.put oi.dst v) w) : AnyLate P md ops Q late S T (n + 1) listed a w :=
  late_first hi (Region.noSelect_spec hs) hQ (by simpa using hil) fl hl n listed a w (Region.free_spec hi hf) (by simpa using hr) (.inl ⟨hw, fun w h => hy w h.1 h.2⟩) hS hT hq h
/-- One alone may come up. -/
theorem late_one (k : Nat) {o : Oper} {n : Nat} {listed : Array Bool} {a : Act} {w : World} (ho : ops[k]? = some o) (hr : Region.ready md ops listed = [k])
    (h : ∀ K : Act → World → Prop, (∀ a' w', (quietB late (listed.setIfInBounds k true) = true → S w') → T w' → AnyLate P md ops Q late S T n (listed.setIfInBounds k true) a' w' → K a' w') →
      if Region.wanted o (yielded ops a.tmps) = true then Oper.wp P o a w K Q else K (a.put o.dst undef) w) : AnyLate P md ops Q late S T (n + 1) listed a w := by
  refine ⟨(fun h0 => by rw [hr] at h0; cases h0), fun i hi => ?_⟩
  rw [hr] at hi
  obtain rfl := List.mem_singleton.1 hi
  have q := h (fun a' w' => ((quietB late (listed.setIfInBounds i true) = true → S w') ∧ T w') ∧ AnyLate P md ops Q late S T n (listed.setIfInBounds i true) a' w') fun a' w' h1 h2 h3 => ⟨⟨h1, h2⟩, h3⟩
  unfold wpOp
  simp only [ho]
  split
  · rename_i hw
    rw [if_pos hw] at q
    exact .inl q
  · rename_i hw
    rw [if_neg hw] at q
    exact q
theorem late_done {listed : Array Bool} {a : Act} {w : World} (hr : Region.ready md ops listed = []) (h : Q .normal a w) : ∀ n, AnyLate P md ops Q late S T n listed a w
  | 0 => ⟨hr, h⟩
  | _ + 1 => ⟨fun _ => h, by rw [hr]; simp⟩
theorem late_begin (late : List Nat) (S T : World → Prop) {id : Nat} {a : Act} {w : World} (hm : P.follows .mixedOrders = true) (h : AnyLate P .any ops Q late S T ops.size (Array.replicate ops.size false) a w.drew) : (Code.region id ops true).wp P Q a w :=
  wp_region_any hm (any_of_late _ _ _ _ h)
end
end Go.Proofs.Ythpgnhmikffcpaa
