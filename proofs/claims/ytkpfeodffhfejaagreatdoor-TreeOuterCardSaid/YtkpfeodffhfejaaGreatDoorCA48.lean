/- The document's examples of trees: what they are, plainly; how they are shown. No condition. -/
import Derived.Test.YtkpfeodffhfejaaGreatDoorCA47
namespace Go.Proofs.YtkpfeodffhfejaaGreatDoor
set_option linter.unusedVariables false
set_option linter.unusedSimpArgs false
set_option maxRecDepth 1000000
open Go.RowKit

def dI : D := .mk 6 ⟨#[]⟩ 1 0 ⟨#[]⟩ [] [] 0
def dX : D := .mk 16 ⟨#[]⟩ 0 0 ⟨#[120]⟩ [] [] 0
def dT : D := .mk 18 ⟨#[84]⟩ 0 0 ⟨#[]⟩ [⟨#[65]⟩, ⟨#[66]⟩] [dI, dX] 0
def dP : D := .mk 22 ⟨#[]⟩ 0 0 ⟨#[]⟩ [] [dT] 0
def vI : V := .leaf (.int ⟨6, ⟨#[]⟩, 0⟩ 1)
def vX : V := .leaf (.text ⟨16, ⟨#[]⟩, 0⟩ ⟨#[120]⟩)
def vT : V := .great .struct ⟨18, ⟨#[84]⟩, 0⟩ 0 [⟨#[65]⟩, ⟨#[66]⟩] [vI, vX]
def vP : V := .great .ptr ⟨22, ⟨#[]⟩, 0⟩ 0 [] [vT]
theorem mk_T : mkV dT = some vT := by kernel_rfl
theorem mk_P : mkV dP = some vP := by kernel_rfl
theorem err_T : errD dT = 0 := by kernel_rfl
theorem err_P : errD dP = 0 := by kernel_rfl
theorem ty_T : typeV vT = ⟨#[84]⟩ := by kernel_rfl
theorem leaf_val {w : World} {v : Value} {l : Leaf} (h : IsV w v (.leaf l)) : v = l.val := by cases h; rfl
set_option maxHeartbeats 4000000 in
theorem value_T (f : SpecD) (W : World) (v : Value) (dep : Int) (h : IsV W v vT) (hd1 : 0 ≤ dep) (hd2 : dep ≤ 10) (hf : (numSpec f).Rng) (hv : DigV (numSpec f)) (rI rX : ByteArray) (s0 s1 : Tx)
    (hI : writeB (sgnD 1) (numSpec f) = rI) (hX : ∀ W, Calls Tryz.prog 24 #[.string ⟨#[120]⟩, .agg #[.bool f.plus, .bool f.minus, .bool f.sharp, .bool f.space, .bool f.zero, .int .i64 f.wid, .int .i64 f.prec, .int .i32 f.verb]] W (Ret2 W rX true)) (hz1 : rI.size ≤ 1000) (hz2 : rX.size ≤ 1000)
    (h0 : s0.1 = if namesB f = true then ⟨#[65]⟩ ++ ⟨#[58]⟩ ++ rI else rI) (h1 : s1.1 = if namesB f = true then ⟨#[66]⟩ ++ ⟨#[58]⟩ ++ rX else rX) :
    (∃ y, v = .iface 99 y) ∧ Calls Tryz.prog 25 #[.agg #[.bool f.plus, .bool f.minus, .bool f.sharp, .bool f.space, .bool f.zero, .int .i64 f.wid, .int .i64 f.prec, .int .i32 f.verb, .nilFunc], v, .int .i64 dep] W (Ret W (.string (groupB f ⟨#[84]⟩ ⟨#[123]⟩ ⟨#[125]⟩ (txs [s0, s1])))) := by
  have hty : ∀ W', Below W.heap.size W W' → Calls Tryz.prog 13 #[v] W' (Ret W' (.string ⟨#[84]⟩)) := fun W' hW => by
    have := Type_any (h.later hW) ⟨(show (0 : Int) ≤ 18 by decide), (show (18 : Int) ≤ 22 by decide)⟩
    rw [ty_T] at this
    exact this
  unfold vT at h
  cases h with
  | struct b a c bb oo vs names l hn k1 k2 k3 k4 k4' k5 k6 =>
    refine ⟨⟨_, rfl⟩, ?_⟩
    refine value_ok f _ _ dep W _ (by decide) fun W1 hW1 => ?_
    refine kind_fields f .nilFunc 18 ⟨#[84]⟩ 0 a 2 c dep W1 ⟨#[84]⟩ (by decide) hd1 (by omega) (fun W2 hW2 => hty W2 (hW1.next hW2)) bb oo vs (fun i => if i = 0 then ⟨#[65]⟩ else ⟨#[66]⟩) (fun i => if i = 0 then rI else rX) (fun h => k3 h)
      (fun i hi => cell_below hW1 ?_) (fun i hi => cell_below hW1 (k4' i hi)) (by decide) [s0, s1] rfl k6 (fun i hi W2 hW2 => ?_) (fun i hi => ?_) (fun i hi => ?_)
    · have := k4 i hi
      rcases (show i = 0 ∨ i = 1 by omega) with rfl | rfl <;> exact this
    · have h5 := k5 i hi
      rcases (show i = 0 ∨ i = 1 by simp at hi; omega) with rfl | rfl
      · have h5' : IsV W (vs 0) vI := h5
        have e : vs 0 = (Leaf.int ⟨6, ⟨#[]⟩, 0⟩ 1).val := by
          exact leaf_val h5'
        rw [e]
        refine value_ok f _ _ (dep + 1) W2 _ (by decide) fun W3 _ => ?_
        have := kind_int f .nilFunc ⟨6, ⟨#[]⟩, 0⟩ 1 (dep + 1) W3 hf hv (by decide) (by decide)
        rw [hI] at this
        exact this
      · have h5' : IsV W (vs 1) vX := h5
        have e : vs 1 = (Leaf.text ⟨16, ⟨#[]⟩, 0⟩ ⟨#[120]⟩).val := by
          exact leaf_val h5'
        rw [e]
        exact value_ok f _ _ (dep + 1) W2 _ (by decide) fun W3 _ => kind_text_of f .nilFunc ⟨16, ⟨#[]⟩, 0⟩ ⟨#[120]⟩ rX (dep + 1) W3 hX
    · rcases (show i = 0 ∨ i = 1 by omega) with rfl | rfl
      · exact ⟨(show (1 : Nat) ≤ 1000000000 by decide), Nat.le_trans hz1 (by decide)⟩
      · exact ⟨(show (1 : Nat) ≤ 1000000000 by decide), Nat.le_trans hz2 (by decide)⟩
    · rcases (show i = 0 ∨ i = 1 by simp at hi; omega) with rfl | rfl
      · exact h0
      · exact h1
end Go.Proofs.YtkpfeodffhfejaaGreatDoor

/- The document's examples of trees are as it says: the law's lives. No condition. -/
namespace Go.Proofs.YtkpfeodffhfejaaGreatDoor
set_option linter.unusedVariables false
set_option linter.unusedSimpArgs false
set_option maxRecDepth 1000000
open Go.RowKit

/-- The cells of a descriptor without names and parts. -/
def cells8 (d : D) : List Value := [.int .i64 d.kind, .string d.type, .int .u64 d.bits, .int .u64 d.imag, .string d.text, .slice none 0 0, .slice none 0 0, .int .i64 d.hook]
def flatDs : List D → List Value
  | [] => []
  | d :: l => cells8 d ++ flatDs l
theorem flatDs_get : ∀ (l : List D) (i : Nat) (h : i < l.length) (j : Nat), j < 8 → (flatDs l)[i * 8 + j]? = (cells8 l[i])[j]?
  | p :: l, 0, _, j, hj => by
    rw [flatDs, Nat.zero_mul, Nat.zero_add, List.getElem?_append_left (by show j < 8; exact hj)]
    rfl
  | p :: l, i + 1, h, j, hj => by
    rw [flatDs, List.getElem?_append_right (by show 8 ≤ _; omega)]
    have e : (i + 1) * 8 + j - (cells8 p).length = i * 8 + j := by show (i + 1) * 8 + j - 8 = _; omega
    rw [e, flatDs_get l i (by simpa using h) j hj]
    rfl
theorem parts_new (W : World) (ds : List D) (hn : ds.length ≤ 16) (h : ∀ d ∈ ds, (∀ W, IsD W (aggD d none 0 none 0) d) ∧ d.names = [] ∧ d.parts = []) :
    PartsAt (W.alloc (.cells (flatDs ds).toArray 26)) (some ⟨W.heap.size, 0, none⟩) ds.length ds := by
  refine ⟨Nat.le_refl _, by unfold cap47; omega, W.heap.size, 0, fun _ => rfl, fun i hi => ?_⟩
  obtain ⟨h1, h2, h3⟩ := h ds[i] (List.getElem_mem hi)
  have hc : ∀ j, j < 8 → (W.alloc (.cells (flatDs ds).toArray 26)).cell? ⟨W.heap.size, 0 + i * 8 + j, none⟩ = (cells8 ds[i])[j]? := fun j hj => by
    rw [cell_of_heap' (heap_alloc_new W _), List.getElem?_toArray, Nat.zero_add, flatDs_get ds i hi j hj]
  have hr : RowD (W.alloc (.cells (flatDs ds).toArray 26)) W.heap.size (0 + i * 8) ds[i] none 0 none 0 :=
    ⟨hc 0 (by omega), hc 1 (by omega), hc 2 (by omega), hc 3 (by omega), hc 4 (by omega), by rw [h2]; exact hc 5 (by omega), by rw [h3]; exact hc 6 (by omega), hc 7 (by omega)⟩
  rw [hr.eq]
  exact h1 _

theorem plain_I (W : World) : IsD W (aggD dI none 0 none 0) dI :=
  .mk dI none 0 none 0 0 0 ⟨by decide, by decide⟩ ⟨by decide, by decide⟩ ⟨by decide, by decide⟩ ⟨by decide, by decide⟩ (by unfold cap47; decide) (by unfold cap47; decide) ⟨Nat.le_refl _, by unfold cap47; decide, 0, 0, fun h => absurd h (by decide), fun i h => absurd h (Nat.not_lt_zero _), fun x hx => by cases hx⟩ (Nat.le_refl _) (by unfold cap47; decide) (fun h => absurd h (by decide)) (fun i h => absurd h (Nat.not_lt_zero _))
theorem plain_X (W : World) : IsD W (aggD dX none 0 none 0) dX :=
  .mk dX none 0 none 0 0 0 ⟨by decide, by decide⟩ ⟨by decide, by decide⟩ ⟨by decide, by decide⟩ ⟨by decide, by decide⟩ (by unfold cap47; decide) (by unfold cap47; decide) ⟨Nat.le_refl _, by unfold cap47; decide, 0, 0, fun h => absurd h (by decide), fun i h => absurd h (Nat.not_lt_zero _), fun x hx => by cases hx⟩ (Nat.le_refl _) (by unfold cap47; decide) (fun h => absurd h (by decide)) (fun i h => absurd h (Nat.not_lt_zero _))
def sharpS : SpecD := ⟨false, false, true, false, false, -1, -1, 118⟩
def txI : Tx := ⟨⟨#[49]⟩, by decide⟩
def txX : Tx := ⟨⟨#[120]⟩, by decide⟩
def txI2 : Tx := ⟨⟨#[65, 58, 49]⟩, by decide⟩
def txX2 : Tx := ⟨⟨#[66, 58, 34, 120, 34]⟩, by decide⟩
theorem asIs_x : asIs ⟨#[120]⟩ := by
  intro i h
  have h' : i = 0 := by have : (⟨#[120]⟩ : ByteArray).size = 1 := rfl; omega
  subst h'
  show 32 ≤ (120 : UInt8).toNat ∧ (120 : UInt8).toNat ≤ 126 ∧ (120 : UInt8).toNat ≠ 34 ∧ (120 : UInt8).toNat ≠ 92
  decide
theorem rng_n (f : SpecD) (h1 : f.wid = -1) (h2 : f.prec = -1) : f.Rng := by
  refine ⟨?_, ?_, ?_, ?_⟩ <;> first | rw [h1] | rw [h2]
  all_goals decide
theorem show_1 (W : World) (v : Value) (h : IsV W v vP) : Calls Tryz.prog 10 #[v, .agg #[.bool false, .bool false, .bool false, .bool false, .bool false, .int .i64 (-1), .int .i64 (-1), .int .i32 118], .nilFunc] W (Ret W (.string ⟨#[38, 123, 49, 32, 120, 125]⟩)) := by
  unfold vP at h
  cases h with
  | ptr1 b addr u x hu h =>
    have hX : ∀ W, Calls Tryz.prog 24 #[.string ⟨#[120]⟩, .agg #[.bool (bareS 118).plus, .bool (bareS 118).minus, .bool (bareS 118).sharp, .bool (bareS 118).space, .bool (bareS 118).zero, .int .i64 (bareS 118).wid, .int .i64 (bareS 118).prec, .int .i32 (bareS 118).verb]] W (Ret2 W ⟨#[120]⟩ true) := fun W => by
      have := qtext_any ⟨#[120]⟩ (bareS 118) W (by decide) (bareS_rng _) (.inl ⟨rfl, rfl⟩)
      rw [cutB_bare _ (bareS 118).prec rfl, padB_bare _ (bareS 118) rfl] at this
      exact this
    have hV := fun W' (hW : Below W.heap.size W W') => value_T (bareS 118) W' u 1 (h.later hW) (by decide) (by decide) (rng_n _ (by kernel_rfl) (by kernel_rfl)) (.inl (by kernel_rfl)) ⟨#[49]⟩ ⟨#[120]⟩ txI txX (by kernel_rfl) hX (by decide) (by decide) (by kernel_rfl) (by kernel_rfl)
    obtain ⟨⟨y, rfl⟩, _⟩ := hV W (Below.refl _ _)
    refine show_nil (bareS 118) _ W _ (by decide) fun W1 hW1 => ?_
    refine value_ok (bareS 118) _ _ 0 W1 _ (by decide) fun W2 hW2 => ?_
    refine kind_ptr (bareS 118) .nilFunc 22 ⟨#[]⟩ 0 0 _ 0 W2 _ true (.inr ⟨_, _, rfl⟩) fun W3 hW3 => ?_
    have := ptr_deep (bareS 118) .nilFunc 22 ⟨#[]⟩ 0 0 99 y W3 ⟨#[123, 49, 32, 120, 125]⟩ rfl (by decide) (.inl rfl) (fun W4 hW4 => (hV W4 (((hW1.next hW2).next hW3).next hW4)).2)
    exact this
theorem show_2 (W : World) (v : Value) (h : IsV W v vT) : Calls Tryz.prog 10 #[v, .agg #[.bool false, .bool false, .bool true, .bool false, .bool false, .int .i64 (-1), .int .i64 (-1), .int .i32 118], .nilFunc] W (Ret W (.string ⟨#[84, 123, 65, 58, 49, 44, 32, 66, 58, 34, 120, 34, 125]⟩)) := by
  have hX : ∀ W, Calls Tryz.prog 24 #[.string ⟨#[120]⟩, .agg #[.bool sharpS.plus, .bool sharpS.minus, .bool sharpS.sharp, .bool sharpS.space, .bool sharpS.zero, .int .i64 sharpS.wid, .int .i64 sharpS.prec, .int .i32 sharpS.verb]] W (Ret2 W ⟨#[34, 120, 34]⟩ true) := fun W => by
    have := qtextQ ⟨#[120]⟩ sharpS W (by decide) (rng_n _ rfl rfl) rfl rfl asIs_x
    rw [padB_bare _ sharpS rfl] at this
    exact this
  refine show_nil sharpS _ W _ (by decide) fun W1 hW1 => ?_
  exact (value_T sharpS W1 v 0 (h.later hW1) (by decide) (by decide) (rng_n _ (by kernel_rfl) (by kernel_rfl)) (.inl (by kernel_rfl)) ⟨#[49]⟩ ⟨#[34, 120, 34]⟩ txI2 txX2 (by kernel_rfl) hX (by decide) (by decide) (by kernel_rfl) (by kernel_rfl)).2
set_option maxHeartbeats 4000000 in
theorem bad_0 (W : World) : Calls Tryz.prog 27 #[.nilIface, .int .i32 100] W (Ret W (.string ⟨#[37, 33, 100, 40, 60, 110, 105, 108, 62, 41]⟩)) := by
  have HNIL := Lib.hid (isNil_yes .nilIface (.inl rfl))
  have HBN := Lib.hid (fun W => badNil_any 100 W)
  go_enter Tryz.func27, Tryz.ntmps27
  go_wp2_with fail
  refine (HNIL.out _).mono ?_
  rintro e w2 ⟨rfl, rfl⟩
  go_wp2_with fail
  refine (HBN.out _).mono ?_
  rintro e w2 ⟨rfl, hb⟩
  have HB := Lib.hid hb
  clear hb
  go_wp2_with fail
  go_ret
  exact ⟨rfl, HB.out⟩
end Go.Proofs.YtkpfeodffhfejaaGreatDoor
