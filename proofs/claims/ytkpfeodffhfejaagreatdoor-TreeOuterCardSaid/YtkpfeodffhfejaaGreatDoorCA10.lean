/- Values without parts out of descriptors, further kinds. -/
import Derived.Test.YtkpfeodffhfejaaGreatDoorCA09
import Derived.WalkSmall
namespace Go.Proofs.YtkpfeodffhfejaaGreatDoor
set_option linter.unusedVariables false
set_option maxRecDepth 1000000
set_option linter.unusedSimpArgs false
open Go.RowKit

theorem bit1 (x : Int) (h : U64 x) : bits BinOp.and IntKind.u64 x 1 = x % 2 := and_one_u64 x h.1 (by have := h.2; omega)
theorem low32q (x : Int) (w : World) : Calls Tryz.prog 57 #[.int .u64 x, .int .i64 32] w fun e w' => e = .returned (.int .u64 (x % 4294967296)) ∧ w' = w := (low32 x w).mono fun _ _ h => ⟨h.1, h.2.symm⟩
theorem low64q (x : Int) (hx : U64 x) (w : World) : Calls Tryz.prog 57 #[.int .u64 x, .int .i64 64] w fun e w' => e = .returned (.int .u64 x) ∧ w' = w := (low64 x hx w).mono fun _ _ h => ⟨h.1, h.2.symm⟩

set_option maxHeartbeats 4000000 in
set_option maxRecDepth 100000 in
theorem made_k1 (d : D) (w : World) (v : Value) (h : IsD w v d) (h1 : d.kind = 1) : Calls Tryz.prog 36 #[v] w (MadeIs w (leafV d)) := by
  obtain ⟨a5, c5, a6, c6, rfl, hk, hb, hi, ht, hx, hn, hp⟩ := h.open
  have HB := Lib.hid hb
  have HI := Lib.hid hi
  have HV : Hid (leafV d = .leaf (.bool d.base (d.bits % 2 == 1))) := by show _ = _; unfold leafV; simp [h1]
  have HBase : Hid (d.base = ⟨1, d.type, d.hook⟩) := by show _ = _; unfold D.base; rw [h1]
  clear hp hn hb hi hk ht hx h
  unfold aggD
  obtain ⟨x, hx⟩ : ∃ x, x = leafV d := ⟨_, rfl⟩
  rw [← hx] at HV
  rw [← hx, h1]
  clear hx h1
  go_enter Tryz.func36, Tryz.ntmps36
  go_wp2
  refine bodyPost_ret (v := .iface 85 (.agg #[.int .i64 1, .string d.type, .int .i64 d.hook, .bool (d.bits % 2 == 1)])) (by simp [results, Tryz.f36, go_sem, bit1 _ HB.out]) rfl ?_
  rw [HBase.out] at HV
  exact made_of (l := .bool ⟨1, d.type, d.hook⟩ (d.bits % 2 == 1)) (((Below.new _).push _)) HV.out

set_option maxHeartbeats 4000000 in
set_option maxRecDepth 100000 in
theorem made_k12 (d : D) (w : World) (v : Value) (h : IsD w v d) (h1 : d.kind = 12) : Calls Tryz.prog 36 #[v] w (MadeIs w (leafV d)) := by
  obtain ⟨a5, c5, a6, c6, rfl, hk, hb, hi, ht, hx, hn, hp⟩ := h.open
  have HB := Lib.hid hb
  have HI := Lib.hid hi
  have HV : Hid (leafV d = .leaf (.float d.base (d.bits % 4294967296) 32)) := by show _ = _; unfold leafV; simp [h1]
  have HBase : Hid (d.base = ⟨12, d.type, d.hook⟩) := by show _ = _; unfold D.base; rw [h1]
  clear hp hn hb hi hk ht hx h
  unfold aggD
  obtain ⟨x, hx⟩ : ∃ x, x = leafV d := ⟨_, rfl⟩
  rw [← hx] at HV
  rw [← hx, h1]
  clear hx h1
  go_enter Tryz.func36, Tryz.ntmps36
  go_wp2_with fail
  go_quiet ((first | (go_at_call 57; exact Calls.quiet_of_same (low32q _ _))))
  go_wp2_with fail
  refine bodyPost_ret (v := .iface 91 (.agg #[.int .i64 12, .string d.type, .int .i64 d.hook, .int .u64 (d.bits % 4294967296), .int .i64 32])) (by simp [results, Tryz.f36, go_sem]) rfl ?_
  rw [HBase.out] at HV
  exact made_of (l := .float ⟨12, d.type, d.hook⟩ (d.bits % 4294967296) 32) (((Below.new _).push _).drewN _) HV.out

set_option maxHeartbeats 4000000 in
set_option maxRecDepth 100000 in
theorem made_k13 (d : D) (w : World) (v : Value) (h : IsD w v d) (h1 : d.kind = 13) : Calls Tryz.prog 36 #[v] w (MadeIs w (leafV d)) := by
  obtain ⟨a5, c5, a6, c6, rfl, hk, hb, hi, ht, hx, hn, hp⟩ := h.open
  have HB := Lib.hid hb
  have HI := Lib.hid hi
  have HV : Hid (leafV d = .leaf (.float d.base d.bits 64)) := by show _ = _; unfold leafV; simp [h1]
  have HBase : Hid (d.base = ⟨13, d.type, d.hook⟩) := by show _ = _; unfold D.base; rw [h1]
  clear hp hn hb hi hk ht hx h
  unfold aggD
  obtain ⟨x, hx⟩ : ∃ x, x = leafV d := ⟨_, rfl⟩
  rw [← hx] at HV
  rw [← hx, h1]
  clear hx h1
  go_enter Tryz.func36, Tryz.ntmps36
  go_wp2_with fail
  go_quiet ((first | (go_at_call 57; with_reducible exact Calls.quiet_of_same (low64q _ HB.out _)) | (go_at_call 57; with_reducible exact Calls.quiet_of_same (low64q _ HI.out _))))
  go_wp2_with fail
  refine bodyPost_ret (v := .iface 91 (.agg #[.int .i64 13, .string d.type, .int .i64 d.hook, .int .u64 d.bits, .int .i64 64])) (by simp [results, Tryz.f36, go_sem]) rfl ?_
  rw [HBase.out] at HV
  exact made_of (l := .float ⟨13, d.type, d.hook⟩ d.bits 64) (((Below.new _).push _).drewN _) HV.out

set_option maxHeartbeats 4000000 in
set_option maxRecDepth 100000 in
theorem made_k14 (d : D) (w : World) (v : Value) (h : IsD w v d) (h1 : d.kind = 14) : Calls Tryz.prog 36 #[v] w (MadeIs w (leafV d)) := by
  obtain ⟨a5, c5, a6, c6, rfl, hk, hb, hi, ht, hx, hn, hp⟩ := h.open
  have HB := Lib.hid hb
  have HI := Lib.hid hi
  have HV : Hid (leafV d = .leaf (.cplx d.base (d.bits % 4294967296) (d.imag % 4294967296) 64)) := by show _ = _; unfold leafV; simp [h1]
  have HBase : Hid (d.base = ⟨14, d.type, d.hook⟩) := by show _ = _; unfold D.base; rw [h1]
  clear hp hn hb hi hk ht hx h
  unfold aggD
  obtain ⟨x, hx⟩ : ∃ x, x = leafV d := ⟨_, rfl⟩
  rw [← hx] at HV
  rw [← hx, h1]
  clear hx h1
  go_enter Tryz.func36, Tryz.ntmps36
  go_wp2_with fail
  go_quiet ((first | (go_at_call 57; exact Calls.quiet_of_same (low32q _ _))))
  go_wp2_with fail
  refine bodyPost_ret (v := .iface 93 (.agg #[.int .i64 14, .string d.type, .int .i64 d.hook, .int .u64 (d.bits % 4294967296), .int .u64 (d.imag % 4294967296), .int .i64 64])) (by simp [results, Tryz.f36, go_sem]) rfl ?_
  rw [HBase.out] at HV
  exact made_of (l := .cplx ⟨14, d.type, d.hook⟩ (d.bits % 4294967296) (d.imag % 4294967296) 64) (((Below.new _).push _).drewN _) HV.out

set_option maxHeartbeats 4000000 in
set_option maxRecDepth 100000 in
theorem made_k15 (d : D) (w : World) (v : Value) (h : IsD w v d) (h1 : d.kind = 15) : Calls Tryz.prog 36 #[v] w (MadeIs w (leafV d)) := by
  obtain ⟨a5, c5, a6, c6, rfl, hk, hb, hi, ht, hx, hn, hp⟩ := h.open
  have HB := Lib.hid hb
  have HI := Lib.hid hi
  have HV : Hid (leafV d = .leaf (.cplx d.base d.bits d.imag 128)) := by show _ = _; unfold leafV; simp [h1]
  have HBase : Hid (d.base = ⟨15, d.type, d.hook⟩) := by show _ = _; unfold D.base; rw [h1]
  clear hp hn hb hi hk ht hx h
  unfold aggD
  obtain ⟨x, hx⟩ : ∃ x, x = leafV d := ⟨_, rfl⟩
  rw [← hx] at HV
  rw [← hx, h1]
  clear hx h1
  go_enter Tryz.func36, Tryz.ntmps36
  go_wp2_with fail
  go_quiet ((first | (go_at_call 57; with_reducible exact Calls.quiet_of_same (low64q _ HB.out _)) | (go_at_call 57; with_reducible exact Calls.quiet_of_same (low64q _ HI.out _))))
  go_wp2_with fail
  refine bodyPost_ret (v := .iface 93 (.agg #[.int .i64 15, .string d.type, .int .i64 d.hook, .int .u64 d.bits, .int .u64 d.imag, .int .i64 128])) (by simp [results, Tryz.f36, go_sem]) rfl ?_
  rw [HBase.out] at HV
  exact made_of (l := .cplx ⟨15, d.type, d.hook⟩ d.bits d.imag 128) (((Below.new _).push _).drewN _) HV.out

set_option maxHeartbeats 4000000 in
set_option maxRecDepth 100000 in
theorem made_k16 (d : D) (w : World) (v : Value) (h : IsD w v d) (h1 : d.kind = 16) : Calls Tryz.prog 36 #[v] w (MadeIs w (leafV d)) := by
  obtain ⟨a5, c5, a6, c6, rfl, hk, hb, hi, ht, hx, hn, hp⟩ := h.open
  have HB := Lib.hid hb
  have HI := Lib.hid hi
  have HV : Hid (leafV d = .leaf (.text d.base d.text)) := by show _ = _; unfold leafV; simp [h1]
  have HBase : Hid (d.base = ⟨16, d.type, d.hook⟩) := by show _ = _; unfold D.base; rw [h1]
  clear hp hn hb hi hk ht hx h
  unfold aggD
  obtain ⟨x, hx⟩ : ∃ x, x = leafV d := ⟨_, rfl⟩
  rw [← hx] at HV
  rw [← hx, h1]
  clear hx h1
  go_enter Tryz.func36, Tryz.ntmps36
  go_wp2
  refine bodyPost_ret (v := .iface 95 (.agg #[.int .i64 16, .string d.type, .int .i64 d.hook, .string d.text])) (by simp [results, Tryz.f36, go_sem]) rfl ?_
  rw [HBase.out] at HV
  exact made_of (l := .text ⟨16, d.type, d.hook⟩ d.text) (((Below.new _).push _)) HV.out

set_option maxHeartbeats 4000000 in
set_option maxRecDepth 100000 in
theorem made_k17 (d : D) (w : World) (v : Value) (h : IsD w v d) (h1 : d.kind = 17) : Calls Tryz.prog 36 #[v] w (MadeIs w (leafV d)) := by
  obtain ⟨a5, c5, a6, c6, rfl, hk, hb, hi, ht, hx, hn, hp⟩ := h.open
  have HB := Lib.hid hb
  have HI := Lib.hid hi
  have HV : Hid (leafV d = .leaf (.bytes d.base d.text)) := by show _ = _; unfold leafV; simp [h1]
  have HBase : Hid (d.base = ⟨17, d.type, d.hook⟩) := by show _ = _; unfold D.base; rw [h1]
  clear hp hn hb hi hk ht hx h
  unfold aggD
  obtain ⟨x, hx⟩ : ∃ x, x = leafV d := ⟨_, rfl⟩
  rw [← hx] at HV
  rw [← hx, h1]
  clear hx h1
  go_enter Tryz.func36, Tryz.ntmps36
  go_wp2
  refine bodyPost_ret (v := .iface 96 (.agg #[.int .i64 17, .string d.type, .int .i64 d.hook, .string d.text])) (by simp [results, Tryz.f36, go_sem]) rfl ?_
  rw [HBase.out] at HV
  exact made_of (l := .bytes ⟨17, d.type, d.hook⟩ d.text) (((Below.new _).push _)) HV.out

theorem made_nil (d : D) (w : World) (v : Value) (h : IsD w v d) (h1 : d.kind = 0) : Calls Tryz.prog 36 #[v] w (MadeIs w (leafV d)) := by
  obtain ⟨a5, c5, a6, c6, rfl, hk, hb, hi, ht, hx, hn, hp⟩ := h.open
  have HV : Hid (leafV d = .nil) := by show _ = _; unfold leafV; simp [h1]
  clear hp hn hb hi hk ht hx h
  unfold aggD
  obtain ⟨x, hx⟩ : ∃ x, x = leafV d := ⟨_, rfl⟩
  rw [← hx] at HV
  rw [← hx, h1]
  clear hx h1
  go_enter Tryz.func36, Tryz.ntmps36
  go_wp2
  refine bodyPost_ret (v := .iface 112 (.agg #[])) (by simp [results, Tryz.f36, go_sem]) rfl ?_
  exact ⟨(Below.new _).push _, 112, _, rfl, by rw [HV.out]; exact .nil⟩
end Go.Proofs.YtkpfeodffhfejaaGreatDoor

/- A descriptor's value, as plain Lean data; rows of the call's own in later worlds. No condition. -/
namespace Go.Proofs.YtkpfeodffhfejaaGreatDoor
set_option linter.unusedVariables false
set_option maxRecDepth 1000000
open Go.RowKit

theorem owns_laterV {w w' : World} {base : Nat} {e : TypeId} {size : Nat} {v : Value} {n : Nat} {xs : List Value} (h : w.ownsRow base e size v n xs) (hb : Below w.heap.size w w') : w'.ownsRow base e size v n xs := by
  obtain ⟨h1, h2 | ⟨g, cap, cur, e1, e2, e3, e4, e5, e6, e7⟩⟩ := h
  · exact ⟨h1, .inl h2⟩
  · have hg : g < w.heap.size := by
      rcases Nat.lt_or_ge g w.heap.size with h | h
      · exact h
      · rw [Array.getElem?_eq_none h] at e3; cases e3
    exact ⟨h1, .inr ⟨g, cap, cur, e1, e2, by rw [hb.block g hg]; exact e3, e4, e5, e6, e7⟩⟩
/-- The j-th cell of such a row. -/
theorem owns_cell {w : World} {base : Nat} {e : TypeId} {size : Nat} {v : Value} {n : Nat} {xs : List Value} (h : w.ownsRow base e size v n xs) (hn : 0 < n) :
    ∃ g cap, v = .slice (some ⟨g, 0, none⟩) n cap ∧ base ≤ g ∧ g < w.heap.size ∧ n ≤ cap ∧ cap ≤ maxLen ∧ ∀ j u, xs[j]? = some u → w.cell? ⟨g, j, none⟩ = some u := by
  obtain ⟨h1, ⟨_, h2⟩ | ⟨g, cap, cur, e1, e2, e3, e4, e5, e6, e7⟩⟩ := h
  · omega
  · have hg : g < w.heap.size := by
      rcases Nat.lt_or_ge g w.heap.size with h | h
      · exact h
      · rw [Array.getElem?_eq_none h] at e3; cases e3
    refine ⟨g, cap, e1, e2, hg, e4, e5, fun j u hj => ?_⟩
    subst e7
    have hj' : cur[j]? = some u := by
      rw [List.getElem?_take] at hj
      split at hj
      · simpa using hj
      · cases hj
    simp [World.cell?, e3, hj']

/-- Keys and values by turns. -/
def pairs : List V → List (V × V)
  | k :: v :: l => (k, v) :: pairs l
  | _ => []
def flat : List (V × V) → List V
  | [] => []
  | (k, v) :: l => k :: v :: flat l
def insP (e : V × V) : List (V × V) → List (V × V)
  | [] => [e]
  | x :: l => if ordV e.1 x.1 < 0 then e :: x :: l else x :: insP e l
def sortP : List (V × V) → List (V × V)
  | [] => []
  | e :: l => insP e (sortP l)
/-- No key is there twice. -/
def Apart (l : List (V × V)) : Prop := l.Pairwise fun a b => ordV a.1 b.1 ≠ 0
instance (l : List (V × V)) : Decidable (Apart l) := by unfold Apart; infer_instance
/-- The value of a descriptor with parts, out of the parts' values. -/
def greatV (d : D) (l : List V) : Option V :=
  if d.kind = 18 then (if d.names.Nodup then some (.great .struct d.base 0 d.names l) else none)
  else if d.kind = 21 then (if Apart (pairs l) then some (.great .map d.base 0 [] (flat (sortP (pairs l)))) else none)
  else if d.kind = 22 then some (.great .ptr d.base d.bits [] l)
  else some (.great .list d.base 0 [] l)
mutual
/-- The value; none: something is there twice. -/
def mkV : D → Option V
  | .mk k t b i x n p h => if k < 18 then some (leafV (.mk k t b i x n p h)) else match mkL p with
    | none => none
    | some l => greatV (.mk k t b i x n p h) l
def mkL : List D → Option (List V)
  | [] => some []
  | x :: l => match mkV x with
    | none => none
    | some y => match mkL l with
      | none => none
      | some ys => some (y :: ys)
end
theorem mkV_leaf {d : D} (h : d.kind < 18) : mkV d = some (leafV d) := by
  cases d with
  | mk k t b i x n p h' => unfold mkV; exact if_pos h
theorem mkV_great {d : D} (h : 18 ≤ d.kind) : mkV d = (mkL d.parts).bind (greatV d) := by
  cases d with
  | mk k t b i x n p h' =>
    unfold mkV
    rw [if_neg (by simp only [D.kind] at h; omega)]
    show _ = (mkL p).bind _
    cases mkL p <;> rfl
theorem mkL_snoc : ∀ (l : List D) (x : D) {ys : List V} {y : V}, mkL l = some ys → mkV x = some y → mkL (l ++ [x]) = some (ys ++ [y])
  | [], x, ys, y => fun h1 h2 => by
    simp only [mkL, Option.some.injEq] at h1
    subst h1
    simp [mkL, h2]
  | a :: l, x, ys, y => fun h1 h2 => by
    rw [List.cons_append]
    unfold mkL at h1 ⊢
    cases ha : mkV a with
    | none => rw [ha] at h1; cases h1
    | some b =>
      rw [ha] at h1
      cases hl : mkL l with
      | none => rw [hl] at h1; cases h1
      | some bs =>
        rw [hl] at h1
        simp only [Option.some.injEq] at h1
        subst h1
        simp only
        rw [mkL_snoc l x hl h2]; rfl
theorem mkL_none : ∀ (l : List D) (x : D) (r : List D), mkV x = none → mkL (l ++ x :: r) = none
  | [], x, r => fun h => by rw [List.nil_append]; unfold mkL; rw [h]
  | a :: l, x, r => fun h => by
    rw [List.cons_append]
    unfold mkL
    cases mkV a with
    | none => rfl
    | some b => simp only; rw [mkL_none l x r h]
theorem mkL_length : ∀ (l : List D) {ys : List V}, mkL l = some ys → ys.length = l.length
  | [], ys => fun h => by simp only [mkL, Option.some.injEq] at h; subst h; rfl
  | a :: l, ys => fun h => by
    unfold mkL at h
    cases ha : mkV a with
    | none => rw [ha] at h; cases h
    | some b =>
      rw [ha] at h
      cases hl : mkL l with
      | none => rw [hl] at h; cases h
      | some bs =>
        rw [hl] at h
        simp only [Option.some.injEq] at h
        subst h
        simp [mkL_length l hl]
/-- What made comes to. -/
def MadePost (w : World) (d : D) (e : Ending) (w' : World) : Prop :=
  match mkV d with
  | some x => MadeIs w x e w'
  | none => e = thrown 5 ∧ Below w.heap.size w w'
end Go.Proofs.YtkpfeodffhfejaaGreatDoor
