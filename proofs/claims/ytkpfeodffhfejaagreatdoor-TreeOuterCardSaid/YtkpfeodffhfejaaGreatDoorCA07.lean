/- The order of values: the functions order and Cmp, and what they call of the library. Condition: values whose kinds are those of their types. -/
import Derived.Test.YtkpfeodffhfejaaGreatDoorCA05
import Derived.Deep.QuietTactic
import Derived.BigQuiet
namespace Go.Proofs.YtkpfeodffhfejaaGreatDoor
set_option linter.unusedVariables false
set_option maxRecDepth 1000000
open Go.RowKit

def cmpI (x y : Int) : Int := if x < y then -1 else if y < x then 1 else 0
def cmpS (a b : ByteArray) : Int := Lib.compareBytes a.data.toList b.data.toList

theorem compare78 (a b : ByteArray) (w : World) : Calls Tryz.prog 141 #[.string a, .string b] w fun e w' => e = .returned (.int .i64 (cmpS a b)) ∧ w = w' := by
  unfold cmpS
  go_enter Tryz.func141, Tryz.ntmps141
  go_wp2
  rw [run_callFunc_extern Tryz.func167 (by kernel_rfl) (by kernel_rfl) (by kernel_rfl) (e := Extern.BytealgCompare.compare) (by kernel_rfl), Lib.run_compareString]
  simp only [Result.andThen]
  rw [Oper.upon_value]
  go_wp2
  go_ret
  exact ⟨rfl, rfl⟩
theorem compare68 (a b : ByteArray) (w : World) : Calls Tryz.prog 115 #[.string a, .string b] w fun e w' => e = .returned (.int .i64 (cmpS a b)) ∧ w = w' := by
  go_enter Tryz.func115, Tryz.ntmps115
  go_wp2_with fail
  refine (compare78 a b w).mono ?_
  rintro e w' ⟨rfl, rfl⟩
  go_wp2_with fail
  go_ret
  exact ⟨rfl, rfl⟩

theorem isnan75 (x : Int) (w : World) : Calls Tryz.prog 138 #[.int .i64 x] w fun e w' => e = .returned (.bool false) ∧ w = w' := by
  go_enter Tryz.func138, Tryz.ntmps138
  go_wp2
  go_ret
  exact ⟨by simp, rfl⟩
theorem cmp65 (x y : Int) (w : World) : Calls Tryz.prog 112 #[.int .i64 x, .int .i64 y] w fun e w' => e = .returned (.int .i64 (cmpI x y)) ∧ w = w' := by
  unfold cmpI
  by_cases h1 : x < y
  · rw [if_pos h1]
    go_enter Tryz.func112, Tryz.ntmps112
    go_wp2_with fail
    refine (isnan75 x w).mono ?_
    rintro e w' ⟨rfl, rfl⟩
    go_wp2_with fail
    refine (isnan75 y w).mono ?_
    rintro e w' ⟨rfl, rfl⟩
    go_wp2_with fail
    go_ret
    exact ⟨rfl, rfl⟩
  · rw [if_neg h1]
    by_cases h2 : y < x
    · rw [if_pos h2]
      go_enter Tryz.func112, Tryz.ntmps112
      go_wp2_with fail
      refine (isnan75 x w).mono ?_
      rintro e w' ⟨rfl, rfl⟩
      go_wp2_with fail
      refine (isnan75 y w).mono ?_
      rintro e w' ⟨rfl, rfl⟩
      go_wp2_with fail
      go_ret
      exact ⟨rfl, rfl⟩
    · rw [if_neg h2]
      go_enter Tryz.func112, Tryz.ntmps112
      go_wp2_with fail
      refine (isnan75 x w).mono ?_
      rintro e w' ⟨rfl, rfl⟩
      go_wp2_with fail
      refine (isnan75 y w).mono ?_
      rintro e w' ⟨rfl, rfl⟩
      go_wp2_with fail
      go_ret
      exact ⟨rfl, rfl⟩

theorem isnan76 (x : Int) (w : World) : Calls Tryz.prog 139 #[.int .i64 x] w fun e w' => e = .returned (.bool false) ∧ w = w' := by
  go_enter Tryz.func139, Tryz.ntmps139
  go_wp2
  go_ret
  exact ⟨by simp, rfl⟩
theorem cmp66 (x y : Int) (w : World) : Calls Tryz.prog 113 #[.int .i64 x, .int .i64 y] w fun e w' => e = .returned (.int .i64 (cmpI x y)) ∧ w = w' := by
  unfold cmpI
  by_cases h1 : x < y
  · rw [if_pos h1]
    go_enter Tryz.func113, Tryz.ntmps113
    go_wp2_with fail
    refine (isnan76 x w).mono ?_
    rintro e w' ⟨rfl, rfl⟩
    go_wp2_with fail
    refine (isnan76 y w).mono ?_
    rintro e w' ⟨rfl, rfl⟩
    go_wp2_with fail
    go_ret
    exact ⟨rfl, rfl⟩
  · rw [if_neg h1]
    by_cases h2 : y < x
    · rw [if_pos h2]
      go_enter Tryz.func113, Tryz.ntmps113
      go_wp2_with fail
      refine (isnan76 x w).mono ?_
      rintro e w' ⟨rfl, rfl⟩
      go_wp2_with fail
      refine (isnan76 y w).mono ?_
      rintro e w' ⟨rfl, rfl⟩
      go_wp2_with fail
      go_ret
      exact ⟨rfl, rfl⟩
    · rw [if_neg h2]
      go_enter Tryz.func113, Tryz.ntmps113
      go_wp2_with fail
      refine (isnan76 x w).mono ?_
      rintro e w' ⟨rfl, rfl⟩
      go_wp2_with fail
      refine (isnan76 y w).mono ?_
      rintro e w' ⟨rfl, rfl⟩
      go_wp2_with fail
      go_ret
      exact ⟨rfl, rfl⟩

theorem isnan77 (x : Int) (w : World) : Calls Tryz.prog 140 #[.int .u64 x] w fun e w' => e = .returned (.bool false) ∧ w = w' := by
  go_enter Tryz.func140, Tryz.ntmps140
  go_wp2
  go_ret
  exact ⟨by simp, rfl⟩
theorem cmp67 (x y : Int) (w : World) : Calls Tryz.prog 114 #[.int .u64 x, .int .u64 y] w fun e w' => e = .returned (.int .i64 (cmpI x y)) ∧ w = w' := by
  unfold cmpI
  by_cases h1 : x < y
  · rw [if_pos h1]
    go_enter Tryz.func114, Tryz.ntmps114
    go_wp2_with fail
    refine (isnan77 x w).mono ?_
    rintro e w' ⟨rfl, rfl⟩
    go_wp2_with fail
    refine (isnan77 y w).mono ?_
    rintro e w' ⟨rfl, rfl⟩
    go_wp2_with fail
    go_ret
    exact ⟨rfl, rfl⟩
  · rw [if_neg h1]
    by_cases h2 : y < x
    · rw [if_pos h2]
      go_enter Tryz.func114, Tryz.ntmps114
      go_wp2_with fail
      refine (isnan77 x w).mono ?_
      rintro e w' ⟨rfl, rfl⟩
      go_wp2_with fail
      refine (isnan77 y w).mono ?_
      rintro e w' ⟨rfl, rfl⟩
      go_wp2_with fail
      go_ret
      exact ⟨rfl, rfl⟩
    · rw [if_neg h2]
      go_enter Tryz.func114, Tryz.ntmps114
      go_wp2_with fail
      refine (isnan77 x w).mono ?_
      rintro e w' ⟨rfl, rfl⟩
      go_wp2_with fail
      refine (isnan77 y w).mono ?_
      rintro e w' ⟨rfl, rfl⟩
      go_wp2_with fail
      go_ret
      exact ⟨rfl, rfl⟩

/-- The kind is one of the type's. -/
def V.ok : V → Prop
  | .nil => True
  | .leaf (.bool b _) => b.kind = 1
  | .leaf (.int b _) => 2 ≤ b.kind ∧ b.kind ≤ 6
  | .leaf (.uint b _) => 7 ≤ b.kind ∧ b.kind ≤ 11
  | .leaf (.float b _ _) => 12 ≤ b.kind ∧ b.kind ≤ 13
  | .leaf (.cplx b _ _ _) => 14 ≤ b.kind ∧ b.kind ≤ 15
  | .leaf (.text b _) => b.kind = 16
  | .leaf (.bytes b _) => b.kind = 17
  | .great .struct b _ _ _ => b.kind = 18
  | .great .list b _ _ _ => 19 ≤ b.kind ∧ b.kind ≤ 20
  | .great .map b _ _ _ => b.kind = 21
  | .great .ptr b _ _ _ => b.kind = 22

def andThenName (c : Int) (a b : V) : Int := if c = 0 then cmpS a.base.name b.base.name else c
/-- order. -/
def ordV (a b : V) : Int :=
  if a.base.kind ≠ b.base.kind then cmpI a.base.kind b.base.kind
  else match a, b with
    | .leaf (.bool _ x), .leaf (.bool _ y) => andThenName (if x = y then 0 else if y then -1 else 1) a b
    | .leaf (.int _ x), .leaf (.int _ y) => andThenName (cmpI x y) a b
    | .leaf (.uint _ x), .leaf (.uint _ y) => andThenName (cmpI x y) a b
    | .leaf (.text _ x), .leaf (.text _ y) => andThenName (cmpS x y) a b
    | _, _ => 0

def OrdPost (w : World) (a b : V) (e : Ending) (w' : World) : Prop := e = .returned (.int .i64 (ordV a b)) ∧ Below w.heap.size w w'
theorem ret_int {k : IntKind} {a b : Int} (h : a = b) : Ending.returned (.int k a) = .returned (.int k b) := by rw [h]

theorem inv_bool {w : World} {v : Value} {x : V} (h : IsV w v x) (ho : x.ok) (hk : x.base.kind = 1) : ∃ b y, x = .leaf (.bool b y) ∧ v = .iface 85 (.agg #[.int .i64 b.kind, .string b.name, .int .i64 b.hook, .bool y]) := by
  cases h with
  | leaf l => cases l <;> simp only [V.ok, V.base, Leaf.base] at ho hk <;> first | exact ⟨_, _, rfl, rfl⟩ | omega
  | nil => simp [V.base] at hk
  | nil0 => simp [V.base] at hk
  | _ => simp only [V.ok, V.base] at ho hk; omega
theorem inv_int {w : World} {v : Value} {x : V} (h : IsV w v x) (ho : x.ok) (h1 : 2 ≤ x.base.kind) (h2 : x.base.kind ≤ 6) : ∃ b y, x = .leaf (.int b y) ∧ v = .iface 87 (.agg #[.int .i64 b.kind, .string b.name, .int .i64 b.hook, .int .i64 y]) := by
  cases h with
  | leaf l => cases l <;> simp only [V.ok, V.base, Leaf.base] at ho h1 h2 <;> first | exact ⟨_, _, rfl, rfl⟩ | omega
  | nil => simp [V.base] at h1
  | nil0 => simp [V.base] at h1
  | _ => simp only [V.ok, V.base] at ho h1 h2; omega
theorem inv_uint {w : World} {v : Value} {x : V} (h : IsV w v x) (ho : x.ok) (h1 : 7 ≤ x.base.kind) (h2 : x.base.kind ≤ 11) : ∃ b y, x = .leaf (.uint b y) ∧ v = .iface 89 (.agg #[.int .i64 b.kind, .string b.name, .int .i64 b.hook, .int .u64 y]) := by
  cases h with
  | leaf l => cases l <;> simp only [V.ok, V.base, Leaf.base] at ho h1 h2 <;> first | exact ⟨_, _, rfl, rfl⟩ | omega
  | nil => simp [V.base] at h1
  | nil0 => simp [V.base] at h1
  | _ => simp only [V.ok, V.base] at ho h1 h2; omega
theorem inv_text {w : World} {v : Value} {x : V} (h : IsV w v x) (ho : x.ok) (hk : x.base.kind = 16) : ∃ b y, x = .leaf (.text b y) ∧ v = .iface 95 (.agg #[.int .i64 b.kind, .string b.name, .int .i64 b.hook, .string y]) := by
  cases h with
  | leaf l => cases l <;> simp only [V.ok, V.base, Leaf.base] at ho hk <;> first | exact ⟨_, _, rfl, rfl⟩ | omega
  | nil => simp [V.base] at hk
  | nil0 => simp [V.base] at hk
  | _ => simp only [V.ok, V.base] at ho hk; omega

theorem order_apart {w : World} {va vb : Value} {a b : V} (ha : IsV w va a) (hb : IsV w vb b) (hk : a.base.kind ≠ b.base.kind) : Calls Tryz.prog 88 #[va, vb] w (OrdPost w a b) := by
  have ho : Hid (ordV a b = cmpI a.base.kind b.base.kind) := by show _ = _; unfold ordV; rw [if_pos hk]
  have HA := Lib.hid ha
  have HBb := Lib.hid hb
  obtain ⟨p, hp⟩ : ∃ p, p = a.base := ⟨_, rfl⟩
  obtain ⟨q, hq⟩ : ∃ q, q = b.base := ⟨_, rfl⟩
  have hne : (p.kind != q.kind) = true := by rw [hp, hq]; simpa using hk
  rw [← hp, ← hq] at ho
  have HP := Lib.hid hp
  have HQ := Lib.hid hq
  clear ha hb hk hp hq
  go_enter Tryz.func88, Tryz.ntmps88
  go_wp2_with fail
  refine (base_any HA.out).mono ?_
  unfold BasePost
  rw [← HP.out]
  rintro e w1 ⟨rfl, hB1⟩
  have HB1 := Lib.hid hB1
  have hz1 := hB1.size
  clear hB1
  go_wp2_with fail
  refine (base_any (HBb.out.later (HB1.out.push _))).mono ?_
  unfold BasePost
  rw [← HQ.out]
  rintro e w2 ⟨rfl, hB2⟩
  have hx0 : w2.cell? ⟨w1.heap.size, 0, none⟩ = some (.int .i64 p.kind) := cell_below hB2 (by simp)
  have hx1 : w2.cell? ⟨w1.heap.size, 1, none⟩ = some (.string p.name) := cell_below hB2 (by simp)
  have hlt : w1.heap.size < w2.heap.size := by have := hB2.size; simp at this; omega
  have hlt1 : w1.heap.size < w2.heap.size + 1 := by omega
  have hlt2 : w1.heap.size < w2.heap.size + 1 + 1 := by omega
  have hlt3 : w1.heap.size < w2.heap.size + 1 + 1 + 1 := by omega
  have HB2 := Lib.hid ((HB1.out.push _).next hB2)
  clear hB2 HB1
  go_wp2_with fail
  refine (cmp65 p.kind q.kind _).mono ?_
  rintro e w3 ⟨rfl, rfl⟩
  go_wp2_with fail
  go_ret
  exact ⟨by rw [ho.out]; rfl, HB2.out.push _⟩

theorem asf82 (v : Value) (w : World) : (Instr.typeAssert (.iface 85 v) 28 85 false).run Tryz.prog w = .ok v w := by simp [Instr.typeAssert, run_underlying Tryz.underlying85]
theorem asf85 (v : Value) (w : World) : (Instr.typeAssert (.iface 87 v) 28 87 false).run Tryz.prog w = .ok v w := by simp [Instr.typeAssert, run_underlying Tryz.underlying87]
theorem asf87 (v : Value) (w : World) : (Instr.typeAssert (.iface 89 v) 28 89 false).run Tryz.prog w = .ok v w := by simp [Instr.typeAssert, run_underlying Tryz.underlying89]
theorem fld85 (k n h x : Value) (w : World) : (Instr.field 87 (.agg #[k, n, h, x]) 1).run Tryz.prog w = .ok x w := by kernel_rfl
theorem fld87 (k n h x : Value) (w : World) : (Instr.field 89 (.agg #[k, n, h, x]) 1).run Tryz.prog w = .ok x w := by kernel_rfl
theorem fld94 (k n h x : Value) (w : World) : (Instr.field 95 (.agg #[k, n, h, x]) 1).run Tryz.prog w = .ok x w := by kernel_rfl
theorem asf94 (v : Value) (w : World) : (Instr.typeAssert (.iface 95 v) 28 95 false).run Tryz.prog w = .ok v w := by simp [Instr.typeAssert, run_underlying Tryz.underlying95]

set_option maxHeartbeats 400000 in
theorem order_bool (b1 b2 : B) (x y : Bool) (w : World) (hk : b1.kind = b2.kind) :
    Calls Tryz.prog 88 #[.iface 85 (.agg #[.int .i64 b1.kind, .string b1.name, .int .i64 b1.hook, .bool x]), .iface 85 (.agg #[.int .i64 b2.kind, .string b2.name, .int .i64 b2.hook, .bool y])] w (OrdPost w (.leaf (.bool b1 x)) (.leaf (.bool b2 y))) := by
  have ho : Hid (ordV (.leaf (.bool b1 x)) (.leaf (.bool b2 y)) = (if (if x = y then (0 : Int) else if y then -1 else 1) = 0 then cmpS b1.name b2.name else (if x = y then (0 : Int) else if y then -1 else 1))) := by show _ = _; unfold ordV; rw [if_neg (by simpa [V.base, Leaf.base] using hk)]; rfl
  have hne : (b1.kind != b2.kind) = false := by simpa using hk
  have t82 := as82
  have t85 := as85
  have t87 := as87
  have t94 := as94
  have tf := asf82
  clear hk
  go_enter Tryz.func88, Tryz.ntmps88
  go_wp2_with fail
  refine (base_any (IsV.leaf (w := w) (.bool b1 x))).mono ?_
  unfold BasePost
  simp only [V.base, Leaf.base, V.isNil]
  rintro e w1 ⟨rfl, hB1⟩
  have HB1 := Lib.hid hB1
  have hz1 := hB1.size
  clear hB1
  go_wp2_with fail
  refine (base_any ((IsV.leaf (.bool b2 y)))).mono ?_
  unfold BasePost
  simp only [V.base, Leaf.base, V.isNil]
  rintro e w2 ⟨rfl, hB2⟩
  have hx0 : w2.cell? ⟨w1.heap.size, 0, none⟩ = some (.int .i64 b1.kind) := cell_below hB2 (by simp)
  have hx1 : w2.cell? ⟨w1.heap.size, 1, none⟩ = some (.string b1.name) := cell_below hB2 (by simp)
  have hlt : w1.heap.size < w2.heap.size := by have := hB2.size; simp at this; omega
  have hlt1 : w1.heap.size < w2.heap.size + 1 := by omega
  have hlt2 : w1.heap.size < w2.heap.size + 1 + 1 := by omega
  have hlt3 : w1.heap.size < w2.heap.size + 1 + 1 + 1 := by omega
  have HB2 := Lib.hid ((HB1.out.push _).next hB2)
  clear hB2 HB1
  cases x <;> cases y
  · go_wp2_with fail
    refine (compare68 b1.name b2.name _).mono ?_
    rintro e w3 ⟨rfl, rfl⟩
    go_wp2_with fail
    go_ret
    exact ⟨by rw [ho.out]; rfl, (((HB2.out.push _).push _).push _)⟩
  · go_wp2_with fail
    go_ret
    exact ⟨by rw [ho.out]; rfl, (((HB2.out.push _).push _).push _)⟩
  · go_wp2_with fail
    go_ret
    exact ⟨by rw [ho.out]; rfl, (((HB2.out.push _).push _).push _)⟩
  · go_wp2_with fail
    refine (compare68 b1.name b2.name _).mono ?_
    rintro e w3 ⟨rfl, rfl⟩
    go_wp2_with fail
    go_ret
    exact ⟨by rw [ho.out]; rfl, (((HB2.out.push _).push _).push _)⟩

set_option maxHeartbeats 400000 in
theorem order_int (b1 b2 : B) (x y : Int) (w : World) (hk : b1.kind = b2.kind) :
    Calls Tryz.prog 88 #[.iface 87 (.agg #[.int .i64 b1.kind, .string b1.name, .int .i64 b1.hook, .int .i64 x]), .iface 87 (.agg #[.int .i64 b2.kind, .string b2.name, .int .i64 b2.hook, .int .i64 y])] w (OrdPost w (.leaf (.int b1 x)) (.leaf (.int b2 y))) := by
  have ho : Hid (ordV (.leaf (.int b1 x)) (.leaf (.int b2 y)) = (if cmpI x y = 0 then cmpS b1.name b2.name else cmpI x y)) := by show _ = _; unfold ordV; rw [if_neg (by simpa [V.base, Leaf.base] using hk)]; rfl
  have hne : (b1.kind != b2.kind) = false := by simpa using hk
  have t82 := as82
  have t85 := as85
  have t87 := as87
  have t94 := as94
  have tf := asf85
  clear hk
  go_enter Tryz.func88, Tryz.ntmps88
  go_wp2_with fail
  refine (base_any (IsV.leaf (w := w) (.int b1 x))).mono ?_
  unfold BasePost
  simp only [V.base, Leaf.base, V.isNil]
  rintro e w1 ⟨rfl, hB1⟩
  have HB1 := Lib.hid hB1
  have hz1 := hB1.size
  clear hB1
  go_wp2_with fail
  refine (base_any ((IsV.leaf (.int b2 y)))).mono ?_
  unfold BasePost
  simp only [V.base, Leaf.base, V.isNil]
  rintro e w2 ⟨rfl, hB2⟩
  have hx0 : w2.cell? ⟨w1.heap.size, 0, none⟩ = some (.int .i64 b1.kind) := cell_below hB2 (by simp)
  have hx1 : w2.cell? ⟨w1.heap.size, 1, none⟩ = some (.string b1.name) := cell_below hB2 (by simp)
  have hlt : w1.heap.size < w2.heap.size := by have := hB2.size; simp at this; omega
  have hlt1 : w1.heap.size < w2.heap.size + 1 := by omega
  have hlt2 : w1.heap.size < w2.heap.size + 1 + 1 := by omega
  have hlt3 : w1.heap.size < w2.heap.size + 1 + 1 + 1 := by omega
  have HB2 := Lib.hid ((HB1.out.push _).next hB2)
  clear hB2 HB1
  have hfld := fun W => fld85 (.int .i64 b2.kind) (.string b2.name) (.int .i64 b2.hook) (.int .i64 y) W
  have hq := fun (W : World) (k : Nat) => (cmp66 x y (World.drewN W k)).mono (fun e w' (h : _ ∧ _) => (⟨h.1, h.2.symm⟩ : e = .returned (.int .i64 (cmpI x y)) ∧ w' = World.drewN W k))
  have HQ := Lib.hid hq
  clear hq
  have hd := Lib.hid (fun (W : World) (k : Nat) (hB : Below w.heap.size w W) => (⟨hB.os, hB.tape, hB.output, hB.size, hB.block⟩ : Below w.heap.size w (W.drewN k)))
  obtain ⟨C, hC⟩ : ∃ C, C = cmpI x y := ⟨_, rfl⟩
  rw [← hC] at ho HQ
  clear hC
  go_wp2_with fail
  have hcx : ((w2.alloc (.cells #[.int .i64 b2.kind, .string b2.name, .int .i64 b2.hook] 60)).alloc (.cells #[.int .i64 b1.kind, .string b1.name, .int .i64 b1.hook, .int .i64 x] 87)).cell? ⟨w2.heap.size + 1, 3, none⟩ = some (.int .i64 x) := by simp
  have hc1 : ((w2.alloc (.cells #[.int .i64 b2.kind, .string b2.name, .int .i64 b2.hook] 60)).alloc (.cells #[.int .i64 b1.kind, .string b1.name, .int .i64 b1.hook, .int .i64 x] 87)).cell? ⟨w1.heap.size, 1, none⟩ = some (.string b1.name) := by
    rw [World.cell?_alloc_past _ _ _ (by simp; omega), World.cell?_alloc_past _ _ _ hlt]; exact hx1
  have hc2 : ((w2.alloc (.cells #[.int .i64 b2.kind, .string b2.name, .int .i64 b2.hook] 60)).alloc (.cells #[.int .i64 b1.kind, .string b1.name, .int .i64 b1.hook, .int .i64 x] 87)).cell? ⟨w2.heap.size, 1, none⟩ = some (.string b2.name) := by simp
  have HB3 := Lib.hid ((HB2.out.push (.cells #[.int .i64 b2.kind, .string b2.name, .int .i64 b2.hook] 60)).push (.cells #[.int .i64 b1.kind, .string b1.name, .int .i64 b1.hook, .int .i64 x] 87))
  generalize ((w2.alloc (.cells #[.int .i64 b2.kind, .string b2.name, .int .i64 b2.hook] 60)).alloc (.cells #[.int .i64 b1.kind, .string b1.name, .int .i64 b1.hook, .int .i64 x] 87)) = W3 at hcx hc1 hc2 HB3 ⊢
  clear hx0 hx1
  go_quiet ((go_at_call 113; exact Calls.quiet_of_same (HQ.out _ _)))
  by_cases hc0 : C = 0
  · have h0 : (C == 0) = true := by simpa using hc0
    have hf : Hid (ordV (.leaf (.int b1 x)) (.leaf (.int b2 y)) = cmpS b1.name b2.name) := by show _ = _; rw [ho.out, if_pos hc0]
    clear hc0 ho HQ
    go_wp2_with fail
    refine (compare68 b1.name b2.name _).mono ?_
    rintro e w3 ⟨rfl, rfl⟩
    go_wp2_with fail
    go_ret
    exact ⟨by rw [hf.out]; rfl, hd.out _ _ HB3.out⟩
  · have h0 : (C == 0) = false := by simpa using hc0
    have hf : Hid (ordV (.leaf (.int b1 x)) (.leaf (.int b2 y)) = C) := by show _ = _; rw [ho.out, if_neg hc0]
    clear hc0 ho HQ
    go_wp2_with fail
    go_ret
    exact ⟨by rw [hf.out]; rfl, hd.out _ _ HB3.out⟩

set_option maxHeartbeats 400000 in
theorem order_uint (b1 b2 : B) (x y : Int) (w : World) (hk : b1.kind = b2.kind) :
    Calls Tryz.prog 88 #[.iface 89 (.agg #[.int .i64 b1.kind, .string b1.name, .int .i64 b1.hook, .int .u64 x]), .iface 89 (.agg #[.int .i64 b2.kind, .string b2.name, .int .i64 b2.hook, .int .u64 y])] w (OrdPost w (.leaf (.uint b1 x)) (.leaf (.uint b2 y))) := by
  have ho : Hid (ordV (.leaf (.uint b1 x)) (.leaf (.uint b2 y)) = (if cmpI x y = 0 then cmpS b1.name b2.name else cmpI x y)) := by show _ = _; unfold ordV; rw [if_neg (by simpa [V.base, Leaf.base] using hk)]; rfl
  have hne : (b1.kind != b2.kind) = false := by simpa using hk
  have t82 := as82
  have t85 := as85
  have t87 := as87
  have t94 := as94
  have tf := asf87
  clear hk
  go_enter Tryz.func88, Tryz.ntmps88
  go_wp2_with fail
  refine (base_any (IsV.leaf (w := w) (.uint b1 x))).mono ?_
  unfold BasePost
  simp only [V.base, Leaf.base, V.isNil]
  rintro e w1 ⟨rfl, hB1⟩
  have HB1 := Lib.hid hB1
  have hz1 := hB1.size
  clear hB1
  go_wp2_with fail
  refine (base_any ((IsV.leaf (.uint b2 y)))).mono ?_
  unfold BasePost
  simp only [V.base, Leaf.base, V.isNil]
  rintro e w2 ⟨rfl, hB2⟩
  have hx0 : w2.cell? ⟨w1.heap.size, 0, none⟩ = some (.int .i64 b1.kind) := cell_below hB2 (by simp)
  have hx1 : w2.cell? ⟨w1.heap.size, 1, none⟩ = some (.string b1.name) := cell_below hB2 (by simp)
  have hlt : w1.heap.size < w2.heap.size := by have := hB2.size; simp at this; omega
  have hlt1 : w1.heap.size < w2.heap.size + 1 := by omega
  have hlt2 : w1.heap.size < w2.heap.size + 1 + 1 := by omega
  have hlt3 : w1.heap.size < w2.heap.size + 1 + 1 + 1 := by omega
  have HB2 := Lib.hid ((HB1.out.push _).next hB2)
  clear hB2 HB1
  have hfld := fun W => fld87 (.int .i64 b2.kind) (.string b2.name) (.int .i64 b2.hook) (.int .u64 y) W
  have hq := fun (W : World) (k : Nat) => (cmp67 x y (World.drewN W k)).mono (fun e w' (h : _ ∧ _) => (⟨h.1, h.2.symm⟩ : e = .returned (.int .i64 (cmpI x y)) ∧ w' = World.drewN W k))
  have HQ := Lib.hid hq
  clear hq
  have hd := Lib.hid (fun (W : World) (k : Nat) (hB : Below w.heap.size w W) => (⟨hB.os, hB.tape, hB.output, hB.size, hB.block⟩ : Below w.heap.size w (W.drewN k)))
  obtain ⟨C, hC⟩ : ∃ C, C = cmpI x y := ⟨_, rfl⟩
  rw [← hC] at ho HQ
  clear hC
  go_wp2_with fail
  have hcx : ((w2.alloc (.cells #[.int .i64 b2.kind, .string b2.name, .int .i64 b2.hook] 60)).alloc (.cells #[.int .i64 b1.kind, .string b1.name, .int .i64 b1.hook, .int .u64 x] 89)).cell? ⟨w2.heap.size + 1, 3, none⟩ = some (.int .u64 x) := by simp
  have hc1 : ((w2.alloc (.cells #[.int .i64 b2.kind, .string b2.name, .int .i64 b2.hook] 60)).alloc (.cells #[.int .i64 b1.kind, .string b1.name, .int .i64 b1.hook, .int .u64 x] 89)).cell? ⟨w1.heap.size, 1, none⟩ = some (.string b1.name) := by
    rw [World.cell?_alloc_past _ _ _ (by simp; omega), World.cell?_alloc_past _ _ _ hlt]; exact hx1
  have hc2 : ((w2.alloc (.cells #[.int .i64 b2.kind, .string b2.name, .int .i64 b2.hook] 60)).alloc (.cells #[.int .i64 b1.kind, .string b1.name, .int .i64 b1.hook, .int .u64 x] 89)).cell? ⟨w2.heap.size, 1, none⟩ = some (.string b2.name) := by simp
  have HB3 := Lib.hid ((HB2.out.push (.cells #[.int .i64 b2.kind, .string b2.name, .int .i64 b2.hook] 60)).push (.cells #[.int .i64 b1.kind, .string b1.name, .int .i64 b1.hook, .int .u64 x] 89))
  generalize ((w2.alloc (.cells #[.int .i64 b2.kind, .string b2.name, .int .i64 b2.hook] 60)).alloc (.cells #[.int .i64 b1.kind, .string b1.name, .int .i64 b1.hook, .int .u64 x] 89)) = W3 at hcx hc1 hc2 HB3 ⊢
  clear hx0 hx1
  go_quiet ((go_at_call 114; exact Calls.quiet_of_same (HQ.out _ _)))
  by_cases hc0 : C = 0
  · have h0 : (C == 0) = true := by simpa using hc0
    have hf : Hid (ordV (.leaf (.uint b1 x)) (.leaf (.uint b2 y)) = cmpS b1.name b2.name) := by show _ = _; rw [ho.out, if_pos hc0]
    clear hc0 ho HQ
    go_wp2_with fail
    refine (compare68 b1.name b2.name _).mono ?_
    rintro e w3 ⟨rfl, rfl⟩
    go_wp2_with fail
    go_ret
    exact ⟨by rw [hf.out]; rfl, hd.out _ _ HB3.out⟩
  · have h0 : (C == 0) = false := by simpa using hc0
    have hf : Hid (ordV (.leaf (.uint b1 x)) (.leaf (.uint b2 y)) = C) := by show _ = _; rw [ho.out, if_neg hc0]
    clear hc0 ho HQ
    go_wp2_with fail
    go_ret
    exact ⟨by rw [hf.out]; rfl, hd.out _ _ HB3.out⟩

set_option maxHeartbeats 400000 in
theorem order_text (b1 b2 : B) (x y : ByteArray) (w : World) (hk : b1.kind = b2.kind) :
    Calls Tryz.prog 88 #[.iface 95 (.agg #[.int .i64 b1.kind, .string b1.name, .int .i64 b1.hook, .string x]), .iface 95 (.agg #[.int .i64 b2.kind, .string b2.name, .int .i64 b2.hook, .string y])] w (OrdPost w (.leaf (.text b1 x)) (.leaf (.text b2 y))) := by
  have ho : Hid (ordV (.leaf (.text b1 x)) (.leaf (.text b2 y)) = (if cmpS x y = 0 then cmpS b1.name b2.name else cmpS x y)) := by show _ = _; unfold ordV; rw [if_neg (by simpa [V.base, Leaf.base] using hk)]; rfl
  have hne : (b1.kind != b2.kind) = false := by simpa using hk
  have t82 := as82
  have t85 := as85
  have t87 := as87
  have t94 := as94
  have tf := asf94
  clear hk
  go_enter Tryz.func88, Tryz.ntmps88
  go_wp2_with fail
  refine (base_any (IsV.leaf (w := w) (.text b1 x))).mono ?_
  unfold BasePost
  simp only [V.base, Leaf.base, V.isNil]
  rintro e w1 ⟨rfl, hB1⟩
  have HB1 := Lib.hid hB1
  have hz1 := hB1.size
  clear hB1
  go_wp2_with fail
  refine (base_any ((IsV.leaf (.text b2 y)))).mono ?_
  unfold BasePost
  simp only [V.base, Leaf.base, V.isNil]
  rintro e w2 ⟨rfl, hB2⟩
  have hx0 : w2.cell? ⟨w1.heap.size, 0, none⟩ = some (.int .i64 b1.kind) := cell_below hB2 (by simp)
  have hx1 : w2.cell? ⟨w1.heap.size, 1, none⟩ = some (.string b1.name) := cell_below hB2 (by simp)
  have hlt : w1.heap.size < w2.heap.size := by have := hB2.size; simp at this; omega
  have hlt1 : w1.heap.size < w2.heap.size + 1 := by omega
  have hlt2 : w1.heap.size < w2.heap.size + 1 + 1 := by omega
  have hlt3 : w1.heap.size < w2.heap.size + 1 + 1 + 1 := by omega
  have HB2 := Lib.hid ((HB1.out.push _).next hB2)
  clear hB2 HB1
  have hfld := fun W => fld94 (.int .i64 b2.kind) (.string b2.name) (.int .i64 b2.hook) (.string y) W
  have hq := fun (W : World) (k : Nat) => (compare68 x y (World.drewN W k)).mono (fun e w' (h : _ ∧ _) => (⟨h.1, h.2.symm⟩ : e = .returned (.int .i64 (cmpS x y)) ∧ w' = World.drewN W k))
  have HQ := Lib.hid hq
  clear hq
  have hd := Lib.hid (fun (W : World) (k : Nat) (hB : Below w.heap.size w W) => (⟨hB.os, hB.tape, hB.output, hB.size, hB.block⟩ : Below w.heap.size w (W.drewN k)))
  obtain ⟨C, hC⟩ : ∃ C, C = cmpS x y := ⟨_, rfl⟩
  rw [← hC] at ho HQ
  clear hC
  go_wp2_with fail
  have hcx : ((w2.alloc (.cells #[.int .i64 b2.kind, .string b2.name, .int .i64 b2.hook] 60)).alloc (.cells #[.int .i64 b1.kind, .string b1.name, .int .i64 b1.hook, .string x] 95)).cell? ⟨w2.heap.size + 1, 3, none⟩ = some (.string x) := by simp
  have hc1 : ((w2.alloc (.cells #[.int .i64 b2.kind, .string b2.name, .int .i64 b2.hook] 60)).alloc (.cells #[.int .i64 b1.kind, .string b1.name, .int .i64 b1.hook, .string x] 95)).cell? ⟨w1.heap.size, 1, none⟩ = some (.string b1.name) := by
    rw [World.cell?_alloc_past _ _ _ (by simp; omega), World.cell?_alloc_past _ _ _ hlt]; exact hx1
  have hc2 : ((w2.alloc (.cells #[.int .i64 b2.kind, .string b2.name, .int .i64 b2.hook] 60)).alloc (.cells #[.int .i64 b1.kind, .string b1.name, .int .i64 b1.hook, .string x] 95)).cell? ⟨w2.heap.size, 1, none⟩ = some (.string b2.name) := by simp
  have HB3 := Lib.hid ((HB2.out.push (.cells #[.int .i64 b2.kind, .string b2.name, .int .i64 b2.hook] 60)).push (.cells #[.int .i64 b1.kind, .string b1.name, .int .i64 b1.hook, .string x] 95))
  generalize ((w2.alloc (.cells #[.int .i64 b2.kind, .string b2.name, .int .i64 b2.hook] 60)).alloc (.cells #[.int .i64 b1.kind, .string b1.name, .int .i64 b1.hook, .string x] 95)) = W3 at hcx hc1 hc2 HB3 ⊢
  clear hx0 hx1
  go_quiet ((go_at_call 115; exact Calls.quiet_of_same (HQ.out _ _)))
  by_cases hc0 : C = 0
  · have h0 : (C == 0) = true := by simpa using hc0
    have hf : Hid (ordV (.leaf (.text b1 x)) (.leaf (.text b2 y)) = cmpS b1.name b2.name) := by show _ = _; rw [ho.out, if_pos hc0]
    clear hc0 ho HQ
    go_wp2_with fail
    refine (compare68 b1.name b2.name _).mono ?_
    rintro e w3 ⟨rfl, rfl⟩
    go_wp2_with fail
    go_ret
    exact ⟨by rw [hf.out]; rfl, hd.out _ _ HB3.out⟩
  · have h0 : (C == 0) = false := by simpa using hc0
    have hf : Hid (ordV (.leaf (.text b1 x)) (.leaf (.text b2 y)) = C) := by show _ = _; rw [ho.out, if_neg hc0]
    clear hc0 ho HQ
    go_wp2_with fail
    go_ret
    exact ⟨by rw [hf.out]; rfl, hd.out _ _ HB3.out⟩

/-- Kinds that no key has. -/
def V.keyless (x : V) : Prop := ¬ (1 ≤ x.base.kind ∧ x.base.kind ≤ 11 ∨ x.base.kind = 16)
theorem ordV_keyless {a b : V} (ha : a.keyless) (oa : a.ok) (hk : a.base.kind = b.base.kind) : ordV a b = 0 := by
  unfold ordV
  rw [if_neg (by simpa using hk)]
  unfold V.keyless at ha
  cases a with
  | nil => rfl
  | great => rfl
  | leaf l => cases l <;> simp only [V.ok, V.base, Leaf.base] at oa ha <;> first | rfl | omega

set_option maxHeartbeats 400000 in
/-- Two values of one kind that no key has: the walk, of a value whose type's assertions fail. -/
theorem order_keyless {w : World} {vb : Value} {a b : V} (t : TypeId) (y : Value) (h82 : t ≠ 85) (h85 : t ≠ 87) (h87 : t ≠ 89) (h94 : t ≠ 95) (ha : IsV w (.iface t y) a) (hb : IsV w vb b) (hk : a.base.kind = b.base.kind) (ho : ordV a b = 0) :
    Calls Tryz.prog 88 #[.iface t y, vb] w (OrdPost w a b) := by
  have HO := Lib.hid ho
  have HA := Lib.hid ha
  have HBb := Lib.hid hb
  obtain ⟨p, hp⟩ : ∃ p, p = a.base := ⟨_, rfl⟩
  obtain ⟨q, hq⟩ : ∃ q, q = b.base := ⟨_, rfl⟩
  have hne : (p.kind != q.kind) = false := by rw [hp, hq]; simpa using hk
  have HP := Lib.hid hp
  have HQ := Lib.hid hq
  have t82 := fun w => (as82 t y w).trans (by rw [if_neg h82])
  have t85 := fun w => (as85 t y w).trans (by rw [if_neg h85])
  have t87 := fun w => (as87 t y w).trans (by rw [if_neg h87])
  have t94 := fun w => (as94 t y w).trans (by rw [if_neg h94])
  clear ha hb hk hp hq ho h82 h85 h87 h94
  go_enter Tryz.func88, Tryz.ntmps88
  go_wp2_with fail
  refine (base_any HA.out).mono ?_
  unfold BasePost
  rw [← HP.out]
  rintro e w1 ⟨rfl, hB1⟩
  have HB1 := Lib.hid hB1
  have hz1 := hB1.size
  clear hB1
  go_wp2_with fail
  refine (base_any (HBb.out.later (HB1.out.push _))).mono ?_
  unfold BasePost
  rw [← HQ.out]
  rintro e w2 ⟨rfl, hB2⟩
  have hx0 : w2.cell? ⟨w1.heap.size, 0, none⟩ = some (.int .i64 p.kind) := cell_below hB2 (by simp)
  have hx1 : w2.cell? ⟨w1.heap.size, 1, none⟩ = some (.string p.name) := cell_below hB2 (by simp)
  have hlt : w1.heap.size < w2.heap.size := by have := hB2.size; simp at this; omega
  have hlt1 : w1.heap.size < w2.heap.size + 1 := by omega
  have hlt2 : w1.heap.size < w2.heap.size + 1 + 1 := by omega
  have hlt3 : w1.heap.size < w2.heap.size + 1 + 1 + 1 := by omega
  have HB2 := Lib.hid ((HB1.out.push _).next hB2)
  clear hB2 HB1
  go_wp2_with fail
  go_ret
  exact ⟨by rw [HO.out]; rfl, HB2.out.push _⟩
theorem order_nil {w : World} {vb : Value} {b : V} (hb : IsV w vb b) (hk : b.base.kind = 0) : Calls Tryz.prog 88 #[.nilIface, vb] w (OrdPost w .nil b) := by
  have HBb := Lib.hid hb
  obtain ⟨q, hq⟩ : ∃ q, q = b.base := ⟨_, rfl⟩
  have hne : ((0 : Int) != q.kind) = false := by rw [hq, hk]; rfl
  have HQ := Lib.hid hq
  have HO : Hid (ordV .nil b = 0) := by show _ = _; unfold ordV; rw [if_neg (by simpa [V.base] using hk.symm)]
  have t82 := asn82
  have t85 := asn85
  have t87 := asn87
  have t94 := asn94
  clear hb hk hq
  go_enter Tryz.func88, Tryz.ntmps88
  go_wp2_with fail
  refine (base_any (IsV.nil0 (w := w))).mono ?_
  unfold BasePost
  simp only [V.base, V.isNil]
  rintro e w1 ⟨rfl, hB1⟩
  have HB1 := Lib.hid hB1
  have hz1 := hB1.size
  clear hB1
  go_wp2_with fail
  refine (base_any (HBb.out.later (HB1.out.push _))).mono ?_
  unfold BasePost
  rw [← HQ.out]
  rintro e w2 ⟨rfl, hB2⟩
  have hx0 : w2.cell? ⟨w1.heap.size, 0, none⟩ = some (.int .i64 0) := cell_below hB2 (by simp)
  have hx1 : w2.cell? ⟨w1.heap.size, 1, none⟩ = some (.string ⟨#[]⟩) := cell_below hB2 (by simp)
  have hlt : w1.heap.size < w2.heap.size := by have := hB2.size; simp at this; omega
  have hlt1 : w1.heap.size < w2.heap.size + 1 := by omega
  have hlt2 : w1.heap.size < w2.heap.size + 1 + 1 := by omega
  have hlt3 : w1.heap.size < w2.heap.size + 1 + 1 + 1 := by omega
  have HB2 := Lib.hid ((HB1.out.push _).next hB2)
  clear hB2 HB1
  go_wp2_with fail
  go_ret
  exact ⟨by rw [HO.out]; rfl, HB2.out.push _⟩

/-- order, of any two values. -/
theorem order_any {w : World} {va vb : Value} {a b : V} (ha : IsV w va a) (hb : IsV w vb b) (oa : a.ok) (ob : b.ok) : Calls Tryz.prog 88 #[va, vb] w (OrdPost w a b) := by
  by_cases hk : a.base.kind = b.base.kind
  · by_cases h1 : a.base.kind = 1
    · obtain ⟨p, x, rfl, rfl⟩ := inv_bool ha oa h1
      obtain ⟨q, y, rfl, rfl⟩ := inv_bool hb ob (by rw [← hk]; exact h1)
      exact order_bool p q x y w hk
    · by_cases h2 : 2 ≤ a.base.kind ∧ a.base.kind ≤ 6
      · obtain ⟨p, x, rfl, rfl⟩ := inv_int ha oa h2.1 h2.2
        obtain ⟨q, y, rfl, rfl⟩ := inv_int hb ob (by rw [← hk]; exact h2.1) (by rw [← hk]; exact h2.2)
        exact order_int p q x y w hk
      · by_cases h3 : 7 ≤ a.base.kind ∧ a.base.kind ≤ 11
        · obtain ⟨p, x, rfl, rfl⟩ := inv_uint ha oa h3.1 h3.2
          obtain ⟨q, y, rfl, rfl⟩ := inv_uint hb ob (by rw [← hk]; exact h3.1) (by rw [← hk]; exact h3.2)
          exact order_uint p q x y w hk
        · by_cases h4 : a.base.kind = 16
          · obtain ⟨p, x, rfl, rfl⟩ := inv_text ha oa h4
            obtain ⟨q, y, rfl, rfl⟩ := inv_text hb ob (by rw [← hk]; exact h4)
            exact order_text p q x y w hk
          · have hkl : a.keyless := by unfold V.keyless; omega
            have ho := ordV_keyless hkl oa hk
            cases ha with
            | nil => exact order_keyless 112 _ (by decide) (by decide) (by decide) (by decide) .nil hb hk ho
            | nil0 => exact order_nil hb hk.symm
            | leaf l =>
              cases l with
              | bool => exact absurd oa h1
              | int => exact absurd oa h2
              | uint => exact absurd oa h3
              | text => exact absurd oa h4
              | float p x n => exact order_keyless 91 _ (by decide) (by decide) (by decide) (by decide) (.leaf (.float p x n)) hb hk ho
              | cplx p x y n => exact order_keyless 93 _ (by decide) (by decide) (by decide) (by decide) (.leaf (.cplx p x y n)) hb hk ho
              | bytes p s => exact order_keyless 96 _ (by decide) (by decide) (by decide) (by decide) (.leaf (.bytes p s)) hb hk ho
            | list p q r s t u v x1 x2 x3 x4 x5 x9 => exact order_keyless 101 _ (by decide) (by decide) (by decide) (by decide) (.list p q r s t u v x1 x2 x3 x4 x5 x9) hb hk ho
            | struct p q r s t u v n x0 x1 x2 x3 x4 x5 x6 x9 => exact order_keyless 99 _ (by decide) (by decide) (by decide) (by decide) (.struct p q r s t u v n x0 x1 x2 x3 x4 x5 x6 x9) hb hk ho
            | map p q r s t u v l x0 x1 x2 x3 x4 x5 x6 x9 => exact order_keyless 104 _ (by decide) (by decide) (by decide) (by decide) (.map p q r s t u v l x0 x1 x2 x3 x4 x5 x6 x9) hb hk ho
            | ptr0 p x => exact order_keyless 106 _ (by decide) (by decide) (by decide) (by decide) (.ptr0 p x) hb hk ho
            | ptr1 p x v y hv h => exact order_keyless 106 _ (by decide) (by decide) (by decide) (by decide) (.ptr1 p x v y hv h) hb hk ho
  · exact order_apart ha hb hk
end Go.Proofs.YtkpfeodffhfejaaGreatDoor
