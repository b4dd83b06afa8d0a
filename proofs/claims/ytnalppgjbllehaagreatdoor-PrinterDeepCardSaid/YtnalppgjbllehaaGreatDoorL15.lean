/- Values in memory, and as plain Lean data; comparisons of numbers and texts; what all values have. Condition: the argument is a value. -/
import Derived.Test.YtnalppgjbllehaaGreatDoorL14
import Derived.Lib.Bytealg
namespace Go.Proofs.YtnalppgjbllehaaGreatDoor
set_option linter.unusedVariables false
set_option maxRecDepth 1000000
open Go.RowKit

/-- What all but Nil have. -/
structure B where
  kind : Int
  name : ByteArray
  hook : Int

/-- Values without parts. -/
inductive Leaf where
  | bool (b : B) (v : Bool)
  | int (b : B) (x : Int)
  | uint (b : B) (x : Int)
  | float (b : B) (bits size : Int)
  | cplx (b : B) (re im size : Int)
  | text (b : B) (s : ByteArray)
  | bytes (b : B) (s : ByteArray)

inductive Tag where
  | struct | list | map | ptr
  deriving DecidableEq

/-- A value: of a map keys and values by turns. -/
inductive V where
  | nil
  | leaf (l : Leaf)
  | great (t : Tag) (b : B) (addr : Int) (names : List ByteArray) (l : List V)

def Leaf.base : Leaf → B
  | .bool b _ | .int b _ | .uint b _ | .float b _ _ | .cplx b _ _ _ | .text b _ | .bytes b _ => b
def Leaf.val : Leaf → Value
  | .bool b v => .iface 131 (.agg #[.int .i64 b.kind, .string b.name, .int .i64 b.hook, .bool v])
  | .int b x => .iface 134 (.agg #[.int .i64 b.kind, .string b.name, .int .i64 b.hook, .int .i64 x])
  | .uint b x => .iface 136 (.agg #[.int .i64 b.kind, .string b.name, .int .i64 b.hook, .int .u64 x])
  | .float b x n => .iface 139 (.agg #[.int .i64 b.kind, .string b.name, .int .i64 b.hook, .int .u64 x, .int .i64 n])
  | .cplx b x y n => .iface 141 (.agg #[.int .i64 b.kind, .string b.name, .int .i64 b.hook, .int .u64 x, .int .u64 y, .int .i64 n])
  | .text b s => .iface 78 (.agg #[.int .i64 b.kind, .string b.name, .int .i64 b.hook, .string s])
  | .bytes b s => .iface 142 (.agg #[.int .i64 b.kind, .string b.name, .int .i64 b.hook, .string s])

/-- The value of an interface is the value x, in world w. -/
inductive IsV (w : World) : Value → V → Prop where
  | nil : IsV w (.iface 129 (.agg #[])) .nil
  | nil0 : IsV w .nilIface .nil
  | leaf (l : Leaf) : IsV w l.val (.leaf l)
  | list (b : B) (a : Option Addr) (c bb oo : Nat) (vs : Nat → Value) (l : List V) (h1 : l.length ≤ c) (h2 : l.length < 1000) (h3 : 0 < l.length → a = some ⟨bb, oo, none⟩)
      (h4 : ∀ i, i < l.length → w.cell? ⟨bb, oo + i, none⟩ = some (vs i)) (h5 : ∀ i (h : i < l.length), IsV w (vs i) l[i]) (h6 : ∀ i, i < l.length → ∃ t y, vs i = .iface t y) :
      IsV w (.iface 162 (.agg #[.int .i64 b.kind, .string b.name, .int .i64 b.hook, .slice a l.length c])) (.great .list b 0 [] l)
  | struct (b : B) (a : Option Addr) (c bb oo : Nat) (vs : Nat → Value) (names : List ByteArray) (l : List V) (hn : names.length = l.length) (h1 : l.length ≤ c) (h2 : l.length < 1000) (h3 : 0 < l.length → a = some ⟨bb, oo, none⟩)
      (h4 : ∀ i (h : i < names.length), w.cell? ⟨bb, oo + i * 2, none⟩ = some (.string names[i])) (h4' : ∀ i, i < l.length → w.cell? ⟨bb, oo + i * 2 + 1, none⟩ = some (vs i)) (h5 : ∀ i (h : i < l.length), IsV w (vs i) l[i]) (h6 : ∀ i, i < l.length → ∃ t y, vs i = .iface t y) :
      IsV w (.iface 160 (.agg #[.int .i64 b.kind, .string b.name, .int .i64 b.hook, .slice a l.length c])) (.great .struct b 0 names l)
  | map (b : B) (a : Option Addr) (c bb oo n : Nat) (vs : Nat → Value) (l : List V) (hn : l.length = n * 2) (h1 : n ≤ c) (h2 : l.length < 1000) (h3 : 0 < n → a = some ⟨bb, oo, none⟩)
      (h4 : ∀ i, i < n → w.cell? ⟨bb, oo + i * 2, none⟩ = some (vs (i * 2))) (h4' : ∀ i, i < n → w.cell? ⟨bb, oo + i * 2 + 1, none⟩ = some (vs (i * 2 + 1))) (h5 : ∀ i (h : i < l.length), IsV w (vs i) l[i]) (h6 : ∀ i, i < l.length → ∃ t y, vs i = .iface t y) :
      IsV w (.iface 165 (.agg #[.int .i64 b.kind, .string b.name, .int .i64 b.hook, .slice a n c])) (.great .map b 0 [] l)
  | ptr0 (b : B) (addr : Int) : IsV w (.iface 119 (.agg #[.int .i64 b.kind, .string b.name, .int .i64 b.hook, .int .u64 addr, .nilIface])) (.great .ptr b addr [] [])
  | ptr1 (b : B) (addr : Int) (v : Value) (x : V) (hv : v ≠ .nilIface) (h : IsV w v x) : IsV w (.iface 119 (.agg #[.int .i64 b.kind, .string b.name, .int .i64 b.hook, .int .u64 addr, v])) (.great .ptr b addr [] [x])

theorem IsV.later {w w' : World} (hb : Below w.heap.size w w') {v : Value} {x : V} (h : IsV w v x) : IsV w' v x := by
  induction h with
  | nil => exact .nil
  | nil0 => exact .nil0
  | leaf l => exact .leaf l
  | list b a c bb oo vs l h1 h2 h3 h4 h5 h6 ih => exact .list b a c bb oo vs l h1 h2 h3 (fun i hi => cell_below hb (h4 i hi)) ih h6
  | struct b a c bb oo vs names l hn h1 h2 h3 h4 h4' h5 h6 ih => exact .struct b a c bb oo vs names l hn h1 h2 h3 (fun i hi => cell_below hb (h4 i hi)) (fun i hi => cell_below hb (h4' i hi)) ih h6
  | map b a c bb oo n vs l hn h1 h2 h3 h4 h4' h5 h6 ih => exact .map b a c bb oo n vs l hn h1 h2 h3 (fun i hi => cell_below hb (h4 i hi)) (fun i hi => cell_below hb (h4' i hi)) ih h6
  | ptr0 b addr => exact .ptr0 b addr
  | ptr1 b addr v x hv h ih => exact .ptr1 b addr v x hv ih

/-- The base; nil has none. -/
def V.base : V → B
  | .nil => ⟨0, ⟨#[]⟩, 0⟩
  | .leaf l => l.base
  | .great _ b _ _ _ => b
def V.isNil : V → Bool
  | .nil => true
  | _ => false

def BasePost (w : World) (x : V) (e : Ending) (w' : World) : Prop :=
  e = .returned (.tuple #[.agg #[.int .i64 x.base.kind, .string x.base.name, .int .i64 x.base.hook], .bool (!x.isNil)]) ∧ Below w.heap.size w w'


theorem base_nil (w : World) : Calls Tryz.prog 51 #[.nilIface] w (BasePost w .nil) := by
  have t82 := asn82
  have t85 := asn85
  have t87 := asn87
  have t90 := asn90
  have t92 := asn92
  have t94 := asn94
  have t95 := asn95
  have t104 := asn104
  have t108 := asn108
  have t114 := asn114
  have t117 := asn117
  go_enter Tryz.func51, Tryz.ntmps51
  go_wp2
  exact bodyPost_ret (v := .tuple #[.agg #[.int .i64 0, .string ⟨#[]⟩, .int .i64 0], .bool false]) (by simp [results, Tryz.f51, go_sem]) rfl ⟨rfl, (by repeat (first | exact Below.refl _ _ | refine Below.setCell ?_ (by simp) _ | refine Below.alloc ?_ (by simp) _))⟩
theorem base_nil1 (w : World) : Calls Tryz.prog 51 #[.iface 129 (.agg #[])] w (BasePost w .nil) := by
  have t82 := as82
  have t85 := as85
  have t87 := as87
  have t90 := as90
  have t92 := as92
  have t94 := as94
  have t95 := as95
  have t104 := as104
  have t108 := as108
  have t114 := as114
  have t117 := as117
  go_enter Tryz.func51, Tryz.ntmps51
  go_wp2
  exact bodyPost_ret (v := .tuple #[.agg #[.int .i64 0, .string ⟨#[]⟩, .int .i64 0], .bool false]) (by simp [results, Tryz.f51, go_sem]) rfl ⟨rfl, (by repeat (first | exact Below.refl _ _ | refine Below.setCell ?_ (by simp) _ | refine Below.alloc ?_ (by simp) _))⟩

theorem base_bool (b : B) (v : Bool) (w : World) : Calls Tryz.prog 51 #[.iface 131 (.agg #[.int .i64 b.kind, .string b.name, .int .i64 b.hook, .bool v])] w fun e w' => e = .returned (.tuple #[.agg #[.int .i64 b.kind, .string b.name, .int .i64 b.hook], .bool true]) ∧ Below w.heap.size w w' := by
  have t82 := as82
  have t85 := as85
  have t87 := as87
  have t90 := as90
  have t92 := as92
  have t94 := as94
  have t95 := as95
  have t104 := as104
  have t108 := as108
  have t114 := as114
  have t117 := as117
  go_enter Tryz.func51, Tryz.ntmps51
  go_wp2
  exact bodyPost_ret (v := .tuple #[.agg #[.int .i64 b.kind, .string b.name, .int .i64 b.hook], .bool true]) (by simp [results, Tryz.f51, go_sem]) rfl ⟨rfl, (by repeat (first | exact Below.refl _ _ | refine Below.setCell ?_ (by simp) _ | refine Below.alloc ?_ (by simp) _))⟩

theorem base_int (b : B) (x : Int) (w : World) : Calls Tryz.prog 51 #[.iface 134 (.agg #[.int .i64 b.kind, .string b.name, .int .i64 b.hook, .int .i64 x])] w fun e w' => e = .returned (.tuple #[.agg #[.int .i64 b.kind, .string b.name, .int .i64 b.hook], .bool true]) ∧ Below w.heap.size w w' := by
  have t82 := as82
  have t85 := as85
  have t87 := as87
  have t90 := as90
  have t92 := as92
  have t94 := as94
  have t95 := as95
  have t104 := as104
  have t108 := as108
  have t114 := as114
  have t117 := as117
  go_enter Tryz.func51, Tryz.ntmps51
  go_wp2
  exact bodyPost_ret (v := .tuple #[.agg #[.int .i64 b.kind, .string b.name, .int .i64 b.hook], .bool true]) (by simp [results, Tryz.f51, go_sem]) rfl ⟨rfl, (by repeat (first | exact Below.refl _ _ | refine Below.setCell ?_ (by simp) _ | refine Below.alloc ?_ (by simp) _))⟩

theorem base_uint (b : B) (x : Int) (w : World) : Calls Tryz.prog 51 #[.iface 136 (.agg #[.int .i64 b.kind, .string b.name, .int .i64 b.hook, .int .u64 x])] w fun e w' => e = .returned (.tuple #[.agg #[.int .i64 b.kind, .string b.name, .int .i64 b.hook], .bool true]) ∧ Below w.heap.size w w' := by
  have t82 := as82
  have t85 := as85
  have t87 := as87
  have t90 := as90
  have t92 := as92
  have t94 := as94
  have t95 := as95
  have t104 := as104
  have t108 := as108
  have t114 := as114
  have t117 := as117
  go_enter Tryz.func51, Tryz.ntmps51
  go_wp2
  exact bodyPost_ret (v := .tuple #[.agg #[.int .i64 b.kind, .string b.name, .int .i64 b.hook], .bool true]) (by simp [results, Tryz.f51, go_sem]) rfl ⟨rfl, (by repeat (first | exact Below.refl _ _ | refine Below.setCell ?_ (by simp) _ | refine Below.alloc ?_ (by simp) _))⟩

theorem base_float (b : B) (x n : Int) (w : World) : Calls Tryz.prog 51 #[.iface 139 (.agg #[.int .i64 b.kind, .string b.name, .int .i64 b.hook, .int .u64 x, .int .i64 n])] w fun e w' => e = .returned (.tuple #[.agg #[.int .i64 b.kind, .string b.name, .int .i64 b.hook], .bool true]) ∧ Below w.heap.size w w' := by
  have t82 := as82
  have t85 := as85
  have t87 := as87
  have t90 := as90
  have t92 := as92
  have t94 := as94
  have t95 := as95
  have t104 := as104
  have t108 := as108
  have t114 := as114
  have t117 := as117
  go_enter Tryz.func51, Tryz.ntmps51
  go_wp2
  exact bodyPost_ret (v := .tuple #[.agg #[.int .i64 b.kind, .string b.name, .int .i64 b.hook], .bool true]) (by simp [results, Tryz.f51, go_sem]) rfl ⟨rfl, (by repeat (first | exact Below.refl _ _ | refine Below.setCell ?_ (by simp) _ | refine Below.alloc ?_ (by simp) _))⟩

theorem base_cplx (b : B) (x y n : Int) (w : World) : Calls Tryz.prog 51 #[.iface 141 (.agg #[.int .i64 b.kind, .string b.name, .int .i64 b.hook, .int .u64 x, .int .u64 y, .int .i64 n])] w fun e w' => e = .returned (.tuple #[.agg #[.int .i64 b.kind, .string b.name, .int .i64 b.hook], .bool true]) ∧ Below w.heap.size w w' := by
  have t82 := as82
  have t85 := as85
  have t87 := as87
  have t90 := as90
  have t92 := as92
  have t94 := as94
  have t95 := as95
  have t104 := as104
  have t108 := as108
  have t114 := as114
  have t117 := as117
  go_enter Tryz.func51, Tryz.ntmps51
  go_wp2
  exact bodyPost_ret (v := .tuple #[.agg #[.int .i64 b.kind, .string b.name, .int .i64 b.hook], .bool true]) (by simp [results, Tryz.f51, go_sem]) rfl ⟨rfl, (by repeat (first | exact Below.refl _ _ | refine Below.setCell ?_ (by simp) _ | refine Below.alloc ?_ (by simp) _))⟩

theorem base_text (b : B) (s : ByteArray) (w : World) : Calls Tryz.prog 51 #[.iface 78 (.agg #[.int .i64 b.kind, .string b.name, .int .i64 b.hook, .string s])] w fun e w' => e = .returned (.tuple #[.agg #[.int .i64 b.kind, .string b.name, .int .i64 b.hook], .bool true]) ∧ Below w.heap.size w w' := by
  have t82 := as82
  have t85 := as85
  have t87 := as87
  have t90 := as90
  have t92 := as92
  have t94 := as94
  have t95 := as95
  have t104 := as104
  have t108 := as108
  have t114 := as114
  have t117 := as117
  go_enter Tryz.func51, Tryz.ntmps51
  go_wp2
  exact bodyPost_ret (v := .tuple #[.agg #[.int .i64 b.kind, .string b.name, .int .i64 b.hook], .bool true]) (by simp [results, Tryz.f51, go_sem]) rfl ⟨rfl, (by repeat (first | exact Below.refl _ _ | refine Below.setCell ?_ (by simp) _ | refine Below.alloc ?_ (by simp) _))⟩

theorem base_bytes (b : B) (s : ByteArray) (w : World) : Calls Tryz.prog 51 #[.iface 142 (.agg #[.int .i64 b.kind, .string b.name, .int .i64 b.hook, .string s])] w fun e w' => e = .returned (.tuple #[.agg #[.int .i64 b.kind, .string b.name, .int .i64 b.hook], .bool true]) ∧ Below w.heap.size w w' := by
  have t82 := as82
  have t85 := as85
  have t87 := as87
  have t90 := as90
  have t92 := as92
  have t94 := as94
  have t95 := as95
  have t104 := as104
  have t108 := as108
  have t114 := as114
  have t117 := as117
  go_enter Tryz.func51, Tryz.ntmps51
  go_wp2
  exact bodyPost_ret (v := .tuple #[.agg #[.int .i64 b.kind, .string b.name, .int .i64 b.hook], .bool true]) (by simp [results, Tryz.f51, go_sem]) rfl ⟨rfl, (by repeat (first | exact Below.refl _ _ | refine Below.setCell ?_ (by simp) _ | refine Below.alloc ?_ (by simp) _))⟩

theorem base_struct (b : B) (a : Option Addr) (n c : Nat) (w : World) : Calls Tryz.prog 51 #[.iface 160 (.agg #[.int .i64 b.kind, .string b.name, .int .i64 b.hook, .slice a n c])] w fun e w' => e = .returned (.tuple #[.agg #[.int .i64 b.kind, .string b.name, .int .i64 b.hook], .bool true]) ∧ Below w.heap.size w w' := by
  have t82 := as82
  have t85 := as85
  have t87 := as87
  have t90 := as90
  have t92 := as92
  have t94 := as94
  have t95 := as95
  have t104 := as104
  have t108 := as108
  have t114 := as114
  have t117 := as117
  go_enter Tryz.func51, Tryz.ntmps51
  go_wp2
  exact bodyPost_ret (v := .tuple #[.agg #[.int .i64 b.kind, .string b.name, .int .i64 b.hook], .bool true]) (by simp [results, Tryz.f51, go_sem]) rfl ⟨rfl, (by repeat (first | exact Below.refl _ _ | refine Below.setCell ?_ (by simp) _ | refine Below.alloc ?_ (by simp) _))⟩

theorem base_ptr (b : B) (x : Int) (v : Value) (hv : v = .nilIface ∨ ∃ t y, v = .iface t y) (w : World) : Calls Tryz.prog 51 #[.iface 119 (.agg #[.int .i64 b.kind, .string b.name, .int .i64 b.hook, .int .u64 x, v])] w fun e w' => e = .returned (.tuple #[.agg #[.int .i64 b.kind, .string b.name, .int .i64 b.hook], .bool true]) ∧ Below w.heap.size w w' := by
  have t82 := as82
  have t85 := as85
  have t87 := as87
  have t90 := as90
  have t92 := as92
  have t94 := as94
  have t95 := as95
  have t104 := as104
  have t108 := as108
  have t114 := as114
  have t117 := as117
  rcases hv with rfl | ⟨t, y, rfl⟩
  all_goals
    go_enter Tryz.func51, Tryz.ntmps51
    go_wp2
    exact bodyPost_ret (v := .tuple #[.agg #[.int .i64 b.kind, .string b.name, .int .i64 b.hook], .bool true]) (by simp [results, Tryz.f51, go_sem]) rfl ⟨rfl, (by repeat (first | exact Below.refl _ _ | refine Below.setCell ?_ (by simp) _ | refine Below.alloc ?_ (by simp) _))⟩

theorem base_list (b : B) (a : Option Addr) (n c : Nat) (w : World) : Calls Tryz.prog 51 #[.iface 162 (.agg #[.int .i64 b.kind, .string b.name, .int .i64 b.hook, .slice a n c])] w fun e w' => e = .returned (.tuple #[.agg #[.int .i64 b.kind, .string b.name, .int .i64 b.hook], .bool true]) ∧ Below w.heap.size w w' := by
  have t82 := as82
  have t85 := as85
  have t87 := as87
  have t90 := as90
  have t92 := as92
  have t94 := as94
  have t95 := as95
  have t104 := as104
  have t108 := as108
  have t114 := as114
  have t117 := as117
  go_enter Tryz.func51, Tryz.ntmps51
  go_wp2
  exact bodyPost_ret (v := .tuple #[.agg #[.int .i64 b.kind, .string b.name, .int .i64 b.hook], .bool true]) (by simp [results, Tryz.f51, go_sem]) rfl ⟨rfl, (by repeat (first | exact Below.refl _ _ | refine Below.setCell ?_ (by simp) _ | refine Below.alloc ?_ (by simp) _))⟩

theorem base_map (b : B) (a : Option Addr) (n c : Nat) (w : World) : Calls Tryz.prog 51 #[.iface 165 (.agg #[.int .i64 b.kind, .string b.name, .int .i64 b.hook, .slice a n c])] w fun e w' => e = .returned (.tuple #[.agg #[.int .i64 b.kind, .string b.name, .int .i64 b.hook], .bool true]) ∧ Below w.heap.size w w' := by
  have t82 := as82
  have t85 := as85
  have t87 := as87
  have t90 := as90
  have t92 := as92
  have t94 := as94
  have t95 := as95
  have t104 := as104
  have t108 := as108
  have t114 := as114
  have t117 := as117
  go_enter Tryz.func51, Tryz.ntmps51
  go_wp2
  exact bodyPost_ret (v := .tuple #[.agg #[.int .i64 b.kind, .string b.name, .int .i64 b.hook], .bool true]) (by simp [results, Tryz.f51, go_sem]) rfl ⟨rfl, (by repeat (first | exact Below.refl _ _ | refine Below.setCell ?_ (by simp) _ | refine Below.alloc ?_ (by simp) _))⟩

theorem IsV.shape {w : World} {v : Value} {x : V} (h : IsV w v x) : v = .nilIface ∨ ∃ t y, v = .iface t y := by
  cases h with
  | nil0 => exact .inl rfl
  | leaf l => cases l <;> exact .inr ⟨_, _, rfl⟩
  | _ => exact .inr ⟨_, _, rfl⟩
theorem base_any {w : World} {v : Value} {x : V} (h : IsV w v x) : Calls Tryz.prog 51 #[v] w (BasePost w x) := by
  cases h with
  | nil => exact base_nil1 w
  | nil0 => exact base_nil w
  | leaf l =>
    cases l with
    | bool b v => exact base_bool b v w
    | int b x => exact base_int b x w
    | uint b x => exact base_uint b x w
    | float b x n => exact base_float b x n w
    | cplx b x y n => exact base_cplx b x y n w
    | text b s => exact base_text b s w
    | bytes b s => exact base_bytes b s w
  | list b a c bb oo vs l h1 h2 h3 h4 h5 => exact base_list b a _ c w
  | struct b a c bb oo vs names l hn h1 h2 h3 h4 h4' h5 => exact base_struct b a _ c w
  | map b a c bb oo n vs l hn h1 h2 h3 h4 h4' h5 => exact base_map b a _ c w
  | ptr0 b addr => exact base_ptr b addr _ (.inl rfl) w
  | ptr1 b addr v x hv h => exact base_ptr b addr v h.shape w
end Go.Proofs.YtnalppgjbllehaaGreatDoor
