/- Values in memory, and as plain Lean data; comparisons of numbers and texts; what all values have. Condition: the argument is a value. -/
import Derived.Test.YtkpfeodffhfejaaGreatDoorCA04
import Derived.Lib.Bytealg
import Derived.Laws.AppendOwn
import Derived.OwnWalk
namespace Go.Proofs.YtkpfeodffhfejaaGreatDoor
set_option linter.unusedVariables false
set_option maxRecDepth 1000000
open Go.RowKit

/-- What all but Nil have. -/
structure B where
  kind : Int
  name : ByteArray
  hook : Int

/-- Values without parts. -/
inductive Leaf where
  | bool (b : B) (v : Bool)
  | int (b : B) (x : Int)
  | uint (b : B) (x : Int)
  | float (b : B) (bits size : Int)
  | cplx (b : B) (re im size : Int)
  | text (b : B) (s : ByteArray)
  | bytes (b : B) (s : ByteArray)

inductive Tag where
  | struct | list | map | ptr
  deriving DecidableEq

/-- A value: of a map keys and values by turns. -/
inductive V where
  | nil
  | leaf (l : Leaf)
  | great (t : Tag) (b : B) (addr : Int) (names : List ByteArray) (l : List V)

def Leaf.base : Leaf → B
  | .bool b _ | .int b _ | .uint b _ | .float b _ _ | .cplx b _ _ _ | .text b _ | .bytes b _ => b
def Leaf.val : Leaf → Value
  | .bool b v => .iface 85 (.agg #[.int .i64 b.kind, .string b.name, .int .i64 b.hook, .bool v])
  | .int b x => .iface 87 (.agg #[.int .i64 b.kind, .string b.name, .int .i64 b.hook, .int .i64 x])
  | .uint b x => .iface 89 (.agg #[.int .i64 b.kind, .string b.name, .int .i64 b.hook, .int .u64 x])
  | .float b x n => .iface 91 (.agg #[.int .i64 b.kind, .string b.name, .int .i64 b.hook, .int .u64 x, .int .i64 n])
  | .cplx b x y n => .iface 93 (.agg #[.int .i64 b.kind, .string b.name, .int .i64 b.hook, .int .u64 x, .int .u64 y, .int .i64 n])
  | .text b s => .iface 95 (.agg #[.int .i64 b.kind, .string b.name, .int .i64 b.hook, .string s])
  | .bytes b s => .iface 96 (.agg #[.int .i64 b.kind, .string b.name, .int .i64 b.hook, .string s])

/-- The value of an interface is the value x, in world w. -/
inductive IsV (w : World) : Value → V → Prop where
  | nil : IsV w (.iface 112 (.agg #[])) .nil
  | nil0 : IsV w .nilIface .nil
  | leaf (l : Leaf) : IsV w l.val (.leaf l)
  | list (b : B) (a : Option Addr) (c bb oo : Nat) (vs : Nat → Value) (l : List V) (h1 : l.length ≤ c) (h2 : l.length < 1000) (h3 : 0 < l.length → a = some ⟨bb, oo, none⟩)
      (h4 : ∀ i, i < l.length → w.cell? ⟨bb, oo + i, none⟩ = some (vs i)) (h5 : ∀ i (h : i < l.length), IsV w (vs i) l[i]) (h6 : ∀ i, i < l.length → ∃ t y, vs i = .iface t y) :
      IsV w (.iface 101 (.agg #[.int .i64 b.kind, .string b.name, .int .i64 b.hook, .slice a l.length c])) (.great .list b 0 [] l)
  | struct (b : B) (a : Option Addr) (c bb oo : Nat) (vs : Nat → Value) (names : List ByteArray) (l : List V) (hn : names.length = l.length) (h1 : l.length ≤ c) (h2 : l.length < 1000) (h3 : 0 < l.length → a = some ⟨bb, oo, none⟩)
      (h4 : ∀ i (h : i < names.length), w.cell? ⟨bb, oo + i * 2, none⟩ = some (.string names[i])) (h4' : ∀ i, i < l.length → w.cell? ⟨bb, oo + i * 2 + 1, none⟩ = some (vs i)) (h5 : ∀ i (h : i < l.length), IsV w (vs i) l[i]) (h6 : ∀ i, i < l.length → ∃ t y, vs i = .iface t y) :
      IsV w (.iface 99 (.agg #[.int .i64 b.kind, .string b.name, .int .i64 b.hook, .slice a l.length c])) (.great .struct b 0 names l)
  | map (b : B) (a : Option Addr) (c bb oo n : Nat) (vs : Nat → Value) (l : List V) (hn : l.length = n * 2) (h1 : n ≤ c) (h2 : l.length < 1000) (h3 : 0 < n → a = some ⟨bb, oo, none⟩)
      (h4 : ∀ i, i < n → w.cell? ⟨bb, oo + i * 2, none⟩ = some (vs (i * 2))) (h4' : ∀ i, i < n → w.cell? ⟨bb, oo + i * 2 + 1, none⟩ = some (vs (i * 2 + 1))) (h5 : ∀ i (h : i < l.length), IsV w (vs i) l[i]) (h6 : ∀ i, i < l.length → ∃ t y, vs i = .iface t y) :
      IsV w (.iface 104 (.agg #[.int .i64 b.kind, .string b.name, .int .i64 b.hook, .slice a n c])) (.great .map b 0 [] l)
  | ptr0 (b : B) (addr : Int) : IsV w (.iface 106 (.agg #[.int .i64 b.kind, .string b.name, .int .i64 b.hook, .int .u64 addr, .nilIface])) (.great .ptr b addr [] [])
  | ptr1 (b : B) (addr : Int) (v : Value) (x : V) (hv : v ≠ .nilIface) (h : IsV w v x) : IsV w (.iface 106 (.agg #[.int .i64 b.kind, .string b.name, .int .i64 b.hook, .int .u64 addr, v])) (.great .ptr b addr [] [x])

theorem IsV.later {w w' : World} (hb : Below w.heap.size w w') {v : Value} {x : V} (h : IsV w v x) : IsV w' v x := by
  induction h with
  | nil => exact .nil
  | nil0 => exact .nil0
  | leaf l => exact .leaf l
  | list b a c bb oo vs l h1 h2 h3 h4 h5 h6 ih => exact .list b a c bb oo vs l h1 h2 h3 (fun i hi => cell_below hb (h4 i hi)) ih h6
  | struct b a c bb oo vs names l hn h1 h2 h3 h4 h4' h5 h6 ih => exact .struct b a c bb oo vs names l hn h1 h2 h3 (fun i hi => cell_below hb (h4 i hi)) (fun i hi => cell_below hb (h4' i hi)) ih h6
  | map b a c bb oo n vs l hn h1 h2 h3 h4 h4' h5 h6 ih => exact .map b a c bb oo n vs l hn h1 h2 h3 (fun i hi => cell_below hb (h4 i hi)) (fun i hi => cell_below hb (h4' i hi)) ih h6
  | ptr0 b addr => exact .ptr0 b addr
  | ptr1 b addr v x hv h ih => exact .ptr1 b addr v x hv ih

/-- The base; nil has none. -/
def V.base : V → B
  | .nil => ⟨0, ⟨#[]⟩, 0⟩
  | .leaf l => l.base
  | .great _ b _ _ _ => b
def V.isNil : V → Bool
  | .nil => true
  | _ => false

def BasePost (w : World) (x : V) (e : Ending) (w' : World) : Prop :=
  e = .returned (.tuple #[.agg #[.int .i64 x.base.kind, .string x.base.name, .int .i64 x.base.hook], .bool (!x.isNil)]) ∧ Below w.heap.size w w'


theorem base_nil (w : World) : Calls Tryz.prog 26 #[.nilIface] w (BasePost w .nil) := by
  have t82 := asn82
  have t85 := asn85
  have t87 := asn87
  have t90 := asn90
  have t92 := asn92
  have t94 := asn94
  have t95 := asn95
  have t104 := asn104
  have t108 := asn108
  have t114 := asn114
  have t117 := asn117
  go_enter Tryz.func26, Tryz.ntmps26
  go_wp2
  exact bodyPost_ret (v := .tuple #[.agg #[.int .i64 0, .string ⟨#[]⟩, .int .i64 0], .bool false]) (by simp [results, Tryz.f26, go_sem]) rfl ⟨rfl, (by repeat (first | exact Below.refl _ _ | refine Below.setCell ?_ (by simp) _ | refine Below.alloc ?_ (by simp) _))⟩
theorem base_nil1 (w : World) : Calls Tryz.prog 26 #[.iface 112 (.agg #[])] w (BasePost w .nil) := by
  have t82 := as82
  have t85 := as85
  have t87 := as87
  have t90 := as90
  have t92 := as92
  have t94 := as94
  have t95 := as95
  have t104 := as104
  have t108 := as108
  have t114 := as114
  have t117 := as117
  go_enter Tryz.func26, Tryz.ntmps26
  go_wp2
  exact bodyPost_ret (v := .tuple #[.agg #[.int .i64 0, .string ⟨#[]⟩, .int .i64 0], .bool false]) (by simp [results, Tryz.f26, go_sem]) rfl ⟨rfl, (by repeat (first | exact Below.refl _ _ | refine Below.setCell ?_ (by simp) _ | refine Below.alloc ?_ (by simp) _))⟩

theorem base_bool (b : B) (v : Bool) (w : World) : Calls Tryz.prog 26 #[.iface 85 (.agg #[.int .i64 b.kind, .string b.name, .int .i64 b.hook, .bool v])] w fun e w' => e = .returned (.tuple #[.agg #[.int .i64 b.kind, .string b.name, .int .i64 b.hook], .bool true]) ∧ Below w.heap.size w w' := by
  have t82 := as82
  have t85 := as85
  have t87 := as87
  have t90 := as90
  have t92 := as92
  have t94 := as94
  have t95 := as95
  have t104 := as104
  have t108 := as108
  have t114 := as114
  have t117 := as117
  go_enter Tryz.func26, Tryz.ntmps26
  go_wp2
  exact bodyPost_ret (v := .tuple #[.agg #[.int .i64 b.kind, .string b.name, .int .i64 b.hook], .bool true]) (by simp [results, Tryz.f26, go_sem]) rfl ⟨rfl, (by repeat (first | exact Below.refl _ _ | refine Below.setCell ?_ (by simp) _ | refine Below.alloc ?_ (by simp) _))⟩

theorem base_int (b : B) (x : Int) (w : World) : Calls Tryz.prog 26 #[.iface 87 (.agg #[.int .i64 b.kind, .string b.name, .int .i64 b.hook, .int .i64 x])] w fun e w' => e = .returned (.tuple #[.agg #[.int .i64 b.kind, .string b.name, .int .i64 b.hook], .bool true]) ∧ Below w.heap.size w w' := by
  have t82 := as82
  have t85 := as85
  have t87 := as87
  have t90 := as90
  have t92 := as92
  have t94 := as94
  have t95 := as95
  have t104 := as104
  have t108 := as108
  have t114 := as114
  have t117 := as117
  go_enter Tryz.func26, Tryz.ntmps26
  go_wp2
  exact bodyPost_ret (v := .tuple #[.agg #[.int .i64 b.kind, .string b.name, .int .i64 b.hook], .bool true]) (by simp [results, Tryz.f26, go_sem]) rfl ⟨rfl, (by repeat (first | exact Below.refl _ _ | refine Below.setCell ?_ (by simp) _ | refine Below.alloc ?_ (by simp) _))⟩

theorem base_uint (b : B) (x : Int) (w : World) : Calls Tryz.prog 26 #[.iface 89 (.agg #[.int .i64 b.kind, .string b.name, .int .i64 b.hook, .int .u64 x])] w fun e w' => e = .returned (.tuple #[.agg #[.int .i64 b.kind, .string b.name, .int .i64 b.hook], .bool true]) ∧ Below w.heap.size w w' := by
  have t82 := as82
  have t85 := as85
  have t87 := as87
  have t90 := as90
  have t92 := as92
  have t94 := as94
  have t95 := as95
  have t104 := as104
  have t108 := as108
  have t114 := as114
  have t117 := as117
  go_enter Tryz.func26, Tryz.ntmps26
  go_wp2
  exact bodyPost_ret (v := .tuple #[.agg #[.int .i64 b.kind, .string b.name, .int .i64 b.hook], .bool true]) (by simp [results, Tryz.f26, go_sem]) rfl ⟨rfl, (by repeat (first | exact Below.refl _ _ | refine Below.setCell ?_ (by simp) _ | refine Below.alloc ?_ (by simp) _))⟩

theorem base_float (b : B) (x n : Int) (w : World) : Calls Tryz.prog 26 #[.iface 91 (.agg #[.int .i64 b.kind, .string b.name, .int .i64 b.hook, .int .u64 x, .int .i64 n])] w fun e w' => e = .returned (.tuple #[.agg #[.int .i64 b.kind, .string b.name, .int .i64 b.hook], .bool true]) ∧ Below w.heap.size w w' := by
  have t82 := as82
  have t85 := as85
  have t87 := as87
  have t90 := as90
  have t92 := as92
  have t94 := as94
  have t95 := as95
  have t104 := as104
  have t108 := as108
  have t114 := as114
  have t117 := as117
  go_enter Tryz.func26, Tryz.ntmps26
  go_wp2
  exact bodyPost_ret (v := .tuple #[.agg #[.int .i64 b.kind, .string b.name, .int .i64 b.hook], .bool true]) (by simp [results, Tryz.f26, go_sem]) rfl ⟨rfl, (by repeat (first | exact Below.refl _ _ | refine Below.setCell ?_ (by simp) _ | refine Below.alloc ?_ (by simp) _))⟩

theorem base_cplx (b : B) (x y n : Int) (w : World) : Calls Tryz.prog 26 #[.iface 93 (.agg #[.int .i64 b.kind, .string b.name, .int .i64 b.hook, .int .u64 x, .int .u64 y, .int .i64 n])] w fun e w' => e = .returned (.tuple #[.agg #[.int .i64 b.kind, .string b.name, .int .i64 b.hook], .bool true]) ∧ Below w.heap.size w w' := by
  have t82 := as82
  have t85 := as85
  have t87 := as87
  have t90 := as90
  have t92 := as92
  have t94 := as94
  have t95 := as95
  have t104 := as104
  have t108 := as108
  have t114 := as114
  have t117 := as117
  go_enter Tryz.func26, Tryz.ntmps26
  go_wp2
  exact bodyPost_ret (v := .tuple #[.agg #[.int .i64 b.kind, .string b.name, .int .i64 b.hook], .bool true]) (by simp [results, Tryz.f26, go_sem]) rfl ⟨rfl, (by repeat (first | exact Below.refl _ _ | refine Below.setCell ?_ (by simp) _ | refine Below.alloc ?_ (by simp) _))⟩

theorem base_text (b : B) (s : ByteArray) (w : World) : Calls Tryz.prog 26 #[.iface 95 (.agg #[.int .i64 b.kind, .string b.name, .int .i64 b.hook, .string s])] w fun e w' => e = .returned (.tuple #[.agg #[.int .i64 b.kind, .string b.name, .int .i64 b.hook], .bool true]) ∧ Below w.heap.size w w' := by
  have t82 := as82
  have t85 := as85
  have t87 := as87
  have t90 := as90
  have t92 := as92
  have t94 := as94
  have t95 := as95
  have t104 := as104
  have t108 := as108
  have t114 := as114
  have t117 := as117
  go_enter Tryz.func26, Tryz.ntmps26
  go_wp2
  exact bodyPost_ret (v := .tuple #[.agg #[.int .i64 b.kind, .string b.name, .int .i64 b.hook], .bool true]) (by simp [results, Tryz.f26, go_sem]) rfl ⟨rfl, (by repeat (first | exact Below.refl _ _ | refine Below.setCell ?_ (by simp) _ | refine Below.alloc ?_ (by simp) _))⟩

theorem base_bytes (b : B) (s : ByteArray) (w : World) : Calls Tryz.prog 26 #[.iface 96 (.agg #[.int .i64 b.kind, .string b.name, .int .i64 b.hook, .string s])] w fun e w' => e = .returned (.tuple #[.agg #[.int .i64 b.kind, .string b.name, .int .i64 b.hook], .bool true]) ∧ Below w.heap.size w w' := by
  have t82 := as82
  have t85 := as85
  have t87 := as87
  have t90 := as90
  have t92 := as92
  have t94 := as94
  have t95 := as95
  have t104 := as104
  have t108 := as108
  have t114 := as114
  have t117 := as117
  go_enter Tryz.func26, Tryz.ntmps26
  go_wp2
  exact bodyPost_ret (v := .tuple #[.agg #[.int .i64 b.kind, .string b.name, .int .i64 b.hook], .bool true]) (by simp [results, Tryz.f26, go_sem]) rfl ⟨rfl, (by repeat (first | exact Below.refl _ _ | refine Below.setCell ?_ (by simp) _ | refine Below.alloc ?_ (by simp) _))⟩

theorem base_struct (b : B) (a : Option Addr) (n c : Nat) (w : World) : Calls Tryz.prog 26 #[.iface 99 (.agg #[.int .i64 b.kind, .string b.name, .int .i64 b.hook, .slice a n c])] w fun e w' => e = .returned (.tuple #[.agg #[.int .i64 b.kind, .string b.name, .int .i64 b.hook], .bool true]) ∧ Below w.heap.size w w' := by
  have t82 := as82
  have t85 := as85
  have t87 := as87
  have t90 := as90
  have t92 := as92
  have t94 := as94
  have t95 := as95
  have t104 := as104
  have t108 := as108
  have t114 := as114
  have t117 := as117
  go_enter Tryz.func26, Tryz.ntmps26
  go_wp2
  exact bodyPost_ret (v := .tuple #[.agg #[.int .i64 b.kind, .string b.name, .int .i64 b.hook], .bool true]) (by simp [results, Tryz.f26, go_sem]) rfl ⟨rfl, (by repeat (first | exact Below.refl _ _ | refine Below.setCell ?_ (by simp) _ | refine Below.alloc ?_ (by simp) _))⟩

theorem base_ptr (b : B) (x : Int) (v : Value) (hv : v = .nilIface ∨ ∃ t y, v = .iface t y) (w : World) : Calls Tryz.prog 26 #[.iface 106 (.agg #[.int .i64 b.kind, .string b.name, .int .i64 b.hook, .int .u64 x, v])] w fun e w' => e = .returned (.tuple #[.agg #[.int .i64 b.kind, .string b.name, .int .i64 b.hook], .bool true]) ∧ Below w.heap.size w w' := by
  have t82 := as82
  have t85 := as85
  have t87 := as87
  have t90 := as90
  have t92 := as92
  have t94 := as94
  have t95 := as95
  have t104 := as104
  have t108 := as108
  have t114 := as114
  have t117 := as117
  rcases hv with rfl | ⟨t, y, rfl⟩
  all_goals
    go_enter Tryz.func26, Tryz.ntmps26
    go_wp2
    exact bodyPost_ret (v := .tuple #[.agg #[.int .i64 b.kind, .string b.name, .int .i64 b.hook], .bool true]) (by simp [results, Tryz.f26, go_sem]) rfl ⟨rfl, (by repeat (first | exact Below.refl _ _ | refine Below.setCell ?_ (by simp) _ | refine Below.alloc ?_ (by simp) _))⟩

theorem base_list (b : B) (a : Option Addr) (n c : Nat) (w : World) : Calls Tryz.prog 26 #[.iface 101 (.agg #[.int .i64 b.kind, .string b.name, .int .i64 b.hook, .slice a n c])] w fun e w' => e = .returned (.tuple #[.agg #[.int .i64 b.kind, .string b.name, .int .i64 b.hook], .bool true]) ∧ Below w.heap.size w w' := by
  have t82 := as82
  have t85 := as85
  have t87 := as87
  have t90 := as90
  have t92 := as92
  have t94 := as94
  have t95 := as95
  have t104 := as104
  have t108 := as108
  have t114 := as114
  have t117 := as117
  go_enter Tryz.func26, Tryz.ntmps26
  go_wp2
  exact bodyPost_ret (v := .tuple #[.agg #[.int .i64 b.kind, .string b.name, .int .i64 b.hook], .bool true]) (by simp [results, Tryz.f26, go_sem]) rfl ⟨rfl, (by repeat (first | exact Below.refl _ _ | refine Below.setCell ?_ (by simp) _ | refine Below.alloc ?_ (by simp) _))⟩

theorem base_map (b : B) (a : Option Addr) (n c : Nat) (w : World) : Calls Tryz.prog 26 #[.iface 104 (.agg #[.int .i64 b.kind, .string b.name, .int .i64 b.hook, .slice a n c])] w fun e w' => e = .returned (.tuple #[.agg #[.int .i64 b.kind, .string b.name, .int .i64 b.hook], .bool true]) ∧ Below w.heap.size w w' := by
  have t82 := as82
  have t85 := as85
  have t87 := as87
  have t90 := as90
  have t92 := as92
  have t94 := as94
  have t95 := as95
  have t104 := as104
  have t108 := as108
  have t114 := as114
  have t117 := as117
  go_enter Tryz.func26, Tryz.ntmps26
  go_wp2
  exact bodyPost_ret (v := .tuple #[.agg #[.int .i64 b.kind, .string b.name, .int .i64 b.hook], .bool true]) (by simp [results, Tryz.f26, go_sem]) rfl ⟨rfl, (by repeat (first | exact Below.refl _ _ | refine Below.setCell ?_ (by simp) _ | refine Below.alloc ?_ (by simp) _))⟩

theorem IsV.shape {w : World} {v : Value} {x : V} (h : IsV w v x) : v = .nilIface ∨ ∃ t y, v = .iface t y := by
  cases h with
  | nil0 => exact .inl rfl
  | leaf l => cases l <;> exact .inr ⟨_, _, rfl⟩
  | _ => exact .inr ⟨_, _, rfl⟩
theorem base_any {w : World} {v : Value} {x : V} (h : IsV w v x) : Calls Tryz.prog 26 #[v] w (BasePost w x) := by
  cases h with
  | nil => exact base_nil1 w
  | nil0 => exact base_nil w
  | leaf l =>
    cases l with
    | bool b v => exact base_bool b v w
    | int b x => exact base_int b x w
    | uint b x => exact base_uint b x w
    | float b x n => exact base_float b x n w
    | cplx b x y n => exact base_cplx b x y n w
    | text b s => exact base_text b s w
    | bytes b s => exact base_bytes b s w
  | list b a c bb oo vs l h1 h2 h3 h4 h5 => exact base_list b a _ c w
  | struct b a c bb oo vs names l hn h1 h2 h3 h4 h4' h5 => exact base_struct b a _ c w
  | map b a c bb oo n vs l hn h1 h2 h3 h4 h4' h5 => exact base_map b a _ c w
  | ptr0 b addr => exact base_ptr b addr _ (.inl rfl) w
  | ptr1 b addr v x hv h => exact base_ptr b addr v h.shape w
end Go.Proofs.YtkpfeodffhfejaaGreatDoor

/- Values that lie in given blocks; what is appended to a row of the call's own. No condition. -/
namespace Go.Proofs.YtkpfeodffhfejaaGreatDoor
set_option linter.unusedVariables false
set_option maxRecDepth 1000000
open Go.RowKit

/-- The value of an interface is the value x, all of it in blocks of S. -/
inductive IsVF (S : Nat → Prop) (w : World) : Value → V → Prop where
  | nil : IsVF S w (.iface 112 (.agg #[])) .nil
  | nil0 : IsVF S w .nilIface .nil
  | leaf (l : Leaf) : IsVF S w l.val (.leaf l)
  | list (b : B) (a : Option Addr) (c bb oo : Nat) (vs : Nat → Value) (l : List V) (h1 : l.length ≤ c) (h2 : l.length < 1000) (h3 : 0 < l.length → a = some ⟨bb, oo, none⟩ ∧ S bb)
      (h4 : ∀ i, i < l.length → w.cell? ⟨bb, oo + i, none⟩ = some (vs i)) (h5 : ∀ i (h : i < l.length), IsVF S w (vs i) l[i]) (h6 : ∀ i, i < l.length → ∃ t y, vs i = .iface t y) :
      IsVF S w (.iface 101 (.agg #[.int .i64 b.kind, .string b.name, .int .i64 b.hook, .slice a l.length c])) (.great .list b 0 [] l)
  | struct (b : B) (a : Option Addr) (c bb oo : Nat) (vs : Nat → Value) (names : List ByteArray) (l : List V) (hn : names.length = l.length) (h1 : l.length ≤ c) (h2 : l.length < 1000) (h3 : 0 < l.length → a = some ⟨bb, oo, none⟩ ∧ S bb)
      (h4 : ∀ i (h : i < names.length), w.cell? ⟨bb, oo + i * 2, none⟩ = some (.string names[i])) (h4' : ∀ i, i < l.length → w.cell? ⟨bb, oo + i * 2 + 1, none⟩ = some (vs i)) (h5 : ∀ i (h : i < l.length), IsVF S w (vs i) l[i]) (h6 : ∀ i, i < l.length → ∃ t y, vs i = .iface t y) :
      IsVF S w (.iface 99 (.agg #[.int .i64 b.kind, .string b.name, .int .i64 b.hook, .slice a l.length c])) (.great .struct b 0 names l)
  | map (b : B) (a : Option Addr) (c bb oo n : Nat) (vs : Nat → Value) (l : List V) (hn : l.length = n * 2) (h1 : n ≤ c) (h2 : l.length < 1000) (h3 : 0 < n → a = some ⟨bb, oo, none⟩ ∧ S bb)
      (h4 : ∀ i, i < n → w.cell? ⟨bb, oo + i * 2, none⟩ = some (vs (i * 2))) (h4' : ∀ i, i < n → w.cell? ⟨bb, oo + i * 2 + 1, none⟩ = some (vs (i * 2 + 1))) (h5 : ∀ i (h : i < l.length), IsVF S w (vs i) l[i]) (h6 : ∀ i, i < l.length → ∃ t y, vs i = .iface t y) :
      IsVF S w (.iface 104 (.agg #[.int .i64 b.kind, .string b.name, .int .i64 b.hook, .slice a n c])) (.great .map b 0 [] l)
  | ptr0 (b : B) (addr : Int) : IsVF S w (.iface 106 (.agg #[.int .i64 b.kind, .string b.name, .int .i64 b.hook, .int .u64 addr, .nilIface])) (.great .ptr b addr [] [])
  | ptr1 (b : B) (addr : Int) (v : Value) (x : V) (hv : v ≠ .nilIface) (h : IsVF S w v x) : IsVF S w (.iface 106 (.agg #[.int .i64 b.kind, .string b.name, .int .i64 b.hook, .int .u64 addr, v])) (.great .ptr b addr [] [x])

theorem IsVF.isV {S : Nat → Prop} {w : World} {v : Value} {x : V} (h : IsVF S w v x) : IsV w v x := by
  induction h with
  | nil => exact .nil
  | nil0 => exact .nil0
  | leaf l => exact .leaf l
  | list b a c bb oo vs l h1 h2 h3 h4 h5 h6 ih => exact .list b a c bb oo vs l h1 h2 (fun h => (h3 h).1) h4 ih h6
  | struct b a c bb oo vs names l hn h1 h2 h3 h4 h4' h5 h6 ih => exact .struct b a c bb oo vs names l hn h1 h2 (fun h => (h3 h).1) h4 h4' ih h6
  | map b a c bb oo n vs l hn h1 h2 h3 h4 h4' h5 h6 ih => exact .map b a c bb oo n vs l hn h1 h2 (fun h => (h3 h).1) h4 h4' ih h6
  | ptr0 b addr => exact .ptr0 b addr
  | ptr1 b addr v x hv h ih => exact .ptr1 b addr v x hv ih

theorem cell_block {w w' : World} {b o : Nat} (hb : w'.heap[b]? = w.heap[b]?) {v : Value} (h : w.cell? ⟨b, o, none⟩ = some v) : w'.cell? ⟨b, o, none⟩ = some v := by
  rw [World.cell?_of_block (a := ⟨b, o, none⟩) hb]; exact h

/-- The same blocks read the same; more blocks are allowed. -/
theorem IsVF.keep {S S' : Nat → Prop} {w w' : World} (hs : ∀ k, k < w.heap.size → S k → S' k ∧ w'.heap[k]? = w.heap[k]?) {v : Value} {x : V} (h : IsVF S w v x) : IsVF S' w' v x := by
  have lt : ∀ {b o : Nat} {u : Value}, w.cell? ⟨b, o, none⟩ = some u → b < w.heap.size := fun h => World.block_lt_of_cell? w _ h
  induction h with
  | nil => exact .nil
  | nil0 => exact .nil0
  | leaf l => exact .leaf l
  | list b a c bb oo vs l h1 h2 h3 h4 h5 h6 ih =>
    exact .list b a c bb oo vs l h1 h2 (fun h => ⟨(h3 h).1, (hs bb (lt (h4 0 h)) (h3 h).2).1⟩) (fun i hi => cell_block (hs bb (lt (h4 i hi)) (h3 (by omega)).2).2 (h4 i hi)) ih h6
  | struct b a c bb oo vs names l hn h1 h2 h3 h4 h4' h5 h6 ih =>
    exact .struct b a c bb oo vs names l hn h1 h2 (fun h => ⟨(h3 h).1, (hs bb (lt (h4' 0 h)) (h3 h).2).1⟩) (fun i hi => cell_block (hs bb (lt (h4 i hi)) (h3 (by omega)).2).2 (h4 i hi)) (fun i hi => cell_block (hs bb (lt (h4' i hi)) (h3 (by omega)).2).2 (h4' i hi)) ih h6
  | map b a c bb oo n vs l hn h1 h2 h3 h4 h4' h5 h6 ih =>
    exact .map b a c bb oo n vs l hn h1 h2 (fun h => ⟨(h3 h).1, (hs bb (lt (h4 0 h)) (h3 h).2).1⟩) (fun i hi => cell_block (hs bb (lt (h4 i hi)) (h3 (by omega)).2).2 (h4 i hi)) (fun i hi => cell_block (hs bb (lt (h4' i hi)) (h3 (by omega)).2).2 (h4' i hi)) ih h6
  | ptr0 b addr => exact .ptr0 b addr
  | ptr1 b addr v x hv h ih => exact .ptr1 b addr v x hv ih
theorem IsVF.mono {S S' : Nat → Prop} {w : World} (hs : ∀ k, k < w.heap.size → S k → S' k) {v : Value} {x : V} (h : IsVF S w v x) : IsVF S' w v x := h.keep fun k hk hk' => ⟨hs k hk hk', rfl⟩
theorem IsVF.later {S : Nat → Prop} {w w' : World} (hb : Below w.heap.size w w') {v : Value} {x : V} (h : IsVF S w v x) : IsVF S w' v x := h.keep fun k hk hk' => ⟨hk', hb.block k hk⟩
theorem IsVF.shape {S : Nat → Prop} {w : World} {v : Value} {x : V} (h : IsVF S w v x) : v = .nilIface ∨ ∃ t y, v = .iface t y := h.isV.shape

theorem lt_of_some {w : World} {g : Nat} {o : Obj} (h : w.heap[g]? = some o) : g < w.heap.size := (Array.getElem?_eq_some_iff.1 h).1

/-- Where what was appended lies: in the block as before, or in a new one. -/
def Last (v' v : Value) (n : Nat) : Prop := ∃ g, v'.ownBlock = some g ∧ (v.ownBlock = some g ∨ g = n)

section
variable {P : Program}
/-- One element more: in the same block, or in a new one. -/
theorem run_append_one (w : World) (base : Nat) (t ty e : TypeId) (i : TypeInfo) (z : Value) (size bytes : Nat) (ht : P.underlying t = some (.slice e)) (hi : P.info? e = some i) (hz : i.zero = some z)
    (hsize : i.size = size) (hby : i.bytes = bytes) (hzs : z.cells.size = size) (hsz : 0 < size)
    (v : Value) (n : Nat) (xs : List Value) (hown : w.ownsRow base e size v n xs)
    (a : Addr) (c : Nat) (news : List Value) (hl : news.length = 1 * size) (hnews : ∀ j u, news[j]? = some u → w.cell? (a.add j) = some u) (h1 : ∀ u ∈ news, u.oneCell' = true)
    (h63 : n + 1 ≤ maxLen) (hbytes : (n + 1) * bytes ≤ 140737488355328) (hbase : base ≤ w.heap.size) :
    ∃ v' w', (Builtin.append_ #[t, t] ty #[v, .slice (some a) 1 c]).run P w = .ok v' w' ∧ w'.ownsRow base e size v' (n + 1) (xs ++ news) ∧ w.grownBy w' v.ownBlock ∧
      ∃ g, v'.ownBlock = some g ∧ (v.ownBlock = some g ∨ g = w.heap.size) := by
  obtain ⟨v', w', hr, h2, h3, _⟩ := run_append_own w base t ty e i z size bytes ht hi hz hsize hby hzs hsz v n xs hown a 1 c news hl hnews h1 h63 hbytes hbase
  refine ⟨v', w', hr, h2, h3, ?_⟩
  subst hsize
  subst hby
  have h63' : ((n + 1 : Nat) : Int) ≤ 9223372036854775807 := by simp only [maxLen] at h63; omega
  rcases hown.2 with ⟨rfl, rfl⟩ | ⟨g, cap, cur, rfl, hbg, hg, hnc, hcm, hcs, htake⟩
  · have := run_append_nil (P := P) (w := w) t ty e i z ht hi hz a 1 c news hl hnews (by omega) (by simp) (by simp only [Nat.zero_add] at hbytes; omega)
    rw [hr] at this
    injection this with e1 e2
    subst e1
    exact ⟨_, rfl, .inr rfl⟩
  · by_cases hroom : n + 1 ≤ cap
    · have hfit : n * i.size + news.length ≤ cur.size := by rw [hl, hcs, ← Nat.add_mul]; exact Nat.mul_le_mul_right _ hroom
      have := run_append_room (P := P) w t ty e i ht hi g n cap cur hg a 1 c news hl hnews h1 hroom hfit
      rw [hr] at this
      injection this with e1 e2
      subst e1
      exact ⟨_, rfl, .inl rfl⟩
    · have holds : ∀ j u, xs[j]? = some u → w.cell? ((⟨g, 0, none⟩ : Addr).add j) = some u := hown.cells (g := g) rfl
      have := run_append_grow (P := P) (w := w) t ty e i z ht hi hz ⟨g, 0, none⟩ n cap xs hown.1 holds a 1 c news hl hnews (by omega) h63' (growslice_fits (by omega) hbytes)
      rw [hr] at this
      injection this with e1 e2
      subst e1
      exact ⟨_, rfl, .inr rfl⟩

theorem wpList_append_one (w : World) {ops : Array Oper} {rest : List Oper} {o : Oper} {a : Act} {Q : Exit → Act → World → Prop} (hgd : o.guard = none) (s x : Operand) (t : TypeId)
    (ho : o.op = .call { callee := .builtin .append, args := #[s, x], argTypes := #[t, t] })
    (base : Nat) (e : TypeId) (i : TypeInfo) (z : Value) (size bytes : Nat) (ht : P.underlying t = some (.slice e)) (hi : P.info? e = some i) (hz : i.zero = some z)
    (hsize : i.size = size) (hby : i.bytes = bytes) (hzs : z.cells.size = size) (hsz : 0 < size)
    (v : Value) (n : Nat) (xs : List Value) (hs : a.eval s = v) (hown : w.ownsRow base e size v n xs)
    (ad : Addr) (c : Nat) (news : List Value) (hx : a.eval x = .slice (some ad) 1 c) (hl : news.length = 1 * size) (hnews : ∀ j u, news[j]? = some u → w.cell? (ad.add j) = some u) (h1 : ∀ u ∈ news, u.oneCell' = true)
    (h63 : n + 1 ≤ maxLen) (hbytes : (n + 1) * bytes ≤ 140737488355328) (hbase : base ≤ w.heap.size)
    (h : ∀ v' w', w'.ownsRow base e size v' (n + 1) (xs ++ news) → w.grownBy w' v.ownBlock → Last v' v w.heap.size → wpList P ops Q rest (a.put o.dst v') w') : wpList P ops Q (o :: rest) a w := by
  obtain ⟨v', w', hr, h2, h3, h4⟩ := run_append_one (P := P) w base t o.type e i z size bytes ht hi hz hsize hby hzs hsz v n xs hown ad c news hl hnews h1 h63 hbytes hbase
  refine wpList_plain hgd fun _ hK => ?_
  unfold Oper.wp execOp
  simp only [ho, resolve, invoke, builtin, Sem.run_bind, Sem.run_pure, Result.andThen_ok, List.map_toArray, List.map_cons, List.map_nil, hs, hx, hr]
  exact hK _ _ (h v' w' h2 h3 h4)
end

/-- Below, by what an append leaves. -/
theorem below_grown {W0 w w' : World} {v : Value} {base : Nat} {e : TypeId} {size n : Nat} {xs : List Value} (h : Below base W0 w) (hg : w.grownBy w' v.ownBlock) (ho : w.ownsRow base e size v n xs) (hB : base ≤ w.heap.size) : Below base W0 w' :=
  h.grown hg hB fun k hk => (ho.lt k hk).1
end Go.Proofs.YtkpfeodffhfejaaGreatDoor
