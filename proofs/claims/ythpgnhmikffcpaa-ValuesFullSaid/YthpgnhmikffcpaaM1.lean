/- The closure that asks the form; values without parts out of descriptors. -/
import Derived.Test.YthpgnhmikffcpaaS1
import Derived.Test.YthpgnhmikffcpaaM0
namespace Go.Proofs.Ythpgnhmikffcpaa
set_option linter.unusedVariables false
set_option linter.unusedSimpArgs false
open Go.RowKit

theorem form_ok (d : D) (w : World) (v : Value) (h : IsD w v d) (hg : formB d = true) : Calls Try.prog 40 #[v] w fun e w' => e = .returned (.tuple #[]) ∧ Below w.heap.size w w' := by
  have HD := Lib.hid h
  obtain ⟨a5, c5, a6, c6, rfl, hk, hb, hi, ht, hx, hn, hp⟩ := h.open
  clear hp hn hb hi hk ht hx h
  have HG := Lib.hid hg
  clear hg
  unfold aggD
  go_enter Try.func40, Try.ntmps40
  go_wp2_with fail
  refine (formed_any (d := d) (HD.out.later (Below.new _))).mono ?_
  unfold FormPost
  rw [HG.out]
  rintro e w1 ⟨rfl, hB⟩
  have HB := Lib.hid ((Below.new _).next hB)
  clear hB
  go_wp2_with fail
  refine (must_ok 4 _).mono ?_
  rintro e w2 ⟨rfl, rfl⟩
  go_wp2_with fail
  go_end0
  exact ⟨rfl, HB.out⟩
theorem form_bad (d : D) (w : World) (v : Value) (h : IsD w v d) (hg : formB d = false) : Calls Try.prog 40 #[v] w fun e w' => e = thrown 4 ∧ Below w.heap.size w w' := by
  have HD := Lib.hid h
  obtain ⟨a5, c5, a6, c6, rfl, hk, hb, hi, ht, hx, hn, hp⟩ := h.open
  clear hp hn hb hi hk ht hx h
  have HG := Lib.hid hg
  clear hg
  unfold aggD
  go_enter Try.func40, Try.ntmps40
  go_wp2_with fail
  refine (formed_any (d := d) (HD.out.later (Below.new _))).mono ?_
  unfold FormPost
  rw [HG.out]
  rintro e w1 ⟨rfl, hB⟩
  have HB := Lib.hid ((Below.new _).next hB)
  clear hB
  go_wp2_with fail
  refine (must_bad 4 _).mono ?_
  rintro e w2 ⟨rfl, rfl⟩
  go_wp2_with fail
  exact ⟨rfl, rfl, HB.out⟩

/-- Two to as many bits as a kind has. -/
def modN (n : Int) : Int := if n = 8 then 256 else if n = 16 then 65536 else if n = 32 then 4294967296 else 18446744073709551616
def unsN (n x : Int) : Int := x % modN n
def sgnN (n x : Int) : Int := if modN n ≤ 2 * (x % modN n) then x % modN n - modN n else x % modN n
def D.base (d : D) : B := ⟨d.kind, d.type, d.hook⟩
/-- The value of a descriptor without parts. -/
def leafV (d : D) : V :=
  if d.kind = 0 then .nil else if d.kind = 1 then .leaf (.bool d.base (d.bits % 2 == 1))
  else if d.kind ≤ 6 then .leaf (.int d.base (sgnN (widthK d.kind) d.bits)) else if d.kind ≤ 11 then .leaf (.uint d.base (unsN (widthK d.kind) d.bits))
  else if d.kind = 12 then .leaf (.float d.base (d.bits % 4294967296) 32) else if d.kind = 13 then .leaf (.float d.base d.bits 64)
  else if d.kind = 14 then .leaf (.cplx d.base (d.bits % 4294967296) (d.imag % 4294967296) 64) else if d.kind = 15 then .leaf (.cplx d.base d.bits d.imag 128)
  else if d.kind = 16 then .leaf (.text d.base d.text) else .leaf (.bytes d.base d.text)
/-- x is handed back. -/
def MadeIs (w : World) (x : V) (e : Ending) (w' : World) : Prop := Below w.heap.size w w' ∧ ∃ t y, e = .returned (.iface t y) ∧ IsVF (w.heap.size ≤ ·) w' (.iface t y) x
theorem made_of {w w' : World} {x : V} {l : Leaf} (h : Below w.heap.size w w') (hx : x = .leaf l) : MadeIs w x (.returned l.val) w' := by
  refine ⟨h, l.ty, l.body, by rw [Leaf.val_eq], ?_⟩
  rw [← Leaf.val_eq, hx]; exact .leaf l
theorem sgn8 (x : Int) : wrap64 (IntKind.u64.wrap (x * 72057594037927936)) / 72057594037927936 = sgnN 8 x := by
  show wrap64 ((x * 72057594037927936) % (2 ^ 64)) / 72057594037927936 = _
  unfold wrap64 sgnN modN; simp; split <;> omega
theorem sgn16 (x : Int) : wrap64 (IntKind.u64.wrap (x * 281474976710656)) / 281474976710656 = sgnN 16 x := by
  show wrap64 ((x * 281474976710656) % (2 ^ 64)) / 281474976710656 = _
  unfold wrap64 sgnN modN; simp; split <;> omega
theorem sgn32 (x : Int) : wrap64 (IntKind.u64.wrap (x * 4294967296)) / 4294967296 = sgnN 32 x := by
  show wrap64 ((x * 4294967296) % (2 ^ 64)) / 4294967296 = _
  unfold wrap64 sgnN modN; simp; split <;> omega
theorem sgn64 (x : Int) : wrap64 (IntKind.u64.wrap x) = sgnN 64 x := by
  show wrap64 (x % (2 ^ 64)) = _
  unfold wrap64 sgnN modN; simp; split <;> omega
theorem _root_.Go.RowKit.Below.drewN {B : Nat} {a w : World} (h : Below B a w) : ∀ n, Below B a (w.drewN n)
  | 0 => h
  | n + 1 => (h.drewN n).drew

set_option maxHeartbeats 4000000 in
theorem made_int (d : D) (w : World) (v : Value) (h : IsD w v d) (h1 : 2 ≤ d.kind) (h2 : d.kind ≤ 6) : Calls Try.prog 42 #[v] w (MadeIs w (leafV d)) := by
  obtain ⟨a5, c5, a6, c6, rfl, hk, hb, hi, ht, hx, hn, hp⟩ := h.open
  have HB := Lib.hid hb
  have HV : Hid (leafV d = .leaf (.int d.base (sgnN (widthK d.kind) d.bits))) := by show _ = _; unfold leafV; rw [if_neg (by omega), if_neg (by omega), if_pos h2]
  clear hp hn hb hi hk ht hx h
  unfold aggD
  obtain ⟨x, hx⟩ : ∃ x, x = leafV d := ⟨_, rfl⟩
  rw [← hx] at HV
  rw [← hx]
  clear hx
  obtain ⟨k, hk⟩ : ∃ k, k = d.kind := ⟨_, rfl⟩
  rw [← hk] at h1 h2
  rw [← hk]
  have HK := Lib.hid hk
  clear hk
  have t0 : (k == 0) = false := by simp; omega
  have t1 : (k == 1) = false := by simp; omega
  go_enter Try.func42, Try.ntmps42
  go_wp2_with fail
  refine (width_any k h1 (by omega) _).mono ?_
  rintro e w2 ⟨rfl, rfl⟩
  have hs : widthK k = 8 ∨ widthK k = 16 ∨ widthK k = 32 ∨ widthK k = 64 := by unfold widthK; split <;> (try split) <;> (try split) <;> omega
  rcases hs with hs | hs | hs | hs
  all_goals
    rw [hs]
    have HS := Lib.hid hs
    clear hs
    go_wp2_with fail
    go_quiet (fail)
    go_wp2_with fail
    refine bodyPost_ret (v := .iface 85 (.agg #[.int .i64 k, .string d.type, .int .i64 d.hook, .int .i64 (sgnN (widthK k) d.bits)])) (by first | (simp [results, Try.f42, go_sem, HS.out, sgn8, sgn16, sgn32]; done) | simp [results, Try.f42, go_sem, HS.out, sgn64]) rfl ?_
    rw [HK.out]
    exact made_of (l := .int d.base (sgnN (widthK d.kind) d.bits)) (((Below.new _).push _).drewN _) HV.out

theorem uns8 (x : Int) : IntKind.u64.wrap (x * 72057594037927936) / 72057594037927936 = unsN 8 x := by
  show (x * 72057594037927936) % (2 ^ 64) / 72057594037927936 = _
  unfold unsN modN; simp; omega
theorem uns16 (x : Int) : IntKind.u64.wrap (x * 281474976710656) / 281474976710656 = unsN 16 x := by
  show (x * 281474976710656) % (2 ^ 64) / 281474976710656 = _
  unfold unsN modN; simp; omega
theorem uns32 (x : Int) : IntKind.u64.wrap (x * 4294967296) / 4294967296 = unsN 32 x := by
  show (x * 4294967296) % (2 ^ 64) / 4294967296 = _
  unfold unsN modN; simp; omega
theorem uns64 (x : Int) : IntKind.u64.wrap x = unsN 64 x := by
  show x % (2 ^ 64) = _
  unfold unsN modN; simp
set_option maxHeartbeats 4000000 in
theorem made_uint (d : D) (w : World) (v : Value) (h : IsD w v d) (h1 : 7 ≤ d.kind) (h2 : d.kind ≤ 11) : Calls Try.prog 42 #[v] w (MadeIs w (leafV d)) := by
  obtain ⟨a5, c5, a6, c6, rfl, hk, hb, hi, ht, hx, hn, hp⟩ := h.open
  have HB := Lib.hid hb
  have HV : Hid (leafV d = .leaf (.uint d.base (unsN (widthK d.kind) d.bits))) := by show _ = _; unfold leafV; rw [if_neg (by omega), if_neg (by omega), if_neg (by omega), if_pos h2]
  clear hp hn hb hi hk ht hx h
  unfold aggD
  obtain ⟨x, hx⟩ : ∃ x, x = leafV d := ⟨_, rfl⟩
  rw [← hx] at HV
  rw [← hx]
  clear hx
  obtain ⟨k, hk⟩ : ∃ k, k = d.kind := ⟨_, rfl⟩
  rw [← hk] at h1 h2
  rw [← hk]
  have HK := Lib.hid hk
  clear hk
  have t0 : (k == 0) = false := by simp; omega
  have t1 : (k == 1) = false := by simp; omega
  have t2 : decide (k ≤ 6) = false := by simp; omega
  have t3 : 2 ≤ k := by omega
  go_enter Try.func42, Try.ntmps42
  go_wp2_with fail
  refine (width_any k (by omega) h2 _).mono ?_
  rintro e w2 ⟨rfl, rfl⟩
  have hs : widthK k = 8 ∨ widthK k = 16 ∨ widthK k = 32 ∨ widthK k = 64 := by unfold widthK; split <;> (try split) <;> (try split) <;> omega
  rcases hs with hs | hs | hs | hs
  all_goals
    rw [hs]
    have HS := Lib.hid hs
    clear hs
    go_wp2_with fail
    go_quiet (fail)
    go_wp2_with fail
    refine bodyPost_ret (v := .iface 87 (.agg #[.int .i64 k, .string d.type, .int .i64 d.hook, .int .u64 (unsN (widthK k) d.bits)])) (by first | (simp [results, Try.f42, go_sem, HS.out, uns8, uns16, uns32]; done) | simp [results, Try.f42, go_sem, HS.out, uns64]) rfl ?_
    rw [HK.out]
    exact made_of (l := .uint d.base (unsN (widthK d.kind) d.bits)) (((Below.new _).push _).drewN _) HV.out
end Go.Proofs.Ythpgnhmikffcpaa
