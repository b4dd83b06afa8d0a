/- The library's stable sort at a map's entries: fewer than 40. -/
import Derived.Test.YthpgnhmikffcpaaZS5
namespace Go.Proofs.Ythpgnhmikffcpaa
set_option linter.unusedVariables false
open Go.RowKit

set_option maxHeartbeats 16000000 in
set_option maxRecDepth 100000 in
theorem stable_any {W0 : World} {B g n cap : Nat} (f : Nat → Ent) (w : World) (h : St W0 B g n f w) (hok : OkE n f) (hn : n < 40) :
    Calls Try.prog 79 #[.slice (some ⟨g, 0, none⟩) n cap, .int .i64 n, .func (.func 71) #[] #[]] w (SortPost W0 B g n f 0 n) := by
  have HS : Hid (InsAt W0 B g n f 0 n f w) := .mk' h hok
  have hn' : n < 1000 := by omega
  clear h hok
  go_enter Try.func79, Try.ntmps79
  go_wp2_with fail
  go_loopw [7, 8] (fun va vb wr => ∃ (k : Nat) (q : Nat → Ent), va = .int .i64 ((k * 20 : Nat) : Int) ∧ vb = .int .i64 ((k * 20 + 20 : Nat) : Int) ∧ k ≤ 1 ∧ Hid (k = 1 → 20 ≤ n ∧ Srt ltE q 0 20) ∧ Hid (InsAt W0 B g n f 0 n q wr)) (fun va _ _ => 40 - (intOf va).toNat)
  case atStart => exact ⟨0, f, rfl, rfl, by omega, fun h => by omega, HS.out⟩
  case round =>
    obtain ⟨k, q, rfl, rfl, hk, HK, HI⟩ := hrel
    by_cases hk0 : k = 0
    · subst hk0
      by_cases h20 : 20 ≤ n
      · have h20' : (20 : Int) ≤ (n : Int) := by omega
        go_wp2_with fail
        refine (insertion_any q 0 20 cap _ HI.out.st HI.out.ok (by omega) (by omega) hn').mono ?_
        rintro e w1 ⟨rfl, q1, k1, k2, k3, k4⟩
        have K1 := Lib.hid k1
        have K2 := Lib.hid k2
        have K3 := Lib.hid k3
        have K4 := Lib.hid k4
        clear k1 k2 k3 k4
        go_wp2_with fail
        go_roundw
        case rel => exact ⟨1, q1, rfl, rfl, by omega, fun _ => ⟨h20, K4.out⟩, HI.out.further K1.out K2.out K3.out (Nat.le_refl _) (by omega) (Nat.le_refl _)⟩
        case measure => simp [intOf]
      · have h20' : ¬ (20 : Int) ≤ (n : Int) := by omega
        go_wp2_with fail
        refine (insertion_any q 0 n cap _ HI.out.st HI.out.ok (by omega) (by omega) hn').mono ?_
        rintro e w1 ⟨rfl, q1, k1, k2, k3, k4⟩
        have K1 := Lib.hid k1
        have K2 := Lib.hid k2
        have K3 := Lib.hid k3
        have K4 := Lib.hid k4
        clear k1 k2 k3 k4
        have hl : ¬ (20 : Int) < (n : Int) := by omega
        go_wp2_with fail
        go_loopw [6, 7, 8, 9] (fun v6 _ _ _ wr => v6 = .int .i64 20 ∧ Hid (InsAt W0 B g n f 0 n q1 wr)) (fun _ _ _ _ _ => 0)
        case atStart => exact ⟨rfl, HI.out.further K1.out K2.out K3.out (Nat.le_refl _) (Nat.le_refl _) (Nat.le_refl _)⟩
        case round =>
          obtain ⟨rfl, HI⟩ := hrel
          go_wp2_with fail
          go_end0
          exact ⟨rfl, q1, HI.out.st, HI.out.mx, HI.out.pm, K4.out⟩
    · obtain rfl : k = 1 := by omega
      obtain ⟨h20, HS20⟩ := HK.out rfl
      have HSS := Lib.hid HS20
      clear HS20
      have h40 : ¬ (40 : Int) ≤ (n : Int) := by omega
      go_wp2_with fail
      refine (insertion_any q 20 n cap _ HI.out.st HI.out.ok (by omega) (by omega) hn').mono ?_
      rintro e w1 ⟨rfl, q1, k1, k2, k3, k4⟩
      have K1 := Lib.hid k1
      have K2 := Lib.hid k2
      have K3 := Lib.hid k3
      have K4 := Lib.hid k4
      clear k1 k2 k3 k4
      go_wp2_with fail
      go_loopw [6, 7, 8, 9] (fun v6 _ _ _ wr => ∃ (k : Nat) (p : Nat → Ent), v6 = .int .i64 ((k * 20 : Nat) : Int) ∧ (k = 1 ∨ k = 2) ∧ Hid (k = 1 → Srt ltE p 0 20 ∧ Srt ltE p 20 n) ∧ Hid (k = 2 → Srt ltE p 0 n) ∧ Hid (InsAt W0 B g n f 0 n p wr)) (fun v6 _ _ _ _ => 60 - (intOf v6).toNat)
      case atStart =>
        exact ⟨1, q1, rfl, .inl rfl, fun _ => ⟨HSS.out.congr fun k x y => K2.out.1 k (by omega), K4.out⟩, fun h => by omega, HI.out.further K1.out K2.out K3.out (by omega) (Nat.le_refl _) (Nat.le_refl _)⟩
      case round =>
        obtain ⟨k, p, rfl, hk, HA, HB, HI⟩ := hrel
        by_cases hk1 : k = 1
        · subst hk1
          obtain ⟨s1, s2⟩ := HA.out rfl
          have S1 := Lib.hid s1
          have S2 := Lib.hid s2
          clear s1 s2
          by_cases hlt : 20 < n
          · have hlt' : (20 : Int) < (n : Int) := by omega
            go_wp2_with fail
            go_loopw [7, 8] (fun va vb wr => va = .int .i64 0 ∧ vb = .int .i64 40 ∧ Hid (InsAt W0 B g n f 0 n p wr)) (fun _ _ _ => 0)
            case atStart => exact ⟨rfl, rfl, HI.out⟩
            case round =>
              obtain ⟨rfl, rfl, HI⟩ := hrel
              go_wp2_with fail
              refine (merge_any hn' n p 0 20 n _ (by omega) HI.out.st HI.out.ok (by omega) hlt (Nat.le_refl _) S1.out S2.out).mono ?_
              rintro e w1 ⟨rfl, q2, k1, k2, k3, k4⟩
              have K1 := Lib.hid k1
              have K2 := Lib.hid k2
              have K3 := Lib.hid k3
              have K4 := Lib.hid k4
              clear k1 k2 k3 k4
              go_wp2_with fail
              go_roundw
              case rel => exact ⟨2, q2, rfl, .inr rfl, fun h => by omega, fun _ => K4.out, HI.out.further K1.out K2.out K3.out (Nat.le_refl _) (Nat.le_refl _) (Nat.le_refl _)⟩
              case measure => simp [intOf]
          · have hlt' : ¬ (20 : Int) < (n : Int) := by omega
            have hn20 : n = 20 := by omega
            have HN := Lib.hid hn20
            clear hn20
            go_wp2_with fail
            go_end0
            exact ⟨rfl, p, HI.out.st, HI.out.mx, HI.out.pm, by rw [HN.out]; exact S1.out⟩
        · obtain rfl : k = 2 := by omega
          have hlt' : ¬ (40 : Int) < (n : Int) := by omega
          go_wp2_with fail
          go_end0
          exact ⟨rfl, p, HI.out.st, HI.out.mx, HI.out.pm, HB.out trivial⟩

theorem sort_any {W0 : World} {B g n cap : Nat} (f : Nat → Ent) (w : World) (h : St W0 B g n f w) (hok : OkE n f) (hn : n < 40) :
    Calls Try.prog 70 #[.slice (some ⟨g, 0, none⟩) n cap, .func (.func 71) #[] #[]] w (SortPost W0 B g n f 0 n) := by
  have HS := Lib.hid h
  have HO := Lib.hid hok
  clear h hok
  go_enter Try.func70, Try.ntmps70
  go_wp2_with fail
  refine (stable_any f _ HS.out HO.out hn).mono ?_
  rintro e w1 ⟨rfl, k1⟩
  have K1 := Lib.hid k1
  clear k1
  go_wp2_with fail
  go_end0
  exact ⟨rfl, K1.out⟩
/-- A slice without entries. -/
theorem insertion_none {a : Option Addr} {cap : Nat} (w : World) : Calls Try.prog 82 #[.slice a 0 cap, .int .i64 0, .int .i64 0, .func (.func 71) #[] #[]] w fun e w' => e = .returned (.tuple #[]) ∧ w' = w := by
  go_enter Try.func82, Try.ntmps82
  go_wp2_with fail
  go_loopw [8, 9] (fun vi vj wr => vi = .int .i64 1 ∧ wr = w) (fun _ _ _ => 0)
  case atStart => exact ⟨rfl, rfl⟩
  case round =>
    obtain ⟨rfl, rfl⟩ := hrel
    go_wp2_with fail
    go_end0
    exact ⟨rfl, rfl⟩
theorem stable_none {a : Option Addr} {cap : Nat} (w : World) : Calls Try.prog 79 #[.slice a 0 cap, .int .i64 0, .func (.func 71) #[] #[]] w fun e w' => e = .returned (.tuple #[]) ∧ w' = w := by
  go_enter Try.func79, Try.ntmps79
  go_wp2_with fail
  go_loopw [7, 8] (fun va vb wr => va = .int .i64 0 ∧ vb = .int .i64 20 ∧ wr = w) (fun _ _ _ => 0)
  case atStart => exact ⟨rfl, rfl, rfl⟩
  case round =>
    obtain ⟨rfl, rfl, rfl⟩ := hrel
    go_wp2_with fail
    refine (insertion_none _).mono ?_
    rintro e w1 ⟨rfl, rfl⟩
    go_wp2_with fail
    go_loopw [6, 7, 8, 9] (fun v6 _ _ _ wr => v6 = .int .i64 20 ∧ wr = w1) (fun _ _ _ _ _ => 0)
    case atStart => exact ⟨rfl, rfl⟩
    case round =>
      obtain ⟨rfl, rfl⟩ := hrel
      go_wp2_with fail
      go_end0
      exact ⟨rfl, rfl⟩
theorem sort_none {a : Option Addr} {cap : Nat} (w : World) : Calls Try.prog 70 #[.slice a 0 cap, .func (.func 71) #[] #[]] w fun e w' => e = .returned (.tuple #[]) ∧ w' = w := by
  go_enter Try.func70, Try.ntmps70
  go_wp2_with fail
  refine (stable_none w).mono ?_
  rintro e w1 ⟨rfl, rfl⟩
  go_wp2_with fail
  go_end0
  exact ⟨rfl, rfl⟩
end Go.Proofs.Ythpgnhmikffcpaa
