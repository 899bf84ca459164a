/- The small functions on whole numbers: what each returns, for all arguments that fit. -/
import Derived.Test.YtlfcgbhjmdmocaaProg
import Derived.WalkKit
import Derived.WalkLawsBesides
import Derived.WalkSpells
import Derived.Lib.Hide
import Derived.Deep.QuietTactic
import Derived.BigQuiet
namespace Go.Proofs.Ytlfcgbhjmdmocaa
open Go.RowKit

theorem ret_bool {a b : Bool} (h : a = b) : Ending.returned (.bool a) = .returned (.bool b) := by rw [h]
theorem ret_int {k : IntKind} {a b : Int} (h : a = b) : Ending.returned (.int k a) = .returned (.int k b) := by rw [h]

/-- From low to high. -/
def inR (n lo hi : Int) : Bool := decide (lo ≤ n) && decide (n ≤ hi)
theorem inR_iff {n lo hi : Int} : inR n lo hi = true ↔ lo ≤ n ∧ n ≤ hi := by simp [inR]
/-- A side. -/
def sideB (n : Int) : Bool := n == 1 || n == 2 || n == 4 || n == 8
theorem sideB_iff {n : Int} : sideB n = true ↔ n = 1 ∨ n = 2 ∨ n = 4 ∨ n = 8 := by simp [sideB]; omega
/-- The remainder, at least 0. -/
def wrapH (h : Int) : Int := h % 64
def lessH (h k : Int) : Int := (k - h + 32) % 64 - 32

theorem within_any (n lo hi : Int) (w : World) :
    Calls Try.prog 37 #[.int .i64 n, .int .i64 lo, .int .i64 hi] w fun e w' => e = .returned (.bool (inR n lo hi)) ∧ w = w' := by
  go_enter Try.func37, Try.ntmps37
  go_wp2
  all_goals go_ret
  all_goals exact ⟨ret_bool (by simp [inR]; try omega), rfl⟩

theorem l01In_any (n lo hi : Int) (w : World) :
    Calls Try.prog 46 #[.int .i64 n, .int .i64 lo, .int .i64 hi] w fun e w' => e = .returned (.bool (inR n lo hi)) ∧ w = w' := by
  go_enter Try.func46, Try.ntmps46
  go_wp2
  all_goals go_ret
  all_goals exact ⟨ret_bool (by simp [inR]; try omega), rfl⟩

theorem isSide_any (n : Int) (w : World) :
    Calls Try.prog 56 #[.int .i64 n] w fun e w' => e = .returned (.bool (sideB n)) ∧ w = w' := by
  go_enter Try.func56, Try.ntmps56
  go_wp2
  all_goals go_ret
  all_goals exact ⟨ret_bool (by simp_all [sideB]), rfl⟩

theorem l01Side_any (n : Int) (w : World) :
    Calls Try.prog 38 #[.int .i64 n] w fun e w' => e = .returned (.bool (sideB n)) ∧ w = w' := by
  go_enter Try.func38, Try.ntmps38
  go_wp2
  all_goals go_ret
  all_goals exact ⟨ret_bool (by simp_all [sideB]), rfl⟩

theorem mod_val (k n : Int) (hn : 1 ≤ n) : (k.tmod n + n) % n = k % n := by
  rw [Int.add_emod_right]
  have h := Int.tmod_add_mul_tdiv k n
  conv => rhs; rw [← h]
  simp

theorem modulo_any (k n : Int) (w : World) (hk : -1000000000000 ≤ k) (hk' : k ≤ 1000000000000) (hn : 1 ≤ n) (hn' : n ≤ 1000000000000) :
    Calls Try.prog 33 #[.int .i64 k, .int .i64 n] w fun e w' => e = .returned (.int .i64 (k % n)) ∧ w = w' := by
  have h1 : -n < k.tmod n := by have := Int.lt_tmod_of_pos k (show 0 < n by omega); omega
  have h2 : k.tmod n < n := Int.tmod_lt_of_pos k (by omega)
  have h3 : 0 ≤ k.tmod n + n := by omega
  go_enter Try.func33, Try.ntmps33
  go_wp2
  all_goals go_ret
  all_goals exact ⟨ret_int (mod_val k n hn), rfl⟩

theorem isPart_any (k : Int) (w : World) :
    Calls Try.prog 54 #[.int .i64 k] w fun e w' => e = .returned (.bool (inR k 0 63)) ∧ w = w' := by
  go_enter Try.func54, Try.ntmps54
  go_wp2_with (go_at_call 37; refine (within_any _ _ _ _).mono ?_; rintro e w' ⟨rfl, rfl⟩)
  go_ret
  exact ⟨rfl, rfl⟩

theorem isHeight_any (k : Int) (w : World) :
    Calls Try.prog 47 #[.int .i64 k] w fun e w' => e = .returned (.bool (inR k (-100000) 100000)) ∧ w = w' := by
  go_enter Try.func47, Try.ntmps47
  go_wp2_with (go_at_call 37; refine (within_any _ _ _ _).mono ?_; rintro e w' ⟨rfl, rfl⟩)
  go_ret
  exact ⟨rfl, rfl⟩

theorem step_any (h k : Int) (w : World) (a : -1000000 ≤ h) (b : h ≤ 1000000) (c : -1000000 ≤ k) (d : k ≤ 1000000) :
    Calls Try.prog 28 #[.int .i64 h, .int .i64 k] w fun e w' => e = .returned (.int .i64 (lessH h k)) ∧ w = w' := by
  go_enter Try.func28, Try.ntmps28
  go_wp2_with (go_at_call 33; refine (modulo_any _ _ _ (by omega) (by omega) (by omega) (by omega)).mono ?_; rintro e w' ⟨rfl, rfl⟩)
  go_ret
  exact ⟨rfl, rfl⟩

theorem l07Wrap_any (h : Int) (w : World) :
    Calls Try.prog 51 #[.int .i64 h] w fun e w' => e = .returned (.int .i64 (wrapH h)) ∧ w = w' := by
  have h1 : -64 < h.tmod 64 := Int.lt_tmod_of_pos h (show (0 : Int) < 64 by omega)
  have h2 : h.tmod 64 < 64 := Int.tmod_lt_of_pos h (by omega)
  have h3 : 0 ≤ h.tmod 64 + 64 := by omega
  go_enter Try.func51, Try.ntmps51
  go_wp2
  all_goals go_ret
  all_goals exact ⟨ret_int (mod_val h 64 (by omega)), rfl⟩

theorem l07Less_any (h k : Int) (w : World) (a : -1000000 ≤ h) (b : h ≤ 1000000) (c : -1000000 ≤ k) (d : k ≤ 1000000) :
    Calls Try.prog 31 #[.int .i64 h, .int .i64 k] w fun e w' => e = .returned (.int .i64 (lessH h k)) ∧ w = w' := by
  have h1 : ∀ x : Int, 0 ≤ wrapH x ∧ wrapH x ≤ 63 := fun x => by unfold wrapH; omega
  have h2 := h1 (k - h + 32)
  go_enter Try.func31, Try.ntmps31
  go_wp2_with (go_at_call 51; refine (l07Wrap_any _ _).mono ?_; rintro e w' ⟨rfl, rfl⟩)
  go_ret
  exact ⟨ret_int (by simp [lessH, wrapH]), rfl⟩

/-- A wrapped difference, and its code. -/
def wdVal (h k : Int) : Int := if inR h (-100000) 100000 = true ∧ inR k (-100000) 100000 = true then lessH h k else 0
def wdCode (h k : Int) : Int := if inR h (-100000) 100000 = true ∧ inR k (-100000) 100000 = true then 0 else 2

theorem wrappedDifference_any (h k : Int) (w : World) :
    Calls Try.prog 17 #[.int .i64 h, .int .i64 k] w fun e w' => e = .returned (.tuple #[.int .i64 (wdVal h k), .int .i64 (wdCode h k)]) ∧ w = w' := by
  by_cases a : inR h (-100000) 100000 = true
  · by_cases b : inR k (-100000) 100000 = true
    · have a' := inR_iff.1 a
      have b' := inR_iff.1 b
      have e1 : wdVal h k = lessH h k := by simp [wdVal, a, b]
      have e2 : wdCode h k = 0 := by simp [wdCode, a, b]
      rw [e1, e2]
      go_enter Try.func17, Try.ntmps17
      go_wp2_with (first | (go_at_call 47; refine (isHeight_any _ _).mono ?_; rintro e w' ⟨rfl, rfl⟩) | (go_at_call 28; refine (step_any _ _ _ (by omega) (by omega) (by omega) (by omega)).mono ?_; rintro e w' ⟨rfl, rfl⟩))
      go_ret2
      exact ⟨rfl, rfl⟩
    · have b' : inR k (-100000) 100000 = false := by simpa using b
      have e1 : wdVal h k = 0 := by simp [wdVal, b']
      have e2 : wdCode h k = 2 := by simp [wdCode, b']
      rw [e1, e2]
      go_enter Try.func17, Try.ntmps17
      go_wp2_with (first | (go_at_call 47; refine (isHeight_any _ _).mono ?_; rintro e w' ⟨rfl, rfl⟩))
      go_ret2
      exact ⟨rfl, rfl⟩
  · have a' : inR h (-100000) 100000 = false := by simpa using a
    have e1 : wdVal h k = 0 := by simp [wdVal, a']
    have e2 : wdCode h k = 2 := by simp [wdCode, a']
    rw [e1, e2]
    go_enter Try.func17, Try.ntmps17
    go_wp2_with (first | (go_at_call 47; refine (isHeight_any _ _).mono ?_; rintro e w' ⟨rfl, rfl⟩))
    go_ret2
    exact ⟨rfl, rfl⟩

theorem wrappedDifferenceS_any (h k : Int) (w : World) :
    Calls Try.prog 18 #[.int .i64 h, .int .i64 k] w fun e w' => e = .returned (.tuple #[.int .i64 (wdVal h k), .int .i64 (wdCode h k)]) ∧ w = w' := by
  by_cases a : inR h (-100000) 100000 = true
  · by_cases b : inR k (-100000) 100000 = true
    · have a' := inR_iff.1 a
      have b' := inR_iff.1 b
      have e1 : wdVal h k = lessH h k := by simp [wdVal, a, b]
      have e2 : wdCode h k = 0 := by simp [wdCode, a, b]
      rw [e1, e2]
      go_enter Try.func18, Try.ntmps18
      go_wp2_with (first | (go_at_call 46; refine (l01In_any _ _ _ _).mono ?_; rintro e w' ⟨rfl, rfl⟩) | (go_at_call 31; refine (l07Less_any _ _ _ (by omega) (by omega) (by omega) (by omega)).mono ?_; rintro e w' ⟨rfl, rfl⟩))
      go_ret2
      exact ⟨rfl, rfl⟩
    · have b' : inR k (-100000) 100000 = false := by simpa using b
      have e1 : wdVal h k = 0 := by simp [wdVal, b']
      have e2 : wdCode h k = 2 := by simp [wdCode, b']
      rw [e1, e2]
      go_enter Try.func18, Try.ntmps18
      go_wp2_with (first | (go_at_call 46; refine (l01In_any _ _ _ _).mono ?_; rintro e w' ⟨rfl, rfl⟩))
      go_ret2
      exact ⟨rfl, rfl⟩
  · have a' : inR h (-100000) 100000 = false := by simpa using a
    have e1 : wdVal h k = 0 := by simp [wdVal, a']
    have e2 : wdCode h k = 2 := by simp [wdCode, a']
    rw [e1, e2]
    go_enter Try.func18, Try.ntmps18
    go_wp2_with (first | (go_at_call 46; refine (l01In_any _ _ _ _).mono ?_; rintro e w' ⟨rfl, rfl⟩))
    go_ret2
    exact ⟨rfl, rfl⟩

end Go.Proofs.Ytlfcgbhjmdmocaa
