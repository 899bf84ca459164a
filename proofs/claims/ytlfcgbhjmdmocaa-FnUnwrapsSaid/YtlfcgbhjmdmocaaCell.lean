/- Complex numbers: finite ones; waves as values and in memory. -/
import Derived.Test.YtlfcgbhjmdmocaaFloat
import Derived.Test.YtlfcgbhjmdmocaaInts
import Derived.Deep.MidRow
namespace Go.Proofs.Ytlfcgbhjmdmocaa
open Go.RowKit

abbrev cx (z : Nat × Nat) : Value := .complex .f32 z.1 z.2

set_option maxHeartbeats 1000000 in
theorem isComplex_any (z : Nat × Nat) (w : World) : Calls Try.prog 58 #[.complex .f32 z.1 z.2] w fun e w' => e = .returned (.bool (finC z)) ∧ Below w.heap.size w w' := by
  cases h : fin z.1 with
  | true =>
    cases h2 : fin z.2 with
    | true =>
      have hv : finC z = true := by simp [finC, h, h2]
      rw [hv]
      have H := Lib.hid h
      have H2 := Lib.hid h2
      clear h h2 hv
      go_enter Try.func58, Try.ntmps58
      go_wp2_with fail
      refine (isNumber_any z.1 _).mono ?_
      rintro e w1 ⟨rfl, hb1⟩
      rw [H.out]
      go_wp2_with fail
      refine (isNumber_any z.2 _).mono ?_
      rintro e w2 ⟨rfl, hb2⟩
      rw [H2.out]
      go_wp2_with fail
      go_ret
      exact ⟨rfl, hb1.trans (hb2.mono hb1.size)⟩
    | false =>
      have hv : finC z = false := by simp [finC, h, h2]
      rw [hv]
      have H := Lib.hid h
      have H2 := Lib.hid h2
      clear h h2 hv
      go_enter Try.func58, Try.ntmps58
      go_wp2_with fail
      refine (isNumber_any z.1 _).mono ?_
      rintro e w1 ⟨rfl, hb1⟩
      rw [H.out]
      go_wp2_with fail
      refine (isNumber_any z.2 _).mono ?_
      rintro e w2 ⟨rfl, hb2⟩
      rw [H2.out]
      go_wp2_with fail
      go_ret
      exact ⟨rfl, hb1.trans (hb2.mono hb1.size)⟩
  | false =>
    have hv : finC z = false := by simp [finC, h]
    rw [hv]
    have H := Lib.hid h
    clear h hv
    go_enter Try.func58, Try.ntmps58
    go_wp2_with fail
    refine (isNumber_any z.1 _).mono ?_
    rintro e w1 ⟨rfl, hb1⟩
    rw [H.out]
    go_wp2_with fail
    go_ret
    exact ⟨rfl, hb1⟩

set_option maxHeartbeats 1000000 in
theorem l01Whole_any (z : Nat × Nat) (w : World) : Calls Try.prog 80 #[.complex .f32 z.1 z.2] w fun e w' => e = .returned (.bool (finC z)) ∧ Below w.heap.size w w' := by
  cases h : fin z.1 with
  | true =>
    cases h2 : fin z.2 with
    | true =>
      have hv : finC z = true := by simp [finC, h, h2]
      rw [hv]
      have H := Lib.hid h
      have H2 := Lib.hid h2
      clear h h2 hv
      go_enter Try.func80, Try.ntmps80
      go_wp2_with fail
      refine (l01Fine_any z.1 _).mono ?_
      rintro e w1 ⟨rfl, hb1⟩
      rw [H.out]
      go_wp2_with fail
      refine (l01Fine_any z.2 _).mono ?_
      rintro e w2 ⟨rfl, hb2⟩
      rw [H2.out]
      go_wp2_with fail
      go_ret
      exact ⟨rfl, hb1.trans (hb2.mono hb1.size)⟩
    | false =>
      have hv : finC z = false := by simp [finC, h, h2]
      rw [hv]
      have H := Lib.hid h
      have H2 := Lib.hid h2
      clear h h2 hv
      go_enter Try.func80, Try.ntmps80
      go_wp2_with fail
      refine (l01Fine_any z.1 _).mono ?_
      rintro e w1 ⟨rfl, hb1⟩
      rw [H.out]
      go_wp2_with fail
      refine (l01Fine_any z.2 _).mono ?_
      rintro e w2 ⟨rfl, hb2⟩
      rw [H2.out]
      go_wp2_with fail
      go_ret
      exact ⟨rfl, hb1.trans (hb2.mono hb1.size)⟩
  | false =>
    have hv : finC z = false := by simp [finC, h]
    rw [hv]
    have H := Lib.hid h
    clear h hv
    go_enter Try.func80, Try.ntmps80
    go_wp2_with fail
    refine (l01Fine_any z.1 _).mono ?_
    rintro e w1 ⟨rfl, hb1⟩
    rw [H.out]
    go_wp2_with fail
    go_ret
    exact ⟨rfl, hb1⟩

/-- The cells of a wave: its side, its 64 numbers. -/
def warr (n : Int) (c : Nat → Nat × Nat) : Array Value := (Value.int .i64 n :: (List.range 64).map (fun i => cx (c i))).toArray
/-- The numbers alone. -/
def wcells (c : Nat → Nat × Nat) : Array Value := ((List.range 64).map (fun i => cx (c i))).toArray

theorem warr_size (n : Int) (c : Nat → Nat × Nat) : (warr n c).size = 65 := by simp [warr]
theorem wcells_size (c : Nat → Nat × Nat) : (wcells c).size = 64 := by simp [wcells]
theorem warr_zero (n : Int) (c : Nat → Nat × Nat) : (warr n c)[0]? = some (.int .i64 n) := by simp [warr]
theorem warr_cell (n : Int) (c : Nat → Nat × Nat) (i : Nat) (h : i < 64) : (warr n c)[1 + i]? = some (cx (c i)) := by
  rw [Nat.add_comm]; simp [warr, h]
theorem wcells_cell (c : Nat → Nat × Nat) (i : Nat) (h : i < 64) : (wcells c)[i]? = some (cx (c i)) := by simp [wcells, h]
theorem warr_one (n : Int) (c : Nat → Nat × Nat) : (warr n c).all (·.oneCell') = true := by
  rw [Array.all_eq_true_iff_forall_mem]
  intro v hv
  simp only [warr, List.mem_toArray, List.mem_cons, List.mem_map] at hv
  rcases hv with rfl | ⟨i, _, rfl⟩ <;> rfl
/-- A cell's number put in. -/
def upd (c : Nat → Nat × Nat) (i : Nat) (z : Nat × Nat) : Nat → Nat × Nat := fun j => if j = i then z else c j
theorem warr_set (n : Int) (c : Nat → Nat × Nat) (i : Nat) (z : Nat × Nat) (h : i < 64) : (warr n c).setIfInBounds (1 + i) (cx z) = warr n (upd c i z) := by
  apply Array.ext_getElem?
  intro j
  rw [Array.getElem?_setIfInBounds]
  rcases Nat.eq_zero_or_pos j with rfl | hj
  · rw [if_neg (by omega), warr_zero, warr_zero]
  · obtain ⟨k, rfl⟩ : ∃ k, j = 1 + k := ⟨j - 1, by omega⟩
    by_cases hk : k < 64
    · rw [warr_cell _ _ _ hk]
      by_cases e : k = i
      · subst e
        rw [if_pos rfl, warr_size, if_pos (by omega), warr_cell _ _ _ hk]
        simp [upd]
      · rw [if_neg (by omega), warr_cell _ _ _ hk]
        simp [upd, e]
    · rw [if_neg (by omega)]
      rw [Array.getElem?_eq_none (by rw [warr_size]; omega), Array.getElem?_eq_none (by rw [warr_size]; omega)]
theorem warr_ext {n : Int} {c d : Nat → Nat × Nat} (h : ∀ i, i < 64 → c i = d i) : warr n c = warr n d := by
  unfold warr
  congr 2
  exact List.map_congr_left fun i hi => by rw [h i (List.mem_range.1 hi)]

/-- Is it a wave? -/
def cellOk (n : Int) (c : Nat → Nat × Nat) (i : Nat) : Bool := finC (c i) && (decide ((i : Int) < n * n) || zC (c i))
def waveB (n : Int) (c : Nat → Nat × Nat) : Bool := sideB n && (List.range 64).all (cellOk n c)

end Go.Proofs.Ytlfcgbhjmdmocaa
