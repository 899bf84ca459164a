/- Maps unwrapped along rows: the list, its length, its bounds. -/
import Derived.Test.YtlfcgbhjmdmocaaClone
namespace Go.Proofs.Ytlfcgbhjmdmocaa
open Go.RowKit

def rowsStep (n : Nat) (zs out : List Int) (k : Nat) : Int :=
  if k = 0 then zs.getD 0 0 else if k % n = 0 then out.getD (k - n) 0 + lessH (zs.getD (k - n) 0) (zs.getD k 0) else out.getD (k - 1) 0 + lessH (zs.getD (k - 1) 0) (zs.getD k 0)
def rowsTo (n : Nat) (zs : List Int) : Nat → List Int
  | 0 => []
  | k + 1 => rowsTo n zs k ++ [rowsStep n zs (rowsTo n zs k) k]

theorem rowsTo_length (n : Nat) (zs : List Int) (k : Nat) : (rowsTo n zs k).length = k := by
  induction k with
  | zero => rfl
  | succ k ih => simp [rowsTo, ih]

theorem lessH_bd (h k : Int) : -32 ≤ lessH h k ∧ lessH h k ≤ 31 := by unfold lessH; omega

theorem getD_append_lt (xs ys : List Int) (j : Nat) (h : j < xs.length) : (xs ++ ys).getD j 0 = xs.getD j 0 := by
  simp [List.getD_eq_getElem?_getD, List.getElem?_append_left h]
theorem getD_append_ge (xs ys : List Int) (j : Nat) (h : xs.length ≤ j) : (xs ++ ys).getD j 0 = ys.getD (j - xs.length) 0 := by
  simp [List.getD_eq_getElem?_getD, List.getElem?_append_right h]

theorem rowsTo_succ_lt (n : Nat) (zs : List Int) (k j : Nat) (h : j < k) : (rowsTo n zs (k + 1)).getD j 0 = (rowsTo n zs k).getD j 0 := by
  rw [rowsTo, getD_append_lt _ _ _ (by rw [rowsTo_length]; exact h)]
theorem rowsTo_at (n : Nat) (zs : List Int) (k : Nat) : (rowsTo n zs (k + 1)).getD k 0 = rowsStep n zs (rowsTo n zs k) k := by
  rw [rowsTo, getD_append_ge _ _ _ (by rw [rowsTo_length]; exact Nat.le_refl _), rowsTo_length]; simp

theorem rowsTo_bd (n : Nat) (hn : 1 ≤ n) (zs : List Int) (h0 : 0 ≤ zs.getD 0 0 ∧ zs.getD 0 0 ≤ 63) (k : Nat) : ∀ j, j < k → -32 * (j : Int) ≤ (rowsTo n zs k).getD j 0 ∧ (rowsTo n zs k).getD j 0 ≤ 63 + 31 * (j : Int) := by
  induction k with
  | zero => intro j hj; omega
  | succ k ih =>
    intro j hj
    by_cases e : j < k
    · rw [rowsTo_succ_lt n zs k j e]; exact ih j e
    · have hjk : j = k := by omega
      subst hjk
      rw [rowsTo_at]
      unfold rowsStep
      split
      · rename_i h; subst h; simpa using h0
      · rename_i hk
        split
        · rename_i hm
          have hnk : n ≤ j := by
            rcases Nat.lt_or_ge j n with h | h
            · rw [Nat.mod_eq_of_lt h] at hm; omega
            · exact h
          have := ih (j - n) (by omega)
          have := lessH_bd (zs.getD (j - n) 0) (zs.getD j 0)
          omega
        · have := ih (j - 1) (by omega)
          have := lessH_bd (zs.getD (j - 1) 0) (zs.getD j 0)
          omega

/-- The whole map. -/
def rowsOut (n : Int) (zs : List Int) : List Int := rowsTo n.toNat zs zs.length
/-- What is handed back. -/
def rowsRes (n : Int) (zs : List Int) : List Int := if wcode n zs = 0 then rowsOut n zs else []

/-- What a wrapped map is. -/
theorem wcode_zero {n : Int} {zs : List Int} (h : wcode n zs = 0) : sideB n = true ∧ (zs.length : Int) = n * n ∧ ∀ z ∈ zs, 0 ≤ z ∧ z ≤ 63 := by
  unfold wcode at h
  split at h
  · rename_i hm
    split at h
    · omega
    · rename_i ha
      simp only [hmB, Bool.and_eq_true, beq_iff_eq] at hm
      refine ⟨hm.1.1, hm.1.2, fun z hz => ?_⟩
      have : ¬ outR 0 63 z = true := fun hc => ha (List.any_eq_true.2 ⟨z, hz, hc⟩)
      simp [outR, inR] at this
      omega
  · omega
theorem getD_bd {zs : List Int} (h : ∀ z ∈ zs, 0 ≤ z ∧ z ≤ 63) (j : Nat) : 0 ≤ zs.getD j 0 ∧ zs.getD j 0 ≤ 63 := by
  rcases Nat.lt_or_ge j zs.length with hj | hj
  · exact h _ (getD_mem' zs j hj)
  · simp [List.getD_eq_getElem?_getD, List.getElem?_eq_none hj]

theorem hsB_rows (n : Int) (hn : 1 ≤ n) (zs : List Int) (h0 : 0 ≤ zs.getD 0 0 ∧ zs.getD 0 0 ≤ 63) (hl : zs.length ≤ 64) : hsB (rowsOut n zs) = false := by
  unfold hsB
  rw [List.any_eq_false]
  intro x hx
  obtain ⟨j, hj, rfl⟩ := List.mem_iff_getElem.1 hx
  have hlen : j < zs.length := by simpa [rowsOut, rowsTo_length] using hj
  have := rowsTo_bd n.toNat (by omega) zs h0 zs.length j hlen
  have e : (rowsOut n zs).getD j 0 = (rowsOut n zs)[j] := by simp [List.getD_eq_getElem?_getD, hj]
  unfold rowsOut at e ⊢
  rw [← e]
  generalize (rowsTo n.toNat zs zs.length).getD j 0 = x at this ⊢
  simp [outR, inR]
  omega

end Go.Proofs.Ytlfcgbhjmdmocaa
