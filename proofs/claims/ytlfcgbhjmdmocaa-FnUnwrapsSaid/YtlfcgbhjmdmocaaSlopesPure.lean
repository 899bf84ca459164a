/- Slopes: the lists of steps along rows and columns; of a plane they are its slopes. -/
import Derived.Test.YtlfcgbhjmdmocaaFloodAll
import Derived.Test.YtlfcgbhjmdmocaaMostPure
namespace Go.Proofs.Ytlfcgbhjmdmocaa
open Go.RowKit

def sloR (m : Nat) (zs : List Int) : Nat → List Int
  | 0 => []
  | k + 1 => if k % m + 1 < m then sloR m zs k ++ [zs.getD (k + 1) 0 - zs.getD k 0] else sloR m zs k
def sloC (m : Nat) (zs : List Int) : Nat → List Int
  | 0 => []
  | k + 1 => if k / m + 1 < m then sloC m zs k ++ [zs.getD (k + m) 0 - zs.getD k 0] else sloC m zs k
def sloRes (n : Int) (zs : List Int) : List Int := if hmB n zs = true then [mostOf (sloR n.toNat zs zs.length), mostOf (sloC n.toNat zs zs.length)] else []

theorem sloR_len (m : Nat) (zs : List Int) (k : Nat) : (sloR m zs k).length ≤ k := by
  induction k with
  | zero => exact Nat.le_refl _
  | succ k ih =>
    by_cases h : k % m + 1 < m
    · rw [sloR, if_pos h, List.length_append, List.length_singleton]; omega
    · rw [sloR, if_neg h]; omega
theorem sloC_len (m : Nat) (zs : List Int) (k : Nat) : (sloC m zs k).length ≤ k := by
  induction k with
  | zero => exact Nat.le_refl _
  | succ k ih =>
    by_cases h : k / m + 1 < m
    · rw [sloC, if_pos h, List.length_append, List.length_singleton]; omega
    · rw [sloC, if_neg h]; omega

theorem most_all (zs : List Int) (u : Int) (h : ∀ x ∈ zs, x = u) (hne : zs ≠ []) : mostOf zs = u := by
  rcases mostOf_is zs with ⟨h0, _⟩ | ⟨hm, _⟩
  · exact absurd h0 hne
  · exact h _ hm

theorem next_lt (n k : Nat) (h : k < n * n) (h2 : k % n + 1 < n) : k + 1 < n * n := by
  have h1 := Nat.div_add_mod k n
  have h3 := div_lt_side n k h
  have h4 := Nat.mul_le_mul_left n (show k / n + 1 ≤ n by omega)
  rw [Nat.mul_add, Nat.mul_one] at h4
  omega
theorem below_lt (n k : Nat) (hn : 1 ≤ n) (h2 : k / n + 1 < n) : k + n < n * n := by
  have h1 := Nat.div_add_mod k n
  have h3 : k % n < n := Nat.mod_lt _ hn
  have h4 := Nat.mul_le_mul_left n (show k / n + 2 ≤ n by omega)
  rw [Nat.mul_add] at h4
  omega

theorem plane_slopes (n : Nat) (hn : 2 ≤ n) (u v : Int) : mostOf (sloR n (planeTo n u v (n * n)) (n * n)) = u ∧ mostOf (sloC n (planeTo n u v (n * n)) (n * n)) = v := by
  have h1 : ∀ k, k ≤ n * n → (∀ x ∈ sloR n (planeTo n u v (n * n)) k, x = u) ∧ (1 ≤ k → sloR n (planeTo n u v (n * n)) k ≠ []) := by
    intro k
    induction k with
    | zero => intro _; exact ⟨by simp [sloR], by omega⟩
    | succ k ih =>
      intro hk
      obtain ⟨i1, i2⟩ := ih (by omega)
      rw [sloR]
      split
      · rename_i hm
        have hlt := next_lt n k (by omega) hm
        have := plane_step_right n (by omega) u v (n * n) (k + 1) hlt (by
          rw [Nat.add_mod, Nat.mod_eq_of_lt (show 1 < n by omega), Nat.mod_eq_of_lt hm]; omega)
        rw [Nat.add_sub_cancel] at this
        refine ⟨fun x hx => ?_, fun _ => by simp⟩
        rw [List.mem_append, List.mem_singleton] at hx
        rcases hx with hx | rfl
        · exact i1 x hx
        · omega
      · rename_i hm
        refine ⟨i1, fun _ => i2 ?_⟩
        rcases Nat.eq_zero_or_pos k with e | e
        · subst e; simp at hm; omega
        · exact e
  have h2 : ∀ k, k ≤ n * n → (∀ x ∈ sloC n (planeTo n u v (n * n)) k, x = v) ∧ (1 ≤ k → sloC n (planeTo n u v (n * n)) k ≠ []) := by
    intro k
    induction k with
    | zero => intro _; exact ⟨by simp [sloC], by omega⟩
    | succ k ih =>
      intro hk
      obtain ⟨i1, i2⟩ := ih (by omega)
      rw [sloC]
      split
      · rename_i hm
        have hlt := below_lt n k (by omega) hm
        have := plane_step_down n (by omega) u v (n * n) (k + n) hlt (by omega)
        rw [Nat.add_sub_cancel] at this
        refine ⟨fun x hx => ?_, fun _ => by simp⟩
        rw [List.mem_append, List.mem_singleton] at hx
        rcases hx with hx | rfl
        · exact i1 x hx
        · omega
      · rename_i hm
        refine ⟨i1, fun _ => i2 ?_⟩
        rcases Nat.eq_zero_or_pos k with e | e
        · subst e; simp at hm; omega
        · exact e
  have hpos : 1 ≤ n * n := Nat.mul_pos (by omega) (by omega)
  exact ⟨most_all _ _ (h1 _ (Nat.le_refl _)).1 ((h1 _ (Nat.le_refl _)).2 hpos), most_all _ _ (h2 _ (Nat.le_refl _)).1 ((h2 _ (Nat.le_refl _)).2 hpos)⟩
end Go.Proofs.Ytlfcgbhjmdmocaa
