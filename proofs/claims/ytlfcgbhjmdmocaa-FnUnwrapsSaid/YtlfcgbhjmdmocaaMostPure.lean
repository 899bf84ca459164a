/- The least of the commonest numbers. -/
import Derived.Test.YtlfcgbhjmdmocaaOwn
namespace Go.Proofs.Ytlfcgbhjmdmocaa
open Go.RowKit

/-- b is the least of those that occur most often in zs, counted in cs. -/
def IsMost (cs zs : List Int) (b : Int) : Prop := (zs = [] ∧ b = 0) ∨ (b ∈ zs ∧ ∀ x ∈ zs, cs.count x ≤ cs.count b ∧ (cs.count x = cs.count b → b ≤ x))

theorem IsMost.one {cs zs : List Int} {a b : Int} (ha : IsMost cs zs a) (hb : IsMost cs zs b) : a = b := by
  rcases ha with ⟨h, rfl⟩ | ⟨ma, ha⟩
  · rcases hb with ⟨_, rfl⟩ | ⟨mb, _⟩
    · rfl
    · rw [h] at mb; cases mb
  · rcases hb with ⟨h, rfl⟩ | ⟨mb, hb⟩
    · rw [h] at ma; cases ma
    · have h1 := ha b mb
      have h2 := hb a ma
      have e : cs.count a = cs.count b := by omega
      have := h1.2 e.symm
      have := h2.2 e
      omega
theorem IsMost.perm {zs ys : List Int} {b : Int} (h : IsMost ys ys b) (hp : ys.Perm zs) : IsMost zs zs b := by
  rcases h with ⟨h, rfl⟩ | ⟨m, h⟩
  · subst h
    exact .inl ⟨hp.nil_eq.symm, rfl⟩
  · refine .inr ⟨hp.mem_iff.1 m, fun x hx => ?_⟩
    have := h x (hp.mem_iff.2 hx)
    rw [hp.count_eq, hp.count_eq] at this
    exact this

/-- The one. -/
def mostStep (cs : List Int) (p : Int × Nat) (x : Int) : Int × Nat := if p.2 < cs.count x ∨ (cs.count x = p.2 ∧ x < p.1) then (x, cs.count x) else p
def mostTo (cs zs : List Int) : Int × Nat := zs.foldl (mostStep cs) (0, 0)
def mostOf (zs : List Int) : Int := (mostTo zs zs).1

theorem mostTo_snoc (cs zs : List Int) (x : Int) : mostTo cs (zs ++ [x]) = mostStep cs (mostTo cs zs) x := by simp [mostTo]
theorem mostTo_is (cs : List Int) (n : Nat) : n ≤ cs.length → IsMost cs (cs.take n) (mostTo cs (cs.take n)).1 ∧ (mostTo cs (cs.take n)).2 = if n = 0 then 0 else cs.count (mostTo cs (cs.take n)).1 := by
  induction n with
  | zero => intro _; exact ⟨.inl ⟨by simp, by simp [mostTo]⟩, by simp [mostTo]⟩
  | succ n ih =>
    intro hn
    obtain ⟨h1, h2⟩ := ih (by omega)
    have hx : cs[n]'(by omega) ∈ cs := List.getElem_mem _
    have hc : 0 < cs.count (cs[n]'(by omega)) := List.count_pos_iff.2 hx
    have ht : cs.take (n + 1) = cs.take n ++ [cs[n]'(by omega)] := by rw [List.take_succ_eq_append_getElem (by omega)]
    rw [ht, mostTo_snoc]
    generalize cs[n]'(by omega) = x at hc
    generalize hp : mostTo cs (cs.take n) = p at h1 h2
    obtain ⟨b, m⟩ := p
    simp only at h1 h2
    unfold mostStep
    split
    · rename_i hlt
      dsimp only at hlt
      refine ⟨.inr ⟨by simp, fun y hy => ?_⟩, by simp⟩
      show cs.count y ≤ cs.count x ∧ (cs.count y = cs.count x → x ≤ y)
      rw [List.mem_append, List.mem_singleton] at hy
      rcases hy with hy | rfl
      · rcases h1 with ⟨h0, _⟩ | ⟨hb, h1⟩
        · rw [h0] at hy; cases hy
        · have := h1 y hy
          have hn0 : n ≠ 0 := by rintro rfl; simp at hy
          rw [if_neg hn0] at h2
          exact ⟨by omega, fun e => by omega⟩
      · exact ⟨Nat.le_refl _, fun _ => Int.le_refl _⟩
    · rename_i hlt
      dsimp only at hlt
      simp only [not_or, not_and] at hlt
      rcases h1 with ⟨h0, rfl⟩ | ⟨hb, h1⟩
      · have hn0 : n = 0 := by
          rcases List.take_eq_nil_iff.1 h0 with h | h
          · exact h
          · subst h; simp at hn
        rw [if_pos hn0] at h2
        omega
      · have hn0 : n ≠ 0 := by rintro rfl; simp at hb
        rw [if_neg hn0] at h2
        refine ⟨.inr ⟨List.mem_append_left _ hb, fun y hy => ?_⟩, by simpa using h2⟩
        show cs.count y ≤ cs.count b ∧ (cs.count y = cs.count b → b ≤ y)
        rw [List.mem_append, List.mem_singleton] at hy
        rcases hy with hy | rfl
        · exact h1 y hy
        · exact ⟨by omega, fun e => by have := hlt.2 (by omega); omega⟩
theorem mostOf_is (zs : List Int) : IsMost zs zs (mostOf zs) := by
  have := (mostTo_is zs zs.length (Nat.le_refl _)).1
  rwa [List.take_length] at this

/-- The same off a sorted list, in one go: the best, how often it stands, how often the last number stands. -/
def comStep (s : List Int) (i : Nat) (p : Int × Nat × Nat) : Int × Nat × Nat :=
  let k := (if i = 0 ∨ s.getD i 0 ≠ s.getD (i - 1) 0 then 0 else p.2.2) + 1
  if p.2.1 < k then (s.getD i 0, k, k) else (p.1, p.2.1, k)
def comTo (s : List Int) : Nat → Int × Nat × Nat
  | 0 => (0, 0, 0)
  | i + 1 => comStep s i (comTo s i)

theorem comTo_is (s : List Int) (hs : s.Pairwise (· ≤ ·)) (n : Nat) (hn : n ≤ s.length) :
    IsMost (s.take n) (s.take n) (comTo s n).1 ∧ (comTo s n).2.1 = (if n = 0 then 0 else (s.take n).count (comTo s n).1) ∧ (n ≠ 0 → (comTo s n).2.2 = (s.take n).count (s.getD (n - 1) 0)) := by
  induction n with
  | zero => exact ⟨.inl ⟨by simp, rfl⟩, rfl, fun h => absurd rfl h⟩
  | succ n ih =>
    obtain ⟨h1, h2, h3⟩ := ih (by omega)
    have ht : s.take (n + 1) = s.take n ++ [s[n]'(by omega)] := by rw [List.take_succ_eq_append_getElem (by omega)]
    have hx : s.getD n 0 = s[n]'(by omega) := by rw [List.getD_eq_getElem?_getD, List.getElem?_eq_getElem (by omega)]; rfl
    have hle : ∀ y ∈ s.take n, y ≤ s[n]'(by omega) := by
      intro y hy
      obtain ⟨j, hj, rfl⟩ := List.mem_iff_getElem.1 hy
      rw [List.length_take] at hj
      rw [List.getElem_take]
      exact List.pairwise_iff_getElem.1 hs j n (by omega) (by omega) (by omega)
    have hlast : n ≠ 0 → ∀ y ∈ s.take n, y ≤ s.getD (n - 1) 0 := by
      intro h0 y hy
      obtain ⟨j, hj, rfl⟩ := List.mem_iff_getElem.1 hy
      rw [List.length_take] at hj
      rw [List.getElem_take, List.getD_eq_getElem?_getD, List.getElem?_eq_getElem (by omega)]
      rcases Nat.lt_or_ge j (n - 1) with h | h
      · exact List.pairwise_iff_getElem.1 hs j (n - 1) (by omega) (by omega) h
      · have : j = n - 1 := by omega
        subst this; exact Int.le_refl _
    have hk : (if n = 0 ∨ s.getD n 0 ≠ s.getD (n - 1) 0 then 0 else (comTo s n).2.2) = (s.take n).count (s[n]'(by omega)) := by
      split
      · rename_i h
        rcases Nat.eq_zero_or_pos n with h0 | h0
        · subst h0; simp
        · have hne : s.getD n 0 ≠ s.getD (n - 1) 0 := by
            rcases h with h | h
            · omega
            · exact h
          rw [List.count_eq_zero_of_not_mem]
          intro hm
          have a1 := hlast (by omega) _ hm
          have hm2 : s.getD (n - 1) 0 ∈ s.take n := by
            rw [List.getD_eq_getElem?_getD, List.getElem?_eq_getElem (by omega)]
            exact List.mem_iff_getElem.2 ⟨n - 1, by simp; omega, by simp⟩
          have a2 := hle _ hm2
          rw [hx] at hne
          omega
      · rename_i h
        have h0 : n ≠ 0 := fun e => h (.inl e)
        have he : s.getD n 0 = s.getD (n - 1) 0 := Decidable.byContradiction fun e => h (.inr e)
        rw [h3 h0, ← he, hx]
    have hpl0 : n = 0 → (s.take n).length = 0 := by rintro rfl; simp
    rw [comTo, ht]
    unfold comStep
    simp only [hk]
    rw [hx]
    generalize s[n]'(by omega) = x at *
    generalize (comTo s n).1 = b at *
    generalize (comTo s n).2.1 = m at *
    generalize s.take n = p at *
    have hpl : n = 0 → p.length = 0 := hpl0
    have hcx : (p ++ [x]).count x = p.count x + 1 := by simp
    have hco : ∀ y, y ≠ x → (p ++ [x]).count y = p.count y := fun y hy => by simp [List.count_append, Ne.symm hy]
    have hn0 : ∀ y, y ∈ p → n ≠ 0 := by
      intro y hy h0
      have := List.length_pos_of_mem hy
      have := hpl h0
      omega
    split
    · rename_i hlt
      refine ⟨.inr ⟨by simp, fun y hy => ?_⟩, by simp, fun _ => by rw [Nat.add_sub_cancel, hx, hcx]⟩
      show (p ++ [x]).count y ≤ (p ++ [x]).count x ∧ ((p ++ [x]).count y = (p ++ [x]).count x → x ≤ y)
      rw [List.mem_append, List.mem_singleton] at hy
      by_cases hyx : y = x
      · subst hyx; exact ⟨Nat.le_refl _, fun _ => Int.le_refl _⟩
      · rw [hcx, hco y hyx]
        have hyp := hy.resolve_right hyx
        rw [if_neg (hn0 y hyp)] at h2
        rcases h1 with ⟨h0, _⟩ | ⟨hb, h1⟩
        · rw [h0] at hyp; cases hyp
        · have := (h1 y hyp).1
          exact ⟨by omega, fun e => by omega⟩
    · rename_i hlt
      rcases h1 with ⟨h0, _⟩ | ⟨hb, h1⟩
      · rw [h0] at h2
        simp at h2
        omega
      · have hn0' := hn0 b hb
        rw [if_neg hn0'] at h2
        have hbx : b ≠ x := by rintro rfl; omega
        refine ⟨.inr ⟨List.mem_append_left _ hb, fun y hy => ?_⟩, by rw [if_neg (by omega)]; show m = (p ++ [x]).count b; rw [hco b hbx]; exact h2, fun _ => by rw [Nat.add_sub_cancel, hx, hcx]⟩
        show (p ++ [x]).count y ≤ (p ++ [x]).count b ∧ ((p ++ [x]).count y = (p ++ [x]).count b → b ≤ y)
        rw [hco b hbx]
        rw [List.mem_append, List.mem_singleton] at hy
        by_cases hyx : y = x
        · subst hyx
          rw [hcx]
          exact ⟨by omega, fun _ => hle b hb⟩
        · rw [hco y hyx]
          exact h1 y (hy.resolve_right hyx)
/-- The two ways agree. -/
theorem com_most (zs ys : List Int) (hp : ys.Perm zs) (hs : ys.Pairwise (· ≤ ·)) : (comTo ys ys.length).1 = mostOf zs := by
  have h := (comTo_is ys hs ys.length (Nat.le_refl _)).1
  rw [List.take_length] at h
  exact (h.perm hp).one (mostOf_is zs)
end Go.Proofs.Ytlfcgbhjmdmocaa
