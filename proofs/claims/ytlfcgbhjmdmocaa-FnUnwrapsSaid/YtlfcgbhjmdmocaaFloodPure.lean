/- The flood: what it computes, with no program in sight. -/
import Derived.Test.YtlfcgbhjmdmocaaRowsPure
namespace Go.Proofs.Ytlfcgbhjmdmocaa
open Go.RowKit

/-- The state of a flood: heights, what was met, all that ever stood in the queue. -/
structure Fl where
  out : List Int
  met : List Bool
  q : List Nat

def flDir (i : Nat) : Int × Int := if i = 0 then (0, 1) else if i = 1 then (1, 0) else if i = 2 then (0, -1) else (-1, 0)
def flV (n a i : Nat) : Int := ((a / n : Nat) : Int) + (flDir i).1
def flU (n a i : Nat) : Int := ((a % n : Nat) : Int) + (flDir i).2
def flIn (n a i : Nat) : Bool := inR (flV n a i) 0 ((n : Int) - 1) && inR (flU n a i) 0 ((n : Int) - 1)
def flT (n a i : Nat) : Nat := ((n : Int) * flV n a i + flU n a i).toNat
def flPush (hs : List Int) (a t : Nat) (S : Fl) : Fl :=
  ⟨S.out.set t (S.out.getD a 0 + lessH (hs.getD a 0) (hs.getD t 0)), S.met.set t true, S.q ++ [t]⟩
def flStep (n : Nat) (hs : List Int) (M : Nat → Bool) (a i : Nat) (S : Fl) : Fl :=
  if flIn n a i = true then (if (S.met.getD (flT n a i) false || !M (flT n a i)) = true then S else flPush hs a (flT n a i) S) else S
/-- The first i directions. -/
def flPart (n : Nat) (hs : List Int) (M : Nat → Bool) (a : Nat) (S : Fl) : Nat → Fl
  | 0 => S
  | i + 1 => flStep n hs M a i (flPart n hs M a S i)
def flInit (n : Nat) (hs : List Int) (s : Nat) : Fl := ⟨(List.replicate (n * n) 0).set s (hs.getD s 0), (List.replicate (n * n) false).set s true, [s]⟩
def flN (n : Nat) (hs : List Int) (M : Nat → Bool) (s : Nat) : Nat → Fl
  | 0 => flInit n hs s
  | k + 1 => if k < (flN n hs M s k).q.length then flPart n hs M ((flN n hs M s k).q.getD k 0) (flN n hs M s k) 4 else flN n hs M s k

section
variable (n : Nat) (hs : List Int) (M : Nat → Bool) (s : Nat)

theorem flStep_or (a i : Nat) (S : Fl) : flStep n hs M a i S = S ∨
    (flIn n a i = true ∧ S.met.getD (flT n a i) false = false ∧ M (flT n a i) = true ∧ flStep n hs M a i S = flPush hs a (flT n a i) S) := by
  unfold flStep
  split
  · rename_i h
    split
    · exact .inl rfl
    · rename_i h2
      simp at h2
      exact .inr ⟨h, by simpa using h2.1, h2.2, rfl⟩
  · exact .inl rfl

theorem flStep_q (a i : Nat) (S : Fl) : ∃ r, (flStep n hs M a i S).q = S.q ++ r := by
  rcases flStep_or n hs M a i S with h | ⟨_, _, _, h⟩
  · exact ⟨[], by rw [h]; simp⟩
  · exact ⟨[flT n a i], by rw [h]; rfl⟩
theorem flPart_q (a : Nat) (S : Fl) (i : Nat) : ∃ r, (flPart n hs M a S i).q = S.q ++ r := by
  induction i with
  | zero => exact ⟨[], by simp [flPart]⟩
  | succ i ih =>
    obtain ⟨r, hr⟩ := ih
    obtain ⟨r2, h2⟩ := flStep_q n hs M a i (flPart n hs M a S i)
    exact ⟨r ++ r2, by rw [flPart, h2, hr]; simp⟩

/-- What the beginning has and each push keeps, all states have. -/
theorem flPart_ind (P : Fl → Prop) (a : Nat) (hp : ∀ S i, P S → a ∈ S.q → i < 4 → flIn n a i = true → S.met.getD (flT n a i) false = false → M (flT n a i) = true → P (flPush hs a (flT n a i) S))
    (S : Fl) (h : P S) (ha : a ∈ S.q) (i : Nat) (hi : i ≤ 4) : P (flPart n hs M a S i) := by
  induction i with
  | zero => exact h
  | succ i ih =>
    obtain ⟨r, hr⟩ := flPart_q n hs M a S i
    rw [flPart]
    rcases flStep_or n hs M a i (flPart n hs M a S i) with h' | ⟨h1, h2, h3, h'⟩
    · rw [h']; exact ih (by omega)
    · rw [h']; exact hp _ i (ih (by omega)) (by rw [hr]; exact List.mem_append_left _ ha) (by omega) h1 h2 h3

theorem getD_memN (l : List Nat) (k : Nat) (h : k < l.length) : l.getD k 0 ∈ l := by
  rw [List.getD_eq_getElem?_getD, List.getElem?_eq_getElem h]; exact List.getElem_mem h

theorem flN_ind (P : Fl → Prop) (h0 : P (flInit n hs s))
    (hp : ∀ S a i, P S → a ∈ S.q → i < 4 → flIn n a i = true → S.met.getD (flT n a i) false = false → M (flT n a i) = true → P (flPush hs a (flT n a i) S)) (k : Nat) : P (flN n hs M s k) := by
  induction k with
  | zero => exact h0
  | succ k ih =>
    rw [flN]
    split
    · rename_i hk
      exact flPart_ind n hs M P _ (fun S i => hp S _ i) _ ih (getD_memN _ _ hk) 4 (Nat.le_refl _)
    · exact ih

/-- A cell beside a cell. -/
theorem flT_lt (a i : Nat) (h : flIn n a i = true) : flT n a i < n * n ∧ ((flT n a i : Nat) : Int) = (n : Int) * flV n a i + flU n a i := by
  unfold flIn at h
  rw [Bool.and_eq_true, inR_iff, inR_iff] at h
  unfold flT
  generalize flV n a i = v at h
  generalize flU n a i = u at h
  obtain ⟨⟨h1, h2⟩, h3, h4⟩ := h
  obtain ⟨v', rfl⟩ := Int.eq_ofNat_of_zero_le h1
  obtain ⟨u', rfl⟩ := Int.eq_ofNat_of_zero_le h3
  have e : (n : Int) * v' + u' = ((n * v' + u' : Nat) : Int) := by simp
  rw [e]
  refine ⟨?_, by rw [Int.toNat_natCast]⟩
  rw [Int.toNat_natCast]
  have h5 : v' + 1 ≤ n := by omega
  have h6 := Nat.mul_le_mul_left n h5
  rw [Nat.mul_add] at h6
  omega

/-- What every state of a flood is. -/
structure FlOk (S : Fl) : Prop where
  outL : S.out.length = n * n
  metL : S.met.length = n * n
  qlt : ∀ a ∈ S.q, a < n * n
  cnt : S.met.count true = S.q.length
  bd : ∀ c, -(63 + 32 * (S.q.length : Int)) ≤ S.out.getD c 0 ∧ S.out.getD c 0 ≤ 63 + 32 * (S.q.length : Int)
  mem : ∀ c, S.met.getD c false = true ↔ c ∈ S.q
  mod : ∀ c ∈ S.q, (S.out.getD c 0 - hs.getD c 0) % 64 = 0

theorem getD_setI (l : List Int) (t c : Nat) (x : Int) (h : t < l.length) : (l.set t x).getD c 0 = if c = t then x else l.getD c 0 := by
  simp only [List.getD_eq_getElem?_getD, List.getElem?_set]
  by_cases e : t = c
  · subst e; simp [h]
  · simp [e, Ne.symm e]
theorem getD_setB (l : List Bool) (t c : Nat) (x : Bool) (h : t < l.length) : (l.set t x).getD c false = if c = t then x else l.getD c false := by
  simp only [List.getD_eq_getElem?_getD, List.getElem?_set]
  by_cases e : t = c
  · subst e; simp [h]
  · simp [e, Ne.symm e]

theorem flOk_init (hsz : s < n * n) (hb : ∀ z ∈ hs, 0 ≤ z ∧ z ≤ 63) : FlOk n hs (flInit n hs s) where
  outL := by simp [flInit]
  metL := by simp [flInit]
  qlt := by intro a ha; simp [flInit] at ha; subst ha; exact hsz
  cnt := by
    simp only [flInit]
    rw [List.count_set (by simpa using hsz)]
    simp [List.count_replicate]
  bd := by
    intro c
    simp only [flInit]
    rw [getD_setI _ _ _ _ (by simpa using hsz)]
    have := getD_bd hb s
    split
    · simp only [List.length_singleton]; omega
    · have e : (List.replicate (n * n) (0 : Int)).getD c 0 = 0 := by simp only [List.getD_eq_getElem?_getD, List.getElem?_replicate]; split <;> rfl
      rw [e]; simp
  mem := by
    intro c
    simp only [flInit]
    rw [getD_setB _ _ _ _ (by simpa using hsz)]
    have e : (List.replicate (n * n) false).getD c false = false := by simp only [List.getD_eq_getElem?_getD, List.getElem?_replicate]; split <;> rfl
    rw [e]
    by_cases h : c = s <;> simp [h]
  mod := by
    intro c hc
    simp [flInit] at hc
    subst hc
    simp only [flInit]
    rw [getD_setI _ _ _ _ (by simpa using hsz)]
    simp

theorem flOk_push (S : Fl) (a i : Nat) (h : FlOk n hs S) (ha : a ∈ S.q) (hin : flIn n a i = true) (hm : S.met.getD (flT n a i) false = false) : FlOk n hs (flPush hs a (flT n a i) S) := by
  have ht := (flT_lt n a i hin).1
  generalize flT n a i = t at ht hm
  have hto : t < S.out.length := by rw [h.outL]; exact ht
  have htm : t < S.met.length := by rw [h.metL]; exact ht
  have hle := lessH_bd (hs.getD a 0) (hs.getD t 0)
  exact {
    outL := by simp [flPush, h.outL]
    metL := by simp [flPush, h.metL]
    qlt := by
      intro b hb
      simp [flPush] at hb
      rcases hb with hb | rfl
      · exact h.qlt b hb
      · exact ht
    cnt := by
      have hmt : S.met[t] = false := by rw [List.getD_eq_getElem?_getD, List.getElem?_eq_getElem htm] at hm; exact hm
      simp only [flPush]
      rw [List.count_set htm, hmt, h.cnt]
      simp
    bd := by
      intro c
      simp only [flPush]
      rw [getD_setI _ _ _ _ hto]
      have h1 := h.bd c
      have h2 := h.bd a
      simp only [List.length_append, List.length_singleton]
      split <;> omega
    mem := by
      intro c
      simp only [flPush]
      rw [getD_setB _ _ _ _ htm, List.mem_append, List.mem_singleton]
      by_cases e : c = t
      · simp [e]
      · simp only [e, if_false, or_false]; exact h.mem c
    mod := by
      intro c hc
      simp only [flPush] at hc ⊢
      rw [getD_setI _ _ _ _ hto]
      rw [List.mem_append, List.mem_singleton] at hc
      by_cases e : c = t
      · subst e
        rw [if_pos rfl]
        have h1 := h.mod a ha
        unfold lessH
        omega
      · rw [if_neg e]
        exact h.mod c (hc.resolve_right e) }

theorem flOk_all (hsz : s < n * n) (hb : ∀ z ∈ hs, 0 ≤ z ∧ z ≤ 63) (k : Nat) : FlOk n hs (flN n hs M s k) :=
  flN_ind n hs M s (FlOk n hs) (flOk_init n hs s hsz hb) (fun S a i h ha _ hin hm _ => flOk_push n hs S a i h ha hin hm) k
theorem flOk_part (a : Nat) (S : Fl) (h : FlOk n hs S) (ha : a ∈ S.q) (i : Nat) (hi : i ≤ 4) : FlOk n hs (flPart n hs M a S i) :=
  flPart_ind n hs M (FlOk n hs) a (fun S i h ha _ hin hm _ => flOk_push n hs S a i h ha hin hm) S h ha i hi

theorem FlOk.qle {n : Nat} {hs : List Int} {S : Fl} (h : FlOk n hs S) : S.q.length ≤ n * n := by
  rw [← h.cnt, ← h.metL]; exact List.count_le_length

/-- Behind its end a flood stands still. -/
theorem flN_still (k : Nat) (h : (flN n hs M s k).q.length ≤ k) (j : Nat) : flN n hs M s (k + j) = flN n hs M s k := by
  induction j with
  | zero => rfl
  | succ j ih => rw [← Nat.add_assoc, flN, ih, if_neg (by omega)]

/-- The flood's heights. -/
def flOut : List Int := (flN n hs M s (n * n)).out
theorem flOut_at (hsz : s < n * n) (hb : ∀ z ∈ hs, 0 ≤ z ∧ z ≤ 63) (k : Nat) (hk : k ≤ n * n) (h : (flN n hs M s k).q.length ≤ k) : (flN n hs M s k).out = flOut n hs M s := by
  unfold flOut
  have := flN_still n hs M s k h (n * n - k)
  rw [show k + (n * n - k) = n * n by omega] at this
  rw [this]
end
end Go.Proofs.Ytlfcgbhjmdmocaa
