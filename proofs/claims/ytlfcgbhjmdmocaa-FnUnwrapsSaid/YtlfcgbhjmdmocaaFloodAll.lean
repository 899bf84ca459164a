/- The flood over an open map meets every cell; without residues and half turns its heights are those along rows. -/
import Derived.Test.YtlfcgbhjmdmocaaFloodPure
import Derived.Test.YtlfcgbhjmdmocaaRes
namespace Go.Proofs.Ytlfcgbhjmdmocaa
open Go.RowKit

theorem set_true_getD (l : List Bool) (t c : Nat) (h : l.getD c false = true) : (l.set t true).getD c false = true := by
  simp only [List.getD_eq_getElem?_getD, List.getElem?_set] at h ⊢
  split
  · split
    · rfl
    · rename_i h1 h2
      subst h1
      rw [List.getElem?_eq_none (by omega)] at h
      cases h
  · exact h

section
variable (n : Nat) (hs : List Int) (M : Nat → Bool) (s : Nat)

theorem flStep_met (a i c : Nat) (S : Fl) (h : S.met.getD c false = true) : (flStep n hs M a i S).met.getD c false = true := by
  rcases flStep_or n hs M a i S with e | ⟨_, _, _, e⟩
  · rw [e]; exact h
  · rw [e]; exact set_true_getD _ _ _ h
theorem flPart_met (a c : Nat) (S : Fl) (h : S.met.getD c false = true) (i : Nat) : (flPart n hs M a S i).met.getD c false = true := by
  induction i with
  | zero => exact h
  | succ i ih => rw [flPart]; exact flStep_met n hs M a i c _ ih

theorem flPart_all (a : Nat) (S : Fl) (hok : FlOk n hs S) (ha : a ∈ S.q) (i : Nat) (hi : i ≤ 4) :
    ∀ j, j < i → flIn n a j = true → M (flT n a j) = true → (flPart n hs M a S i).met.getD (flT n a j) false = true := by
  induction i with
  | zero => intro j hj; omega
  | succ i ih =>
    intro j hj hin hM
    rw [flPart]
    by_cases e : j < i
    · exact flStep_met n hs M a i _ _ (ih (by omega) j e hin hM)
    · have : j = i := by omega
      subst this
      have hk := flOk_part n hs M a S hok ha j (by omega)
      unfold flStep
      rw [if_pos hin]
      split
      · rename_i h
        rw [hM] at h
        simpa using h
      · simp only [flPush]
        rw [getD_setB _ _ _ _ (by rw [hk.metL]; exact (flT_lt n a j hin).1), if_pos rfl]

/-- The neighbours of the first k of the queue are met. -/
def FlDone (S : Fl) (k : Nat) : Prop := ∀ j, j < k → j < S.q.length → ∀ i, i < 4 → flIn n (S.q.getD j 0) i = true → M (flT n (S.q.getD j 0) i) = true → S.met.getD (flT n (S.q.getD j 0) i) false = true

theorem flDone_all (hsz : s < n * n) (hb : ∀ z ∈ hs, 0 ≤ z ∧ z ≤ 63) (k : Nat) : FlDone n M (flN n hs M s k) k := by
  induction k with
  | zero => intro j hj; omega
  | succ k ih =>
    have hok := flOk_all n hs M s hsz hb k
    rw [flN]
    split
    · rename_i hk
      have hm := getD_memN _ _ hk
      obtain ⟨r, hr⟩ := flPart_q n hs M ((flN n hs M s k).q.getD k 0) (flN n hs M s k) 4
      intro j hj hjl i hi hin hM
      have e : (flPart n hs M ((flN n hs M s k).q.getD k 0) (flN n hs M s k) 4).q.getD j 0 = (flN n hs M s k).q.getD j 0 := by
        rw [hr, List.getD_eq_getElem?_getD, List.getElem?_append_left (by omega), ← List.getD_eq_getElem?_getD]
      rw [e] at hin hM ⊢
      by_cases ej : j < k
      · exact flPart_met n hs M _ _ _ (ih j ej (by omega) i hi hin hM) 4
      · have : j = k := by omega
        subst this
        exact flPart_all n hs M _ _ hok hm 4 (Nat.le_refl _) i hi hin hM
    · intro j hj hjl
      exact ih j (by omega) hjl

theorem div_lt_side (a : Nat) (ha : a < n * n) : a / n < n := Nat.div_lt_of_lt_mul ha

theorem nb_right (a : Nat) (ha : a < n * n) (h : a % n + 1 < n) : flIn n a 0 = true ∧ flT n a 0 = a + 1 := by
  have h1 := div_lt_side n a ha
  have h2 := Nat.div_add_mod a n
  have e1 : flV n a 0 = ((a / n : Nat) : Int) := by simp [flV, flDir]
  have e2 : flU n a 0 = ((a % n + 1 : Nat) : Int) := by simp [flU, flDir]
  generalize a / n = q at *
  generalize a % n = r at *
  refine ⟨by unfold flIn; rw [e1, e2, Bool.and_eq_true, inR_iff, inR_iff]; clear e1 e2; omega, ?_⟩
  unfold flT
  rw [e1, e2, show (n : Int) * (q : Int) + ((r + 1 : Nat) : Int) = ((n * q + (r + 1) : Nat) : Int) by simp, Int.toNat_natCast]
  omega
theorem nb_down (a : Nat) (h : a / n + 1 < n) : flIn n a 1 = true ∧ flT n a 1 = a + n := by
  have h2 := Nat.div_add_mod a n
  have h3 : a % n < n := Nat.mod_lt _ (Nat.lt_of_le_of_lt (Nat.zero_le _) h)
  have e1 : flV n a 1 = ((a / n + 1 : Nat) : Int) := by simp [flV, flDir]
  have e2 : flU n a 1 = ((a % n : Nat) : Int) := by simp [flU, flDir]
  generalize a / n = q at *
  generalize a % n = r at *
  refine ⟨by unfold flIn; rw [e1, e2, Bool.and_eq_true, inR_iff, inR_iff]; clear e1 e2; omega, ?_⟩
  unfold flT
  rw [e1, e2, show (n : Int) * ((q + 1 : Nat) : Int) + (r : Int) = ((n * (q + 1) + r : Nat) : Int) by simp, Int.toNat_natCast, Nat.mul_add]
  omega

/-- A cell beside a cell: on its right, below, on its left, above. -/
theorem nb_cases (a i : Nat) (ha : a < n * n) (hi : i < 4) (h : flIn n a i = true) :
    (flT n a i = a + 1 ∧ a % n + 1 < n) ∨ (flT n a i = a + n ∧ a + n < n * n) ∨ (a = flT n a i + 1 ∧ flT n a i % n + 1 < n) ∨ (a = flT n a i + n ∧ flT n a i + n < n * n) := by
  have h1 := div_lt_side n a ha
  have h2 := Nat.div_add_mod a n
  have hn : 0 < n := Nat.pos_of_ne_zero (by rintro rfl; simp at ha)
  have h3 : a % n < n := Nat.mod_lt _ hn
  have hs := h
  unfold flIn at h
  rw [Bool.and_eq_true, inR_iff, inR_iff] at h
  obtain ⟨⟨v0, v1⟩, u0, u1⟩ := h
  match i, hi with
  | 0, _ =>
    have e2 : flU n a 0 = ((a % n : Nat) : Int) + 1 := by simp [flU, flDir]
    rw [e2] at u1
    have hr : a % n + 1 < n := by omega
    exact .inl ⟨(nb_right n a ha hr).2, hr⟩
  | 1, _ =>
    have e1 : flV n a 1 = ((a / n : Nat) : Int) + 1 := by simp [flV, flDir]
    rw [e1] at v1
    have hr : a / n + 1 < n := by omega
    have ht := (nb_down n a hr).2
    exact .inr (.inl ⟨ht, by rw [← ht]; exact (flT_lt n a 1 hs).1⟩)
  | 2, _ =>
    have e1 : flV n a 2 = ((a / n : Nat) : Int) := by simp [flV, flDir]
    have e2 : flU n a 2 = ((a % n : Nat) : Int) - 1 := by simp [flU, flDir]; omega
    rw [e2] at u0
    have hm : 1 ≤ a % n := by omega
    have ht : flT n a 2 = n * (a / n) + (a % n - 1) := by
      unfold flT
      rw [e1, e2, show ((a % n : Nat) : Int) - 1 = ((a % n - 1 : Nat) : Int) by omega, show (n : Int) * ((a / n : Nat) : Int) + ((a % n - 1 : Nat) : Int) = ((n * (a / n) + (a % n - 1) : Nat) : Int) by simp, Int.toNat_natCast]
    refine .inr (.inr (.inl ⟨by omega, ?_⟩))
    rw [ht, Nat.mul_add_mod, Nat.mod_eq_of_lt (by omega)]
    omega
  | 3, _ =>
    have e1 : flV n a 3 = ((a / n : Nat) : Int) - 1 := by simp [flV, flDir]; omega
    have e2 : flU n a 3 = ((a % n : Nat) : Int) := by simp [flU, flDir]
    rw [e1] at v0
    have hm : 1 ≤ a / n := by omega
    have ht : flT n a 3 = n * (a / n - 1) + a % n := by
      unfold flT
      rw [e1, e2, show ((a / n : Nat) : Int) - 1 = ((a / n - 1 : Nat) : Int) by omega, show (n : Int) * ((a / n - 1 : Nat) : Int) + ((a % n : Nat) : Int) = ((n * (a / n - 1) + a % n : Nat) : Int) by simp, Int.toNat_natCast]
    have hq : n * (a / n - 1) + n = n * (a / n) := by
      rw [← Nat.mul_succ]; congr 1; omega
    exact .inr (.inr (.inr ⟨by omega, by omega⟩))
end

/-- All cells of an open map are met from the first one. -/
theorem flAll (n : Nat) (hs : List Int) (hn : 1 ≤ n) (hb : ∀ z ∈ hs, 0 ≤ z ∧ z ≤ 63) (c : Nat) (hc : c < n * n) : c ∈ (flN n hs (fun _ => true) 0 (n * n)).q := by
  have hsz : 0 < n * n := Nat.mul_pos hn hn
  have hok := flOk_all n hs (fun _ => true) 0 hsz hb (n * n)
  have hdone := flDone_all n hs (fun _ => true) 0 hsz hb (n * n)
  have h0 : 0 ∈ (flN n hs (fun _ => true) 0 (n * n)).q :=
    flN_ind n hs (fun _ => true) 0 (fun S => 0 ∈ S.q) (by simp [flInit]) (fun S a i h _ _ _ _ _ => by simp only [flPush]; exact List.mem_append_left _ h) (n * n)
  generalize flN n hs (fun _ => true) 0 (n * n) = S at *
  have hnext : ∀ a, a ∈ S.q → ∀ i, i < 4 → flIn n a i = true → flT n a i ∈ S.q := by
    intro a ha i hi hin
    obtain ⟨j, hj, rfl⟩ := List.mem_iff_getElem.1 ha
    have hql := hok.qle
    have e : S.q.getD j 0 = S.q[j] := by simp [List.getD_eq_getElem?_getD, hj]
    have := hdone j (by omega) hj i hi (by rw [e]; exact hin) rfl
    rw [e] at this
    exact (hok.mem _).1 this
  have hcol : ∀ y, y < n → n * y ∈ S.q := by
    intro y
    induction y with
    | zero => intro _; exact h0
    | succ y ih =>
      intro hy
      have h1 := ih (by omega)
      have hd : n * y / n = y := Nat.mul_div_cancel_left y hn
      obtain ⟨h2, h3⟩ := nb_down n (n * y) (by rw [hd]; exact hy)
      have := hnext _ h1 1 (by omega) h2
      rw [h3] at this
      exact this
  have hrow : ∀ y, y < n → ∀ x, x < n → n * y + x ∈ S.q := by
    intro y hy x
    induction x with
    | zero => intro _; exact hcol y hy
    | succ x ih =>
      intro hx
      have h1 := ih (by omega)
      have hm : (n * y + x) % n = x := by rw [Nat.mul_add_mod, Nat.mod_eq_of_lt (by omega)]
      obtain ⟨h2, h3⟩ := nb_right n (n * y + x) (hok.qlt _ h1) (by rw [hm]; exact hx)
      have := hnext _ h1 0 (by omega) h2
      rw [h3] at this
      exact this
  have := hrow (c / n) (div_lt_side n c hc) (c % n) (Nat.mod_lt _ hn)
  rwa [Nat.div_add_mod] at this

theorem rows_stable (n : Nat) (zs : List Int) (K j : Nat) (h : j < K) : (rowsTo n zs K).getD j 0 = rowsStep n zs (rowsTo n zs j) j := by
  induction K with
  | zero => omega
  | succ K ih =>
    by_cases e : j < K
    · rw [rowsTo_succ_lt n zs K j e, ih e]
    · have : j = K := by omega
      subst this
      exact rowsTo_at n zs j
theorem rows_rec (n : Nat) (hn : 1 ≤ n) (zs : List Int) (K k : Nat) (h : k < K) : (rowsTo n zs K).getD k 0 =
    if k = 0 then zs.getD 0 0 else if k % n = 0 then (rowsTo n zs K).getD (k - n) 0 + lessH (zs.getD (k - n) 0) (zs.getD k 0) else (rowsTo n zs K).getD (k - 1) 0 + lessH (zs.getD (k - 1) 0) (zs.getD k 0) := by
  rw [rows_stable n zs K k h]
  have hst : ∀ j, j < k → (rowsTo n zs k).getD j 0 = (rowsTo n zs K).getD j 0 := fun j hj => by rw [rows_stable n zs k j hj, rows_stable n zs K j (by omega)]
  unfold rowsStep
  split
  · rfl
  · rename_i h0
    split
    · rw [hst (k - n) (by omega)]
    · rw [hst (k - 1) (by omega)]

/-- The rows' heights are the map's, wrapped. -/
theorem rows_mod (n : Nat) (hn : 1 ≤ n) (zs : List Int) (K : Nat) : ∀ k, k < K → ((rowsTo n zs K).getD k 0 - zs.getD k 0) % 64 = 0 := by
  intro k
  induction k using Nat.strongRecOn with
  | _ k ih =>
    intro hk
    rw [rows_rec n hn zs K k hk]
    split
    · rename_i e; subst e; simp
    · rename_i h0
      split
      · have := ih (k - n) (by omega) (by omega)
        unfold lessH
        omega
      · have := ih (k - 1) (by omega) (by omega)
        unfold lessH
        omega

theorem less_back (h k : Int) (e : (k - h - 32) % 64 ≠ 0) : lessH k h = - lessH h k := by unfold lessH; omega

/-- No residues, no half turns. -/
structure Clean (n : Nat) (zs : List Int) : Prop where
  res : ∀ y x, y < n - 1 → x < n - 1 → resAt n zs y x = 0
  right : ∀ c, c < n * n → c % n + 1 < n → (zs.getD (c + 1) 0 - zs.getD c 0 - 32) % 64 ≠ 0
  down : ∀ c, c + n < n * n → (zs.getD (c + n) 0 - zs.getD c 0 - 32) % 64 ≠ 0

theorem res_sum (a b c d : Int) (h : (lessH a b + lessH b c + lessH c d + lessH d a).tdiv 64 = 0) : lessH a b + lessH b c + lessH c d + lessH d a = 0 := by
  have h1 := Int.tmod_add_mul_tdiv (lessH a b + lessH b c + lessH c d + lessH d a) 64
  have h2 := Int.lt_tmod_of_pos (lessH a b + lessH b c + lessH c d + lessH d a) (show (0 : Int) < 64 by omega)
  have h3 := Int.tmod_lt_of_pos (lessH a b + lessH b c + lessH c d + lessH d a) (show (0 : Int) < 64 by omega)
  rw [h] at h1
  generalize (lessH a b + lessH b c + lessH c d + lessH d a).tmod 64 = t at *
  unfold lessH at *
  omega

section
variable {n : Nat} {zs : List Int} (hn : 1 ≤ n) (hc : Clean n zs)
include hn
theorem rows_right (c : Nat) (h1 : c + 1 < n * n) (h2 : c % n + 1 < n) : (rowsTo n zs (n * n)).getD (c + 1) 0 = (rowsTo n zs (n * n)).getD c 0 + lessH (zs.getD c 0) (zs.getD (c + 1) 0) := by
  rw [rows_rec n hn zs (n * n) (c + 1) h1, if_neg (by omega), if_neg, Nat.add_sub_cancel]
  rw [Nat.add_mod, Nat.mod_eq_of_lt (show 1 < n by omega), Nat.mod_eq_of_lt h2]
  omega
include hc
theorem rows_down (x : Nat) (hx : x < n) (y : Nat) (hy : y + 1 < n) :
    (rowsTo n zs (n * n)).getD (n * y + x + n) 0 = (rowsTo n zs (n * n)).getD (n * y + x) 0 + lessH (zs.getD (n * y + x) 0) (zs.getD (n * y + x + n) 0) := by
  have hyy : n * (y + 1) + n ≤ n * n := by rw [← Nat.mul_succ]; exact Nat.mul_le_mul_left n (by omega)
  rw [Nat.mul_add, Nat.mul_one] at hyy
  induction x with
  | zero =>
    rw [Nat.add_zero, rows_rec n hn zs (n * n) (n * y + n) (by omega), if_neg (by omega), if_pos (by rw [Nat.mul_add_mod, Nat.mod_self]), Nat.add_sub_cancel]
  | succ x ih =>
    have ih := ih (by omega)
    have m1 : (n * y + x) % n = x := by rw [Nat.mul_add_mod, Nat.mod_eq_of_lt (by omega)]
    have m2 : (n * y + x + n) % n = x := by rw [Nat.add_mod_right, m1]
    have r1 := rows_right (zs := zs) hn (n * y + x) (by omega) (by omega)
    have r2 := rows_right (zs := zs) hn (n * y + x + n) (by omega) (by omega)
    have hres := hc.res y x (by omega) (by omega)
    unfold resAt at hres
    have hsum := res_sum _ _ _ _ hres
    have d1 := hc.down (n * y + x) (by omega)
    have d2 := hc.right (n * y + x + n) (by omega) (by omega)
    rw [show n * y + x + n + 1 = n * y + n + x + 1 by omega] at d2 r2
    rw [show n * y + x + n = n * y + n + x by omega] at d1 d2 r2 ih
    rw [show n * y + (x + 1) + n = n * y + n + x + 1 by omega, show n * y + (x + 1) = n * y + x + 1 by omega]
    have b1 := less_back _ _ d1
    have b2 := less_back _ _ d2
    generalize zs.getD (n * y + x) 0 = z1 at *
    generalize zs.getD (n * y + x + 1) 0 = z2 at *
    generalize zs.getD (n * y + n + x + 1) 0 = z3 at *
    generalize zs.getD (n * y + n + x) 0 = z4 at *
    rw [r2, r1, ih]
    omega
theorem rows_below (c : Nat) (h : c + n < n * n) : (rowsTo n zs (n * n)).getD (c + n) 0 = (rowsTo n zs (n * n)).getD c 0 + lessH (zs.getD c 0) (zs.getD (c + n) 0) := by
  have h1 := Nat.div_add_mod c n
  have h2 : c / n + 1 < n := by
    have : (c + n) / n < n := div_lt_side n _ h
    rwa [Nat.add_div_right _ hn] at this
  have := rows_down hn hc (c % n) (Nat.mod_lt _ hn) (c / n) h2
  rwa [h1] at this
/-- From a cell to one beside it. -/
theorem rows_beside (a i : Nat) (ha : a < n * n) (hi : i < 4) (h : flIn n a i = true) :
    (rowsTo n zs (n * n)).getD (flT n a i) 0 = (rowsTo n zs (n * n)).getD a 0 + lessH (zs.getD a 0) (zs.getD (flT n a i) 0) := by
  have ht := (flT_lt n a i h).1
  have hcs := nb_cases n a i ha hi h
  generalize flT n a i = t at *
  rcases hcs with ⟨rfl, h1⟩ | ⟨rfl, h1⟩ | ⟨rfl, h1⟩ | ⟨rfl, h1⟩
  · exact rows_right hn a ht h1
  · exact rows_below hn hc a h1
  · have e1 := rows_right (zs := zs) hn t ha h1
    have e2 := less_back _ _ (hc.right t ht h1)
    omega
  · have e1 := rows_below hn hc t h1
    have e2 := less_back _ _ (hc.down t h1)
    omega
end

theorem list_ext_getD (xs ys : List Int) (hl : xs.length = ys.length) (h : ∀ c, c < xs.length → xs.getD c 0 = ys.getD c 0) : xs = ys := by
  refine List.ext_getElem hl fun i h1 h2 => ?_
  have := h i h1
  simpa [List.getD_eq_getElem?_getD, h1, h2] using this

/-- A clean map unwrapped by a flood is the map unwrapped along rows. -/
theorem flOut_rows (n : Nat) (hn : 1 ≤ n) (zs : List Int) (hb : ∀ z ∈ zs, 0 ≤ z ∧ z ≤ 63) (hc : Clean n zs) : flOut n zs (fun _ => true) 0 = rowsTo n zs (n * n) := by
  have hsz : 0 < n * n := Nat.mul_pos hn hn
  have hall := flAll n zs hn hb
  have h := flN_ind n zs (fun _ => true) 0 (fun S => FlOk n zs S ∧ ∀ c ∈ S.q, S.out.getD c 0 = (rowsTo n zs (n * n)).getD c 0)
    ⟨flOk_init n zs 0 hsz hb, by
      intro c h
      simp [flInit] at h
      subst h
      simp only [flInit]
      rw [getD_setI _ _ _ _ (by simpa using hsz), if_pos rfl, rows_rec n hn zs (n * n) 0 hsz, if_pos rfl]⟩
    (fun S a i ⟨h1, h2⟩ ha hi hin hm _ => ⟨flOk_push n zs S a i h1 ha hin hm, by
      intro c hcq
      have hbs := rows_beside hn hc a i (h1.qlt a ha) hi hin
      have ht : flT n a i < S.out.length := by rw [h1.outL]; exact (flT_lt n a i hin).1
      simp only [flPush] at hcq ⊢
      rw [getD_setI _ _ _ _ ht]
      rw [List.mem_append, List.mem_singleton] at hcq
      by_cases e : c = flT n a i
      · rw [if_pos e, e, hbs, h2 a ha]
      · rw [if_neg e]; exact h2 c (hcq.resolve_right e)⟩) (n * n)
  unfold flOut
  refine list_ext_getD _ _ (by rw [h.1.outL, rowsTo_length]) fun c hcl => h.2 c (hall c (by rw [h.1.outL] at hcl; exact hcl))

/-- A wrapped map again: what is congruent to it. -/
theorem wrap_back (xs zs : List Int) (hl : xs.length = zs.length) (hb : ∀ z ∈ zs, 0 ≤ z ∧ z ≤ 63) (h : ∀ c, c < xs.length → (xs.getD c 0 - zs.getD c 0) % 64 = 0) : xs.map wrapH = zs := by
  refine list_ext_getD _ _ (by simpa using hl) fun c hc => ?_
  rw [List.length_map] at hc
  have h1 := h c hc
  have h2 := getD_bd hb c
  have e : (xs.map wrapH).getD c 0 = wrapH (xs.getD c 0) := by simp [List.getD_eq_getElem?_getD, hc]
  rw [e]
  unfold wrapH
  omega
theorem rows_wrap (n : Nat) (hn : 1 ≤ n) (zs : List Int) (hb : ∀ z ∈ zs, 0 ≤ z ∧ z ≤ 63) (K : Nat) (hK : K = zs.length) : (rowsTo n zs K).map wrapH = zs :=
  wrap_back _ _ (by rw [rowsTo_length, hK]) hb (fun c hc => rows_mod n hn zs K c (by rwa [rowsTo_length] at hc))
theorem flood_wrap (n : Nat) (hn : 1 ≤ n) (zs : List Int) (hl : zs.length = n * n) (hb : ∀ z ∈ zs, 0 ≤ z ∧ z ≤ 63) : (flOut n zs (fun _ => true) 0).map wrapH = zs := by
  have hok := flOk_all n zs (fun _ => true) 0 (Nat.mul_pos hn hn) hb (n * n)
  refine wrap_back _ _ (by unfold flOut; rw [hok.outL, hl]) hb fun c hc => ?_
  exact hok.mod c (flAll n zs hn hb c (by unfold flOut at hc; rwa [hok.outL] at hc))
theorem flood_bd (n : Nat) (hn : 1 ≤ n) (h8 : n ≤ 8) (zs : List Int) (hb : ∀ z ∈ zs, 0 ≤ z ∧ z ≤ 63) : (flOut n zs (fun _ => true) 0).length = n * n ∧ ∀ c, -100000 ≤ (flOut n zs (fun _ => true) 0).getD c 0 ∧ (flOut n zs (fun _ => true) 0).getD c 0 ≤ 100000 := by
  have hok := flOk_all n zs (fun _ => true) 0 (Nat.mul_pos hn hn) hb (n * n)
  refine ⟨by unfold flOut; exact hok.outL, fun c => ?_⟩
  have h1 := hok.bd c
  have h2 := hok.qle
  have h3 : n * n ≤ 8 * 8 := Nat.mul_le_mul h8 h8
  unfold flOut
  omega

/-- A plane. -/
def planeTo (n : Nat) (u v : Int) (k : Nat) : List Int := (List.range k).map fun i => u * ((i % n : Nat) : Int) + v * ((i / n : Nat) : Int)
theorem planeTo_length (n : Nat) (u v : Int) (k : Nat) : (planeTo n u v k).length = k := by simp [planeTo]
theorem planeTo_succ (n : Nat) (u v : Int) (k : Nat) : planeTo n u v (k + 1) = planeTo n u v k ++ [u * ((k % n : Nat) : Int) + v * ((k / n : Nat) : Int)] := by simp [planeTo, List.range_succ]
theorem planeTo_at (n : Nat) (u v : Int) (k j : Nat) (h : j < k) : (planeTo n u v k).getD j 0 = u * ((j % n : Nat) : Int) + v * ((j / n : Nat) : Int) := by
  simp [planeTo, List.getD_eq_getElem?_getD, h]

theorem plane_step_right (n : Nat) (hn : 1 ≤ n) (u v : Int) (k j : Nat) (h : j < k) (h0 : j % n ≠ 0) : (planeTo n u v k).getD j 0 = (planeTo n u v k).getD (j - 1) 0 + u := by
  rw [planeTo_at _ _ _ _ _ h, planeTo_at _ _ _ _ _ (by omega)]
  have h1 := Nat.div_add_mod j n
  have h2 : j % n < n := Nat.mod_lt _ hn
  have e : j - 1 = n * (j / n) + (j % n - 1) := by omega
  have e1 : (j - 1) % n = j % n - 1 := by rw [e, Nat.mul_add_mod, Nat.mod_eq_of_lt (by omega)]
  have e2 : (j - 1) / n = j / n := by rw [e, Nat.mul_add_div hn, Nat.div_eq_of_lt (show j % n - 1 < n by omega)]; rfl
  rw [e1, e2, show ((j % n - 1 : Nat) : Int) = ((j % n : Nat) : Int) - 1 by omega, Int.mul_sub]
  omega
theorem plane_step_down (n : Nat) (hn : 1 ≤ n) (u v : Int) (k j : Nat) (h : j < k) (h0 : n ≤ j) : (planeTo n u v k).getD j 0 = (planeTo n u v k).getD (j - n) 0 + v := by
  rw [planeTo_at _ _ _ _ _ h, planeTo_at _ _ _ _ _ (by omega)]
  have e1 : (j - n) % n = j % n := (Nat.mod_eq_sub_mod h0).symm
  have e2 : (j - n) / n + 1 = j / n := by
    have := Nat.add_div_right (j - n) hn
    rw [Nat.sub_add_cancel h0] at this
    exact this.symm
  rw [e1, ← e2, Int.natCast_add, Int.mul_add]
  omega

theorem less_wrap (a b : Int) (h1 : -32 ≤ b - a) (h2 : b - a ≤ 31) : lessH (wrapH a) (wrapH b) = b - a := by unfold lessH wrapH; omega
theorem getD_map_wrap (xs : List Int) (c : Nat) : (xs.map wrapH).getD c 0 = wrapH (xs.getD c 0) := by
  rcases Nat.lt_or_ge c xs.length with h | h
  · simp [List.getD_eq_getElem?_getD, h]
  · simp [List.getD_eq_getElem?_getD, List.getElem?_eq_none h, wrapH]

/-- A plane with small steps comes back. -/
theorem plane_rows (n : Nat) (hn : 1 ≤ n) (u v : Int) (hu : -31 ≤ u ∧ u ≤ 31) (hv : -31 ≤ v ∧ v ≤ 31) (K : Nat) : rowsTo n ((planeTo n u v K).map wrapH) K = planeTo n u v K := by
  refine list_ext_getD _ _ (by rw [rowsTo_length, planeTo_length]) fun c hc => ?_
  rw [rowsTo_length] at hc
  revert hc
  induction c using Nat.strongRecOn with
  | _ c ih =>
    intro hc
    rw [rows_rec n hn _ K c hc]
    simp only [getD_map_wrap]
    split
    · rename_i e
      subst e
      rw [planeTo_at _ _ _ _ _ hc]
      simp [wrapH]
    · rename_i h0
      split
      · rename_i hm
        have hnc : n ≤ c := by
          rcases Nat.lt_or_ge c n with h | h
          · rw [Nat.mod_eq_of_lt h] at hm; omega
          · exact h
        rw [ih (c - n) (by omega) (by omega)]
        have := plane_step_down n hn u v K c hc hnc
        rw [less_wrap _ _ (by omega) (by omega)]
        omega
      · rename_i hm
        rw [ih (c - 1) (by omega) (by omega)]
        have := plane_step_right n hn u v K c hc hm
        rw [less_wrap _ _ (by omega) (by omega)]
        omega

theorem abs_mul_le (u a : Int) (hu : -31 ≤ u ∧ u ≤ 31) (h0 : 0 ≤ a) : -(31 * a) ≤ u * a ∧ u * a ≤ 31 * a := by
  have h1 := Int.mul_le_mul_of_nonneg_right hu.1 h0
  have h2 := Int.mul_le_mul_of_nonneg_right hu.2 h0
  omega
theorem plane_bd (n : Nat) (hn : 1 ≤ n) (h8 : n ≤ 8) (u v : Int) (hu : -31 ≤ u ∧ u ≤ 31) (hv : -31 ≤ v ∧ v ≤ 31) (j : Nat) (hj : j < n * n) :
    -1000 ≤ u * ((j % n : Nat) : Int) + v * ((j / n : Nat) : Int) ∧ u * ((j % n : Nat) : Int) + v * ((j / n : Nat) : Int) ≤ 1000 := by
  have h1 : j % n < n := Nat.mod_lt _ hn
  have h2 := div_lt_side n j hj
  have h3 := abs_mul_le u ((j % n : Nat) : Int) hu (Int.natCast_nonneg _)
  have h4 := abs_mul_le v ((j / n : Nat) : Int) hv (Int.natCast_nonneg _)
  generalize j % n = r at *
  generalize j / n = q at *
  generalize u * (r : Int) = x at *
  generalize v * (q : Int) = y at *
  omega
end Go.Proofs.Ytlfcgbhjmdmocaa
