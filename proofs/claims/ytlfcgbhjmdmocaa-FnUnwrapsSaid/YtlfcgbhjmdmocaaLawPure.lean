/- FnUnwraps: what its first part rests on, with no program in sight. -/
import Derived.Test.YtlfcgbhjmdmocaaSlopesPure
import Derived.Test.YtlfcgbhjmdmocaaWrap
import Derived.Test.YtlfcgbhjmdmocaaFloodI2
namespace Go.Proofs.Ytlfcgbhjmdmocaa
open Go.RowKit

theorem rowsRes_len (n : Int) (zs : List Int) : (rowsRes n zs).length ≤ zs.length := by
  unfold rowsRes
  split
  · simp [rowsOut, rowsTo_length]
  · simp
theorem resRes_len (n : Int) (zs : List Int) : (resRes n zs).length ≤ 1000000 := by
  unfold resRes
  split
  · rename_i h
    obtain ⟨hs, _, _⟩ := wcode_zero h
    unfold resOut
    rw [resTo_length]
    have : n.toNat ≤ 8 := by rcases sideB_iff.1 hs with rfl | rfl | rfl | rfl <;> decide
    have := Nat.mul_le_mul (show n.toNat - 1 ≤ 8 by omega) (show n.toNat - 1 ≤ 8 by omega)
    omega
  · simp

/-- The wave that is open everywhere. -/
def openW (m : Nat) : Nat → Nat × Nat := fun i => plainC (upto (m * m) (fun _ => (1065353216, 0)) i)
theorem open1 : maskB ((1 : Nat) : Int) (openW 1) = true := by kernel_rfl
theorem open2 : maskB ((2 : Nat) : Int) (openW 2) = true := by kernel_rfl
theorem open4 : maskB ((4 : Nat) : Int) (openW 4) = true := by kernel_rfl
theorem open8 : maskB ((8 : Nat) : Int) (openW 8) = true := by kernel_rfl
theorem open_mask (m : Nat) (hm : sideB (m : Int) = true) : maskB (m : Int) (openW m) = true := by
  have h : m = 1 ∨ m = 2 ∨ m = 4 ∨ m = 8 := by rcases sideB_iff.1 hm with h | h | h | h <;> omega
  rcases h with rfl | rfl | rfl | rfl
  · exact open1
  · exact open2
  · exact open4
  · exact open8
theorem plain_one : plainC (1065353216, 0) = (1065353216, 0) := by kernel_rfl
theorem one_zC : zC (1065353216, 0) = false := by kernel_rfl
theorem one_fin : finC (1065353216, 0) = true := by kernel_rfl
theorem open_in (m i : Nat) (h : i < m * m) : zC (openW m i) = false := by
  unfold openW upto
  rw [if_pos h, plain_one, one_zC]

theorem flPart_congr (n : Nat) (hs : List Int) (M M' : Nat → Bool) (h : ∀ t, t < n * n → M t = M' t) (a : Nat) (S : Fl) (i : Nat) : flPart n hs M a S i = flPart n hs M' a S i := by
  induction i with
  | zero => rfl
  | succ i ih =>
    rw [flPart, flPart, ih]
    unfold flStep
    split
    · rename_i hin
      rw [h _ (flT_lt n a i hin).1]
    · rfl
theorem flN_congr (n : Nat) (hs : List Int) (M M' : Nat → Bool) (s : Nat) (h : ∀ t, t < n * n → M t = M' t) (k : Nat) : flN n hs M s k = flN n hs M' s k := by
  induction k with
  | zero => rfl
  | succ k ih => rw [flN, flN, ih, flPart_congr n hs M M' h]

theorem wcode_wave {m : Nat} {zs : List Int} (h : wcode (m : Int) zs = 0) : sideB (m : Int) = true ∧ 1 ≤ m ∧ m ≤ 8 ∧ zs.length = m * m ∧ (∀ z ∈ zs, 0 ≤ z ∧ z ≤ 63) := by
  obtain ⟨hs, hlen, hz⟩ := wcode_zero h
  have hm : 1 ≤ m ∧ m ≤ 8 := by rcases sideB_iff.1 hs with h | h | h | h <;> omega
  refine ⟨hs, hm.1, hm.2, ?_, hz⟩
  have h1 : ((zs.length : Nat) : Int) = ((m * m : Nat) : Int) := by rw [hlen]; simp
  omega

theorem flood_open {m : Nat} {zs : List Int} (h : wcode (m : Int) zs = 0) : flCode (m : Int) zs m (openW m) 0 0 = 0 ∧ flRes (m : Int) zs m (openW m) 0 0 = flOut m zs (fun _ => true) 0 := by
  obtain ⟨hs, h1, h8, hl, hz⟩ := wcode_wave h
  have hpos : 0 < m * m := Nat.mul_pos h1 h1
  have h0 : flAt (m : Int) 0 0 = 0 := by simp [flAt]
  have hin : inR 0 0 ((m : Int) - 1) = true := inR_iff.2 ⟨by omega, by omega⟩
  have hc : flCode (m : Int) zs m (openW m) 0 0 = 0 := by
    unfold flCode
    rw [h0, open_mask m hs, h, open_in m 0 hpos, hin]
    simp
  refine ⟨hc, ?_⟩
  unfold flRes
  rw [if_pos hc, h0, Int.toNat_natCast]
  unfold flOut
  rw [flN_congr m zs _ (fun _ => true) 0 (fun t ht => by rw [open_in m t ht]; rfl)]

theorem hmB_of (m : Nat) (zs : List Int) (hs : sideB (m : Int) = true) (hl : zs.length = m * m) (hb : ∀ c, -100000 ≤ zs.getD c 0 ∧ zs.getD c 0 ≤ 100000) : hmB (m : Int) zs = true := by
  unfold hmB
  have h1 : ((zs.length : Int) == (m : Int) * m) = true := by rw [hl]; simp
  have h2 : zs.any (outR (-100000) 100000) = false := by
    rw [List.any_eq_false]
    intro x hx
    obtain ⟨j, hj, rfl⟩ := List.mem_iff_getElem.1 hx
    have := hb j
    rw [List.getD_eq_getElem?_getD, List.getElem?_eq_getElem hj] at this
    simp at this
    simp [outR, inR]
    omega
  rw [hs, h1, h2]; rfl

theorem rows_hm {m : Nat} {zs : List Int} (h : wcode (m : Int) zs = 0) : rowsRes (m : Int) zs = rowsTo m zs (m * m) ∧ hmB (m : Int) (rowsTo m zs (m * m)) = true ∧ wrapRes (m : Int) (rowsTo m zs (m * m)) = zs := by
  obtain ⟨hs, h1, h8, hl, hz⟩ := wcode_wave h
  have hb : hmB (m : Int) (rowsTo m zs (m * m)) = true := hmB_of m _ hs (rowsTo_length _ _ _) (fun c => by
    rcases Nat.lt_or_ge c (m * m) with hc | hc
    · have := rowsTo_bd m h1 zs (getD_bd hz 0) (m * m) c hc
      have : m * m ≤ 8 * 8 := Nat.mul_le_mul h8 h8
      omega
    · rw [List.getD_eq_getElem?_getD, List.getElem?_eq_none (by rw [rowsTo_length]; exact hc)]
      simp)
  refine ⟨by unfold rowsRes rowsOut; rw [if_pos h, hl, Int.toNat_natCast], hb, ?_⟩
  unfold wrapRes
  rw [if_pos hb, rows_wrap m h1 zs hz (m * m) hl.symm]
theorem flood_hm {m : Nat} {zs : List Int} (h : wcode (m : Int) zs = 0) : hmB (m : Int) (flOut m zs (fun _ => true) 0) = true ∧ wrapRes (m : Int) (flOut m zs (fun _ => true) 0) = zs := by
  obtain ⟨hs, h1, h8, hl, hz⟩ := wcode_wave h
  have hf := flood_bd m h1 h8 zs hz
  have hb := hmB_of m _ hs hf.1 hf.2
  refine ⟨hb, ?_⟩
  unfold wrapRes
  rw [if_pos hb, flood_wrap m h1 zs hl hz]

/-- The tests on neighbours, one cell after another. -/
def halfN (a b : Int) : Bool := (b - a - 32).tmod 64 != 0
def clnStep (m : Nat) (zs : List Int) (k : Nat) (b : Bool) : Bool :=
  (if k % m + 1 < m then b && halfN (zs.getD k 0) (zs.getD (k + 1) 0) else b) && (if k + m < m * m then halfN (zs.getD k 0) (zs.getD (k + m) 0) else true)
def clnTo (m : Nat) (zs : List Int) (b : Bool) : Nat → Bool
  | 0 => b
  | k + 1 => clnStep m zs k (clnTo m zs b k)

theorem halfN_iff (a b : Int) : halfN a b = true ↔ (b - a - 32) % 64 ≠ 0 := by
  unfold halfN
  have h1 := Int.tmod_add_mul_tdiv (b - a - 32) 64
  have h2 := Int.lt_tmod_of_pos (b - a - 32) (show (0 : Int) < 64 by omega)
  have h3 := Int.tmod_lt_of_pos (b - a - 32) (show (0 : Int) < 64 by omega)
  generalize (b - a - 32).tmod 64 = t at *
  generalize (b - a - 32).tdiv 64 = q at *
  rw [bne_iff_ne]
  omega
theorem clnTo_start (m : Nat) (zs : List Int) (b : Bool) (k : Nat) (h : clnTo m zs b k = true) : b = true := by
  induction k with
  | zero => exact h
  | succ k ih =>
    rw [clnTo, clnStep, Bool.and_eq_true] at h
    apply ih
    have h1 := h.1
    split at h1
    · rw [Bool.and_eq_true] at h1; exact h1.1
    · exact h1
theorem clnTo_all (m : Nat) (zs : List Int) (b : Bool) (K : Nat) (h : clnTo m zs b K = true) : ∀ k, k < K → (k % m + 1 < m → halfN (zs.getD k 0) (zs.getD (k + 1) 0) = true) ∧ (k + m < m * m → halfN (zs.getD k 0) (zs.getD (k + m) 0) = true) := by
  induction K with
  | zero => intro k hk; omega
  | succ K ih =>
    rw [clnTo, clnStep, Bool.and_eq_true] at h
    obtain ⟨h1, h2⟩ := h
    have h0 : clnTo m zs b K = true := by
      split at h1
      · rw [Bool.and_eq_true] at h1; exact h1.1
      · exact h1
    intro k hk
    by_cases e : k < K
    · exact ih h0 k e
    · have : k = K := by omega
      subst this
      refine ⟨fun hc => ?_, fun hc => ?_⟩
      · rw [if_pos hc, Bool.and_eq_true] at h1; exact h1.2
      · rw [if_pos hc] at h2; exact h2

theorem resTo_mem (m : Nat) (zs : List Int) (Y y x : Nat) (hy : y < Y) (hx : x < m - 1) : resAt m zs y x ∈ resTo m zs Y := by
  unfold resTo
  rw [List.mem_flatMap]
  exact ⟨y, List.mem_range.2 hy, by unfold resRow; exact List.mem_map.2 ⟨x, List.mem_range.2 hx, rfl⟩⟩
/-- What passes all tests is clean: its flood is its rows. -/
theorem clean_of {m : Nat} {zs : List Int} (h : wcode (m : Int) zs = 0) (hc : clnTo m zs ((resRes (m : Int) zs).all (fun x => x == 0)) (m * m) = true) : flOut m zs (fun _ => true) 0 = rowsTo m zs (m * m) := by
  obtain ⟨hs, h1, h8, hl, hz⟩ := wcode_wave h
  have h0 := clnTo_start _ _ _ _ hc
  have ha := clnTo_all _ _ _ _ hc
  refine flOut_rows m h1 zs hz ⟨fun y x hy hx => ?_, fun c hcl hcc => ?_, fun c hcc => ?_⟩
  · have hm := resTo_mem m zs (m - 1) y x hy hx
    have e : resRes (m : Int) zs = resTo m zs (m - 1) := by unfold resRes resOut; rw [if_pos h, Int.toNat_natCast]
    rw [e, List.all_eq_true] at h0
    simpa using h0 _ hm
  · exact (halfN_iff _ _).1 ((ha c hcl).1 hcc)
  · exact (halfN_iff _ _).1 ((ha c (by omega)).2 hcc)
theorem flRes_len (n : Int) (zs : List Int) (mn : Int) (c : Nat → Nat × Nat) (y x : Int) : (flRes n zs mn c y x).length ≤ 1000000 := by
  unfold flRes
  split
  · rename_i h
    obtain ⟨hw, _, _, hy, hx, _⟩ := flCode_none h
    have hs := (wcode_zero hw).1
    obtain ⟨m, rfl⟩ : ∃ m : Nat, n = (m : Int) := ⟨n.toNat, by rcases sideB_iff.1 hs with h | h | h | h <;> omega⟩
    obtain ⟨_, m1, m8, _, hz⟩ := wcode_wave hw
    obtain ⟨y', rfl⟩ := Int.eq_ofNat_of_zero_le hy.1
    obtain ⟨x', rfl⟩ := Int.eq_ofNat_of_zero_le hx.1
    have ht : flAt (m : Int) y' x' < m * m := by
      unfold flAt
      rw [show (m : Int) * (y' : Int) + x' = ((m * y' + x' : Nat) : Int) by simp, Int.toNat_natCast]
      have h1 : m * (y' + 1) ≤ m * m := Nat.mul_le_mul_left m (by omega)
      rw [Nat.mul_add, Nat.mul_one] at h1
      omega
    have hok := flOk_all m zs (fun i => !zC (c i)) (flAt (m : Int) y' x') ht hz (m * m)
    have hmm : m * m ≤ 8 * 8 := Nat.mul_le_mul m8 m8
    rw [Int.toNat_natCast]
    unfold flOut
    rw [hok.outL]
    omega
  · simp

theorem sloR_bd (n : Int) (zs : List Int) : (sloRes n zs).length ≤ 1000000 := by
  unfold sloRes
  split <;> simp

/-- What the law asks of a wrapped difference. -/
theorem wd_ok (h k : Int) (e : wdCode h k = 0) : wdVal h k = lessH h k ∧ -100000 ≤ h ∧ h ≤ 100000 ∧ -100000 ≤ k ∧ k ≤ 100000 := by
  unfold wdCode at e
  split at e
  · rename_i hb
    obtain ⟨h1, h2⟩ := hb
    refine ⟨by unfold wdVal; rw [if_pos ⟨h1, h2⟩], ?_⟩
    have := inR_iff.1 h1
    have := inR_iff.1 h2
    omega
  · omega
theorem less_tmod (h k : Int) : (k - h - lessH h k).tmod 64 = 0 := by
  apply Int.tmod_eq_zero_of_dvd
  apply Int.dvd_of_emod_eq_zero
  unfold lessH
  omega
theorem wd_code (h k : Int) : wdCode h k = 0 ∨ wdCode h k = 2 := by
  unfold wdCode
  split
  · exact .inl rfl
  · exact .inr rfl
theorem pow_side (r : Int) (h0 : 0 ≤ r) (h1 : r < 4) : ∃ m : Nat, wrap64 (2 ^ r.toNat) = (m : Int) ∧ sideB (m : Int) = true := by
  have h : r = 0 ∨ r = 1 ∨ r = 2 ∨ r = 3 := by omega
  rcases h with rfl | rfl | rfl | rfl
  · exact ⟨1, by simp [wrap64], by simp [sideB]⟩
  · exact ⟨2, by simp [wrap64], by simp [sideB]⟩
  · exact ⟨4, by simp [wrap64], by simp [sideB]⟩
  · exact ⟨8, by simp [wrap64], by simp [sideB]⟩

/-- A plane with small steps: wrapped, unwrapped, its slopes. -/
theorem plane_ok (m : Nat) (hs : sideB (m : Int) = true) (u v : Int) (hu : -31 ≤ u ∧ u ≤ 31) (hv : -31 ≤ v ∧ v ≤ 31) :
    hmB (m : Int) (planeTo m u v (m * m)) = true ∧ wcode (m : Int) ((planeTo m u v (m * m)).map wrapH) = 0 ∧ rowsRes (m : Int) ((planeTo m u v (m * m)).map wrapH) = planeTo m u v (m * m) ∧
    ∃ a b, sloRes (m : Int) (planeTo m u v (m * m)) = [a, b] ∧ (m = 1 ∨ (2 ≤ m ∧ a = u ∧ b = v)) := by
  have hm : 1 ≤ m ∧ m ≤ 8 := by rcases sideB_iff.1 hs with h | h | h | h <;> omega
  have hb : hmB (m : Int) (planeTo m u v (m * m)) = true := hmB_of m _ hs (planeTo_length _ _ _ _) (fun c => by
    rcases Nat.lt_or_ge c (m * m) with hc | hc
    · rw [planeTo_at _ _ _ _ _ hc]
      have := plane_bd m hm.1 hm.2 u v hu hv c hc
      omega
    · rw [List.getD_eq_getElem?_getD, List.getElem?_eq_none (by rw [planeTo_length]; exact hc)]
      simp)
  have hwb : ∀ z ∈ (planeTo m u v (m * m)).map wrapH, 0 ≤ z ∧ z ≤ 63 := by
    intro z hz
    obtain ⟨y, _, rfl⟩ := List.mem_map.1 hz
    unfold wrapH
    omega
  have hhm : hmB (m : Int) ((planeTo m u v (m * m)).map wrapH) = true := hmB_of m _ hs (by simp [planeTo_length]) (fun c => by
    have := getD_bd hwb c
    omega)
  have hw : wcode (m : Int) ((planeTo m u v (m * m)).map wrapH) = 0 := by
    unfold wcode
    rw [if_pos hhm, if_neg]
    rw [Bool.not_eq_true, List.any_eq_false]
    intro x hx
    have := hwb x hx
    simp [outR, inR]
    omega
  refine ⟨hb, hw, ?_, mostOf (sloR m (planeTo m u v (m * m)) (m * m)), mostOf (sloC m (planeTo m u v (m * m)) (m * m)), ?_, ?_⟩
  · have hl : ((planeTo m u v (m * m)).map wrapH).length = m * m := by simp [planeTo_length]
    unfold rowsRes rowsOut
    rw [if_pos hw, Int.toNat_natCast, hl, plane_rows m hm.1 u v hu hv]
  · unfold sloRes
    rw [if_pos hb, Int.toNat_natCast, planeTo_length]
  · rcases Nat.lt_or_ge m 2 with h | h
    · exact .inl (by omega)
    · exact .inr ⟨h, plane_slopes m h u v⟩
end Go.Proofs.Ytlfcgbhjmdmocaa
