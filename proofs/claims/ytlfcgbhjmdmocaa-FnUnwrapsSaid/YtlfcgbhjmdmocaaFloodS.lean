/- spec.UnwrapFlood. -/
import Derived.Test.YtlfcgbhjmdmocaaFloodPure
import Derived.Test.YtlfcgbhjmdmocaaIsMaskS
import Derived.Test.YtlfcgbhjmdmocaaPlain
namespace Go.Proofs.Ytlfcgbhjmdmocaa
open Go.RowKit

/-- The cell of the start. -/
def flAt (n y x : Int) : Nat := (n * y + x).toNat
/-- The code. -/
def flCode (n : Int) (zs : List Int) (mn : Int) (c : Nat → Nat × Nat) (y x : Int) : Int :=
  if (wcode n zs == 1 || !maskB mn c) = true then 1
  else if (!(mn == n) || !inR y 0 (n - 1) || !inR x 0 (n - 1)) = true then 2
  else if (!(wcode n zs == 0) || zC (c (flAt n y x))) = true then 5 else 0
def flRes (n : Int) (zs : List Int) (mn : Int) (c : Nat → Nat × Nat) (y x : Int) : List Int :=
  if flCode n zs mn c y x = 0 then flOut n.toNat zs (fun i => !zC (c i)) (flAt n y x) else []

theorem mask_side {n : Int} {c : Nat → Nat × Nat} (h : maskB n c = true) : sideB n = true := by
  simp only [maskB, waveB, Bool.and_eq_true] at h
  exact h.1.1

/-- What a start is whose code is none. -/
theorem flCode_none {n : Int} {zs : List Int} {mn : Int} {c : Nat → Nat × Nat} {y x : Int} (h : flCode n zs mn c y x = 0) :
    wcode n zs = 0 ∧ maskB mn c = true ∧ mn = n ∧ (0 ≤ y ∧ y ≤ n - 1) ∧ (0 ≤ x ∧ x ≤ n - 1) ∧ zC (c (flAt n y x)) = false := by
  unfold flCode at h
  split at h
  · omega
  · rename_i h1
    split at h
    · omega
    · rename_i h2
      split at h
      · omega
      · rename_i h3
        simp only [Bool.or_eq_true, not_or, Bool.not_eq_true', Bool.not_eq_true, beq_iff_eq, Bool.not_eq_false, inR_iff] at h1 h2 h3
        exact ⟨h3.1, h1.2, h2.1.1, h2.1.2, h2.2, h3.2⟩

/-- A whole wave loaded, where a guard lets it be. -/
theorem wpList_load_wave_g {ops : Array Oper} {rest : List Oper} {o : Oper} {a : Act} {w : World} {Q : Exit → Act → World → Prop} (hw : Region.wanted o (yielded ops a.tmps) = true) (x : Operand) (ho : o.op = .load 33 x)
    (g : Nat) (hx : a.eval x = .pointer (some ⟨g, 0, none⟩)) (n : Int) (c : Nat → Nat × Nat) (t : TypeId) (fr : Nat × Nat) (hg : w.heap[g]? = some (.cells (warr n c) t fr))
    (h : wpList Try.prog ops Q rest (a.put o.dst (.agg (warr n c))) w) : wpList Try.prog ops Q (o :: rest) a w := by
  unfold wpList
  rw [if_pos hw]
  exact .inl (wp_load_row 33 x ho g hx t (warr n c) fr _ hg Try.underlying33 rfl (by rw [warr_size]; exact size65) h)

set_option maxRecDepth 100000 in
set_option maxHeartbeats 1500000 in
theorem unwrapFloodS_no (n : Int) (b off cap : Nat) (zs : List Int) (mn : Int) (c : Nat → Nat × Nat) (y x : Int) (w : World) (hi : IntsIn w b off zs) (hl : zs.length ≤ 1000000) (hcode : flCode n zs mn c y x ≠ 0) :
    Calls Try.prog 15 #[.int .i64 n, .slice (some ⟨b, off, none⟩) zs.length cap, .agg (warr mn c), .int .i64 y, .int .i64 x] w (ResI w [] (flCode n zs mn c y x)) := by
  have hbox := heap_alloc_new w (.cells (warr mn c) 33)
  have hb0 : Below w.heap.size w (w.alloc (.cells (warr mn c) 33)) := (Below.refl _ _).alloc (Nat.le_refl _) _
  obtain ⟨k1, k2, k3⟩ := cells_of hbox
  have s0 := (k1 0).trans (warr_zero mn c)
  have hcl := fun k h => (k1 (1 + k)).trans (warr_cell mn c k h)
  have Hcl := Lib.hid hcl
  have Hbox := Lib.hid hbox
  have hi0 : IntsIn (w.alloc (.cells (warr mn c) 33)) b off zs := hi.same (S := fun _ => False) ((Same.refl _ _).alloc _) (fun f => f)
  have HW := l07Code_any n b off cap zs _ hi0 hl
  clear hbox k1 k2 k3 hcl
  by_cases h1 : (wcode n zs == 1) = true
  · have hc : flCode n zs mn c y x = 1 := by simp [flCode, h1]
    rw [hc]
    rw [beq_iff_eq.1 h1] at HW
    clear hc h1 hcode s0
    go_enter Try.func15, Try.ntmps15
    go_wp2_with (first | (go_at_call 30; refine HW.mono ?_; rintro e w' ⟨rfl, rfl⟩))
    go_ret2
    exact ⟨_, rfl, .inl ⟨rfl, rfl⟩, hb0⟩
  · cases h2 : maskB mn c with
    | false =>
      have hc : flCode n zs mn c y x = 1 := by simp [flCode, h2]
      rw [hc]
      have HM := fun W => l03Is_any mn c W
      rw [h2] at HM
      have d1 : (wcode n zs == 1) = false := by simpa using h1
      generalize wcode n zs = cw at *
      have HM := Lib.hid HM
      clear hc h1 hcode s0 h2
      go_enter Try.func15, Try.ntmps15
      go_wp2_with (first
        | (go_at_call 30; refine HW.mono ?_; rintro e w' ⟨rfl, rfl⟩)
        | (refine wpList_load_wave_g rfl (.tmp 7) (by with_reducible rfl) _ rfl _ _ _ _ Hbox.out ?_)
        | (go_at_call 45; refine (HM.out _).mono ?_; rintro e w1 ⟨rfl, hb1⟩))
      go_ret2
      exact ⟨_, rfl, .inl ⟨rfl, rfl⟩, hb0.trans (hb1.mono hb0.size)⟩
    | true =>
      have hms := mask_side h2
      have d1 : (wcode n zs == 1) = false := by simpa using h1
      have HM := fun W => l03Is_any mn c W
      rw [h2] at HM
      have hcd : flCode n zs mn c y x = if (!(mn == n) || !inR y 0 (n - 1) || !inR x 0 (n - 1)) = true then 2 else if (!(wcode n zs == 0) || zC (c (flAt n y x))) = true then 5 else 0 := by
        simp [flCode, h2, h1]
      rw [hcd] at hcode ⊢
      have HM := Lib.hid HM
      clear h2 hcd h1
      by_cases h3 : mn = n
      · subst h3
        have hn1 : 1 ≤ mn ∧ mn ≤ 8 := by rcases sideB_iff.1 hms with h | h | h | h <;> rw [h] <;> omega
        have w1 : IntKind.i64.wrap (mn - 1) = mn - 1 := IntWalk.i64_in _ (by omega)
        have e3 : (mn != mn) = false := by simp
        clear hms
        cases h4 : inR y 0 (mn - 1) with
        | false =>
          rw [if_pos (by simp)]
          have H4 := Lib.hid h4
          generalize wcode mn zs = cw at *
          clear hcode h4
          go_enter Try.func15, Try.ntmps15
          go_wp2_with (first
            | (go_at_call 30; refine HW.mono ?_; rintro e w' ⟨rfl, rfl⟩)
            | (refine wpList_load_wave_g rfl (.tmp 7) (by with_reducible rfl) _ rfl _ _ _ _ Hbox.out ?_)
            | (go_at_call 45; refine (HM.out _).mono ?_; rintro e w1 ⟨rfl, hb1⟩; have s1 := (hb1.cell (p := ⟨w.heap.size, 0, none⟩) (by simp)).trans s0)
            | (go_at_call 46; refine (l01In_any _ _ _ _).mono ?_; rintro e w2 ⟨rfl, rfl⟩; rw [H4.out]))
          go_ret2
          exact ⟨_, rfl, .inl ⟨rfl, rfl⟩, hb0.trans (hb1.mono hb0.size)⟩
        | true =>
          have Hy := Lib.hid (fun W => (l01In_any y 0 (mn - 1) W))
          rw [h4] at Hy
          have ⟨y0, y1⟩ := inR_iff.1 h4
          clear h4
          cases h5 : inR x 0 (mn - 1) with
          | false =>
            rw [if_pos (by simp)]
            have Hx := Lib.hid (fun W => (l01In_any x 0 (mn - 1) W))
            rw [h5] at Hx
            generalize wcode mn zs = cw at *
            clear hcode h5
            go_enter Try.func15, Try.ntmps15
            go_wp2_with (first
            | (go_at_call 30; refine HW.mono ?_; rintro e w' ⟨rfl, rfl⟩)
            | (refine wpList_load_wave_g rfl (.tmp 7) (by with_reducible rfl) _ rfl _ _ _ _ Hbox.out ?_)
            | (go_at_call 45; refine (HM.out _).mono ?_; rintro e w1 ⟨rfl, hb1⟩; have s1 := (hb1.cell (p := ⟨w.heap.size, 0, none⟩) (by simp)).trans s0)
            | (go_at_call_of 46 (Value.int IntKind.i64 y); refine (Hy.out _).mono ?_; rintro e w2 ⟨rfl, rfl⟩)
            | (go_at_call_of 46 (Value.int IntKind.i64 x); refine (Hx.out _).mono ?_; rintro e w2 ⟨rfl, rfl⟩))
            go_ret2
            exact ⟨_, rfl, .inl ⟨rfl, rfl⟩, hb0.trans (hb1.mono hb0.size)⟩
          | true =>
            rw [if_neg (by simp [inR_iff.2 ⟨y0, y1⟩, h5])] at hcode ⊢
            have ⟨x0, x1⟩ := inR_iff.1 h5
            have Hx := Lib.hid (fun W => (l01In_any x 0 (mn - 1) W))
            rw [h5] at Hx
            clear h5
            cases h6 : (wcode mn zs == 0) with
            | false =>
              rw [if_pos (by simp)]
              have d6 : (wcode mn zs != 0) = true := by simpa using h6
              generalize wcode mn zs = cw at *
              clear hcode h6
              go_enter Try.func15, Try.ntmps15
              go_wp2_with (first
            | (go_at_call 30; refine HW.mono ?_; rintro e w' ⟨rfl, rfl⟩)
            | (refine wpList_load_wave_g rfl (.tmp 7) (by with_reducible rfl) _ rfl _ _ _ _ Hbox.out ?_)
            | (go_at_call 45; refine (HM.out _).mono ?_; rintro e w1 ⟨rfl, hb1⟩; have s1 := (hb1.cell (p := ⟨w.heap.size, 0, none⟩) (by simp)).trans s0)
              | (go_at_call_of 46 (Value.int IntKind.i64 y); refine (Hy.out _).mono ?_; rintro e w2 ⟨rfl, rfl⟩)
              | (go_at_call_of 46 (Value.int IntKind.i64 x); refine (Hx.out _).mono ?_; rintro e w2 ⟨rfl, rfl⟩))
              go_ret2
              exact ⟨_, rfl, .inl ⟨rfl, rfl⟩, hb0.trans (hb1.mono hb0.size)⟩
            | true =>
              cases h7 : zC (c (flAt mn y x)) with
              | false => rw [h6, h7] at hcode; exact absurd rfl hcode
              | true =>
                rw [if_pos (by simp)]
                have d6 : (wcode mn zs != 0) = false := by simpa using h6
                obtain ⟨m, rfl⟩ : ∃ m : Nat, mn = (m : Int) := ⟨mn.toNat, by omega⟩
                obtain ⟨yn, rfl⟩ : ∃ m : Nat, y = (m : Int) := ⟨y.toNat, by omega⟩
                obtain ⟨xn, rfl⟩ : ∃ m : Nat, x = (m : Int) := ⟨x.toNat, by omega⟩
                have hk : m * yn + xn < 64 := by
                  have : m * yn ≤ 8 * 7 := Nat.mul_le_mul (by omega) (by omega)
                  rcases Nat.lt_or_ge xn 8 with hh | hh
                  · omega
                  · omega
                have hca := Hcl.out (m * yn + xn) hk
                have hfl : flAt (m : Int) yn xn = m * yn + xn := by unfold flAt; rw [show (m : Int) * yn + xn = ((m * yn + xn : Nat) : Int) by simp, Int.toNat_natCast]
                rw [hfl] at h7
                have hmul : (m : Int) * yn = ((m * yn : Nat) : Int) := by simp
                generalize m * yn = p at hk hca h7 hmul
                simp only [cx] at hca
                simp only [zC, zF, Bool.and_eq_true] at h7
                obtain ⟨z1, z2⟩ := h7
                generalize wcode m zs = cw at *
                clear hcode h6 hfl
                have Hca := Lib.hid hca
                clear hca
                go_enter Try.func15, Try.ntmps15
                go_wp2_with (first
            | (go_at_call 30; refine HW.mono ?_; rintro e w' ⟨rfl, rfl⟩)
            | (refine wpList_load_wave_g rfl (.tmp 7) (by with_reducible rfl) _ rfl _ _ _ _ Hbox.out ?_)
            | (go_at_call 45; refine (HM.out _).mono ?_; rintro e w1 ⟨rfl, hb1⟩; have s1 := (hb1.cell (p := ⟨w.heap.size, 0, none⟩) (by simp)).trans s0; have ca := (hb1.cell (p := ⟨w.heap.size, 1 + (p + xn), none⟩) (by simp)).trans Hca.out)
                | (go_at_call_of 46 (Value.int IntKind.i64 (yn : Int)); refine (Hy.out _).mono ?_; rintro e w2 ⟨rfl, rfl⟩)
                | (go_at_call_of 46 (Value.int IntKind.i64 (xn : Int)); refine (Hx.out _).mono ?_; rintro e w2 ⟨rfl, rfl⟩))
                go_ret2
                exact ⟨_, rfl, .inl ⟨rfl, rfl⟩, hb0.trans (hb1.mono hb0.size)⟩
      · have e3 : (mn != n) = true := by simpa using h3
        have hif : (!(mn == n) || !inR y 0 (n - 1) || !inR x 0 (n - 1)) = true := by simp [h3]
        rw [if_pos hif]
        generalize wcode n zs = cw at *
        clear hcode hif
        go_enter Try.func15, Try.ntmps15
        go_wp2_with (first
            | (go_at_call 30; refine HW.mono ?_; rintro e w' ⟨rfl, rfl⟩)
            | (refine wpList_load_wave_g rfl (.tmp 7) (by with_reducible rfl) _ rfl _ _ _ _ Hbox.out ?_)
            | (go_at_call 45; refine (HM.out _).mono ?_; rintro e w1 ⟨rfl, hb1⟩; have s1 := (hb1.cell (p := ⟨w.heap.size, 0, none⟩) (by simp)).trans s0))
        go_ret2
        exact ⟨_, rfl, .inl ⟨rfl, rfl⟩, hb0.trans (hb1.mono hb0.size)⟩

end Go.Proofs.Ytlfcgbhjmdmocaa
