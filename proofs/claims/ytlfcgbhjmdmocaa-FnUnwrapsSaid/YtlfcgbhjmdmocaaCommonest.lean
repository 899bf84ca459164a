/- impl.commonest. -/
import Derived.Test.YtlfcgbhjmdmocaaSort
import Derived.Test.YtlfcgbhjmdmocaaInts
import Derived.Sort.OwnSortedInts
namespace Go.Proofs.Ytlfcgbhjmdmocaa
open Go.RowKit Go.Shelf Go.Sort

def srt (zs : List Int) : List Int := zs.mergeSort fun x y => decide (x ≤ y)
theorem srt_perm (zs : List Int) : (srt zs).Perm zs := List.mergeSort_perm _ _
theorem srt_le (zs : List Int) : (srt zs).Pairwise (· ≤ ·) := by
  have := List.pairwise_mergeSort (le := fun x y : Int => decide (x ≤ y)) (by intro a b c; simp; omega) (by intro a b; simp; omega) zs
  exact this.imp fun h => by simpa using h
theorem srt_length (zs : List Int) : (srt zs).length = zs.length := (srt_perm zs).length_eq

/-- slices.Sort at a slice of the call's own. -/
theorem sort_own (base g cap : Nat) (zs : List Int) (w : World) (hown : OwnI w base (.slice (some ⟨g, 0, none⟩) zs.length cap) zs) (hl : zs.length ≤ 1000000) :
    Calls Try.prog 72 #[.slice (some ⟨g, 0, none⟩) zs.length cap] w fun e w' => e = .returned (.tuple #[]) ∧ OwnI w' base (.slice (some ⟨g, 0, none⟩) zs.length cap) (srt zs) ∧ Same (· = g) w w' := by
  rcases hown.2 with ⟨h0, _⟩ | ⟨g', cap', cur, hv, hb, hg, hnc, hcm, hcs, htake⟩
  · cases h0
  · cases hv
    refine (AnyM.slices_Sort_int Try.sortA g 0 cap zs w (holds_of_blockI hg (by simpa using htake)) (lt_of_block hg) (by omega)).mono ?_
    rintro e w' ⟨rfl, n, os, rfl⟩
    refine ⟨rfl, ?_, ?_⟩
    · have := ownsRow_sortedI (n := n) (os := os) (ss := zs) (ts := srt zs) (srt_length zs) hb hg hnc hcm hcs
      unfold OwnI
      rw [srt_length]
      exact this
    · have hgr := grownBy_sortedI (w := w) (g := g) (n := n) (os := os) (srt zs).toArray
      exact ⟨hgr.os, hgr.tape, hgr.output, hgr.size, fun k hk hne => hgr.block k hk (by simpa using hne)⟩

theorem comTo_bd (s : List Int) (n : Nat) : (comTo s n).2.1 ≤ n ∧ (comTo s n).2.2 ≤ n := by
  induction n with
  | zero => exact ⟨Nat.le_refl _, Nat.le_refl _⟩
  | succ n ih =>
    rw [comTo]
    unfold comStep
    have : (if n = 0 ∨ s.getD n 0 ≠ s.getD (n - 1) 0 then 0 else (comTo s n).2.2) ≤ n := by split <;> omega
    generalize (if n = 0 ∨ s.getD n 0 ≠ s.getD (n - 1) 0 then 0 else (comTo s n).2.2) = k at this
    dsimp only
    split
    · exact ⟨by show k + 1 ≤ n + 1; omega, by show k + 1 ≤ n + 1; omega⟩
    · exact ⟨by show (comTo s n).2.1 ≤ n + 1; omega, by show k + 1 ≤ n + 1; omega⟩

set_option maxRecDepth 100000 in
set_option maxHeartbeats 1000000 in
theorem commonest_any (base g cap : Nat) (zs : List Int) (w : World) (hown : OwnI w base (.slice (some ⟨g, 0, none⟩) zs.length cap) zs) (hl : zs.length ≤ 1000000) :
    Calls Try.prog 48 #[.slice (some ⟨g, 0, none⟩) zs.length cap] w fun e w' => e = .returned (.int .i64 (mostOf zs)) ∧ Same (· = g) w w' := by
  go_enter Try.func48, Try.ntmps48
  go_wp2_with fail
  refine (sort_own base g cap zs w hown hl).mono ?_
  rintro e w1 ⟨rfl, ho1, hs1⟩
  have Hmost := Lib.hid (com_most zs (srt zs) (srt_perm zs) (srt_le zs))
  have Hbd := Lib.hid (comTo_bd (srt zs))
  have hlen := srt_length zs
  generalize srt zs = ys at *
  have HL := Lib.hid hlen
  have hin : 0 < ys.length → IntsIn w1 g 0 ys := fun h => by
    rw [← hlen] at ho1
    obtain ⟨g', cap', hv, _, _, hi, _⟩ := ho1.reads h
    have : g = g' := by simp at hv; exact hv.1
    subst this; exact hi
  have Hin := Lib.hid hin
  clear hlen
  go_wp2_with fail
  go_loopw [3, 4, 5, 12] (fun p q r i wr => ∃ k : Nat, k ≤ zs.length ∧ i = .int .i64 k ∧ p = .int .i64 (comTo ys k).1 ∧ q = .int .i64 ((comTo ys k).2.1 : Int) ∧ r = .int .i64 ((comTo ys k).2.2 : Int) ∧ Below w1.heap.size w1 wr)
    (fun _ _ _ i _ => zs.length - (intOf i).toNat)
  case atStart => exact ⟨0, Nat.zero_le _, rfl, rfl, rfl, rfl, Below.refl _ _⟩
  case round =>
    obtain ⟨k, hk, rfl, rfl, rfl, rfl, hbl⟩ := hrel
    by_cases hlt : k < zs.length
    · have hd : decide ((k : Int) < zs.length) = true := by simp; omega
      have hi1 := Hin.out (by have := HL.out; omega)
      have hi2 := hi1.below hbl hi1.lt
      have hL := HL.out
      have ck := hi2.cell k (by omega)
      have cj := hi2.cell (k - 1) (by omega)
      have hb := Hbd.out k
      have Hs := Lib.hid (show comTo ys (k + 1) = comStep ys k (comTo ys k) from rfl)
      unfold comStep at Hs
      generalize comTo ys k = st at hb Hs ⊢
      obtain ⟨b, m, q⟩ := st
      dsimp only at hb Hs ⊢
      generalize ys.getD k 0 = x at ck Hs
      generalize ys.getD (k - 1) 0 = z at cj Hs
      simp only [Nat.zero_add] at ck cj
      generalize hkk : (if k = 0 ∨ x ≠ z then 0 else q) = kk at Hs
      have hkz : (k : Int) < zs.length := by omega
      clear hi1 hi2
      by_cases e0 : k = 0
      · subst e0
        rw [if_pos (Or.inl rfl)] at hkk
        subst hkk
        obtain rfl : m = 0 := by omega
        rw [if_pos (by omega)] at Hs
        have HS := Lib.hid Hs
        clear Hs
        have t3 : decide ((0 : Int) < 1) = true := by decide
        go_wp2_with fail
        exact ⟨⟨1, by omega, by simp, by rw [HS.out], by rw [HS.out]; rfl, by rw [HS.out]; rfl, hbl⟩, by simp [intOf]; omega⟩
      · have t0 : ((k : Int) == 0) = false := by rw [beq_eq_false_iff_ne]; omega
        have i1 : (0 : Int) ≤ (k : Int) - 1 := by omega
        have i2 : (k : Int) - 1 < zs.length := by omega
        have j1 : IntKind.i64.wrap ((k : Int) - 1) = (k : Int) - 1 := IntWalk.i64_in _ (by omega)
        have j2 : ((k : Int) - 1).toNat = k - 1 := by omega
        by_cases e1 : x = z
        · subst e1
          have t1 : (x != x) = false := by simp
          rw [if_neg (fun h => h.elim e0 (fun h => h rfl))] at hkk
          subst hkk
          by_cases g1 : m < q + 1
          · rw [if_pos g1] at Hs
            have HS := Lib.hid Hs
            have t3 : decide ((m : Int) < (q : Int) + 1) = true := by simp; omega
            clear Hs
            go_wp2_with fail
            exact ⟨⟨k + 1, by omega, by simp, by rw [HS.out], by rw [HS.out]; simp, by rw [HS.out]; simp, hbl⟩, by simp [intOf]; omega⟩
          · rw [if_neg g1] at Hs
            have HS := Lib.hid Hs
            have t3 : decide ((m : Int) < (q : Int) + 1) = false := by simp; omega
            clear Hs
            go_wp2_with fail
            exact ⟨⟨k + 1, by omega, by simp, by rw [HS.out], by rw [HS.out], by rw [HS.out]; simp, hbl⟩, by simp [intOf]; omega⟩
        · have t1 : (x != z) = true := by simpa using e1
          rw [if_pos (Or.inr e1)] at hkk
          subst hkk
          by_cases g1 : m < 0 + 1
          · rw [if_pos g1] at Hs
            have HS := Lib.hid Hs
            have t3 : decide ((m : Int) < 1) = true := by simp; omega
            clear Hs
            go_wp2_with fail
            exact ⟨⟨k + 1, by omega, by simp, by rw [HS.out], by rw [HS.out]; simp, by rw [HS.out]; simp, hbl⟩, by simp [intOf]; omega⟩
          · rw [if_neg g1] at Hs
            have HS := Lib.hid Hs
            have t3 : decide ((m : Int) < 1) = false := by simp; omega
            clear Hs
            go_wp2_with fail
            exact ⟨⟨k + 1, by omega, by simp, by rw [HS.out], by rw [HS.out], by rw [HS.out]; simp, hbl⟩, by simp [intOf]; omega⟩
    · have hd : decide ((k : Int) < zs.length) = false := by simp; omega
      obtain rfl : k = zs.length := by omega
      go_wp2_with fail
      go_ret
      exact ⟨ret_int (by rw [← Hmost.out, HL.out]), hs1.trans (Same.of_below _ (Nat.le_refl _) hbl)⟩
end Go.Proofs.Ytlfcgbhjmdmocaa
