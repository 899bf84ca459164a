/- l03Is: is it a mask? -/
import Derived.Test.YtlfcgbhjmdmocaaIsMask
namespace Go.Proofs.Ytlfcgbhjmdmocaa
open Go.RowKit

set_option maxRecDepth 100000 in
set_option maxHeartbeats 2000000 in
theorem l03Is_any (n : Int) (c : Nat → Nat × Nat) (w : World) :
    Calls Try.prog 45 #[.agg (warr n c)] w fun e w' => e = .returned (.bool (maskB n c)) ∧ Below w.heap.size w w' := by
  have hbox := heap_alloc_new w (.cells (warr n c) 33)
  have hb0 : Below w.heap.size w (w.alloc (.cells (warr n c) 33)) := (Below.refl _ _).alloc (Nat.le_refl _) _
  have hsz65 : (Try.prog.info? 33).map (·.size) = some (warr n c).size := by rw [warr_size]; exact size65
  obtain ⟨mb, hmb⟩ : ∃ mb, mb = maskB n c := ⟨_, rfl⟩
  rw [← hmb]
  have Hmb := Lib.hid hmb
  have Hbox := Lib.hid hbox
  clear hmb hbox
  go_enter Try.func45, Try.ntmps45
  go_wp2_with fail
  go_loop [3] (fun i => ∃ k : Nat, k ≤ 64 ∧ i = .int .i64 k ∧ (List.range k).all (fun i => bitC (c i)) = true) (fun i => 64 - (intOf i).toNat)
  case atStart => exact ⟨0, Nat.zero_le _, rfl, by simp⟩
  case round =>
    obtain ⟨k, hk, rfl, hall⟩ := hrel
    have Hall := Lib.hid hall
    clear hall
    by_cases hlt : k < 64
    · have hcr : (w.alloc (.cells (warr n c) 33)).cell? ⟨w.heap.size, 1 + k, none⟩ = some (cx (c k)) := by
        rw [(cells_of Hbox.out).1]; exact warr_cell n c k hlt
      have hd1 : decide ((k : Int) < 64) = true := by simp; omega
      have Hstep := Lib.hid (all_range_succ (fun i => bitC (c i)) k)
      cases h1 : zC (c k) with
      | true =>
        have Hbit := Lib.hid (show bitC (c k) = true from by simp [bitC, h1])
        unfold zC zF at h1
        simp only [Bool.and_eq_true] at h1
        obtain ⟨z1, z2⟩ := h1
        go_wp2_with fail
        go_round
        case rel => exact ⟨k + 1, by omega, by go_num, by rw [Hstep.out, Hall.out, Hbit.out]; rfl⟩
        case measure => simp [intOf]; omega
      | false =>
        cases h2 : oC (c k) with
        | true =>
          have Hbit := Lib.hid (show bitC (c k) = true from by simp [bitC, h2])
          unfold zC zF at h1
          unfold oC zF at h2
          simp only [Bool.and_eq_true] at h2
          obtain ⟨o1, o2⟩ := h2
          go_wp2_with fail
          all_goals
            go_round
            case rel => exact ⟨k + 1, by omega, by go_num, by rw [Hstep.out, Hall.out, Hbit.out]; rfl⟩
            case measure => simp [intOf]; omega
        | false =>
          have Hbit := Lib.hid (show bitC (c k) = false from by simp [bitC, h1, h2])
          unfold zC zF at h1
          unfold oC zF at h2
          go_wp2_with fail
          all_goals go_ret
          all_goals refine ⟨ret_bool ?_, hb0⟩
          all_goals rw [Hmb.out, maskB, all_range_false (p := fun i => bitC (c i)) Hbit.out hlt, Bool.and_false]
    · have hke : k = 64 := by omega
      have Hke := Lib.hid hke
      have hd1 : decide ((k : Int) < 64) = false := by simp; omega
      clear hke
      go_wp2_with (with_reducible refine wpList_load_row rfl 33 (.tmp 1) rfl w.heap.size rfl 33 (warr n c) (0, 0) _ Hbox.out Try.underlying33 rfl hsz65 ?_)
      refine (l01Is_any n c _).mono ?_
      rintro e w1 ⟨rfl, hb1⟩
      have hv : waveB n c = mb := by
        have h1 := Hall.out
        rw [Hke.out] at h1
        rw [Hmb.out, maskB, h1, Bool.and_true]
      rw [hv]
      clear hv
      go_wp2_with fail
      go_ret
      exact ⟨rfl, hb0.trans (hb1.mono (by simp))⟩

end Go.Proofs.Ytlfcgbhjmdmocaa
