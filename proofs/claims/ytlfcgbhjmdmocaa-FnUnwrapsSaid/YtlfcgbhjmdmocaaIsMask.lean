/- IsMask and its twin in the reference. -/
import Derived.Test.YtlfcgbhjmdmocaaIsWave
import Derived.Test.YtlfcgbhjmdmocaaHeights
namespace Go.Proofs.Ytlfcgbhjmdmocaa
open Go.RowKit

/-- A cell that is 0 or 1. -/
def bitC (z : Nat × Nat) : Bool := zC z || oC z
def maskB (n : Int) (c : Nat → Nat × Nat) : Bool := waveB n c && (List.range 64).all (fun i => bitC (c i))

/-- One of the 64. -/
def any64 (p : Nat → Bool) : Bool := (List.range 64).any p

structure AnswersC (fid : Nat) (p : Nat × Nat → Bool) : Prop where
  enter : ∀ (args : Array Value) (w : World), (callFunc fid args).run Try.prog w = .ok (.enter fid args) w
  says : ∀ (z : Nat × Nat) (w : World), Calls Try.prog fid #[.complex .f32 z.1 z.2] w fun e w' => e = .returned (.bool (p z)) ∧ w = w'

/-- A row of 64 complex numbers. -/
structure CellsIn (w : World) (b off : Nat) (c : Nat → Nat × Nat) : Prop where
  lt : b < w.heap.size
  cell : ∀ j, j < 64 → w.cell? ⟨b, off + j, none⟩ = some (cx (c j))

theorem any_range_succ (p : Nat → Bool) (k : Nat) : (List.range (k + 1)).any p = ((List.range k).any p || p k) := by
  rw [List.range_succ, List.any_append]; simp

set_option maxRecDepth 100000 in
set_option maxHeartbeats 1000000 in
theorem indexFuncC_any (fid : Nat) (p : Nat × Nat → Bool) (hp : AnswersC fid p) (b off cap : Nat) (c : Nat → Nat × Nat) (w : World) (hi : CellsIn w b off c) :
    Calls Try.prog 79 #[.slice (some ⟨b, off, none⟩) 64 cap, .func (.func fid) #[] #[]] w (IdxPost w (any64 (fun i => p (c i)))) := by
  have heg := hp.enter
  go_enter Try.func79, Try.ntmps79
  go_wp2_with fail
  go_loop [8] (fun i => ∃ k : Nat, k ≤ 64 ∧ i = .int .i64 k ∧ (List.range k).any (fun i => p (c i)) = false) (fun i => 64 - (intOf i).toNat)
  case atStart => exact ⟨0, Nat.zero_le _, rfl, by simp⟩
  case round =>
    obtain ⟨k, hk, rfl, hno⟩ := hrel
    have Hno := Lib.hid hno
    clear hno
    by_cases hlt : k < 64
    · have hc := hi.cell k hlt
      have hd : decide ((k : Int) < 64) = true := by simp; omega
      have Hst := Lib.hid (any_range_succ (fun i => p (c i)) k)
      generalize hz : c k = z at hc
      have Hz := Lib.hid hz
      clear hz
      go_wp2_with fail
      refine (hp.says z _).mono ?_
      rintro e w' ⟨rfl, rfl⟩
      cases hpz : p z with
      | true =>
        have Hp := Lib.hid hpz
        clear hpz
        go_wp2_with fail
        go_ret
        refine ⟨k, rfl, ?_, rfl⟩
        have h2 : any64 (fun i => p (c i)) = true := List.any_eq_true.2 ⟨k, List.mem_range.2 hlt, by simp only [Hz.out]; exact Hp.out⟩
        rw [h2]; simp
      | false =>
        have Hp := Lib.hid hpz
        clear hpz
        go_wp2_with fail
        go_round
        case rel => exact ⟨k + 1, by omega, by go_num, by rw [Hst.out, Hno.out]; simp only [Hz.out]; rw [Hp.out]; rfl⟩
        case measure => simp [intOf]; omega
    · have hke : k = 64 := by omega
      have hd : decide ((k : Int) < 64) = false := by simp; omega
      have Hke := Lib.hid hke
      clear hke
      go_wp2_with fail
      go_ret
      refine ⟨-1, rfl, ?_, rfl⟩
      have h1 := Hno.out
      rw [Hke.out] at h1
      rw [show any64 (fun i => p (c i)) = false from h1]; rfl

set_option maxHeartbeats 1000000 in
theorem containsFuncC_any (fid : Nat) (p : Nat × Nat → Bool) (hp : AnswersC fid p) (b off cap : Nat) (c : Nat → Nat × Nat) (w : World) (hi : CellsIn w b off c) :
    Calls Try.prog 69 #[.slice (some ⟨b, off, none⟩) 64 cap, .func (.func fid) #[] #[]] w fun e w' => e = .returned (.bool (any64 (fun i => p (c i)))) ∧ w = w' := by
  go_enter Try.func69, Try.ntmps69
  go_wp2_with fail
  refine (indexFuncC_any fid p hp b off cap c _ hi).mono ?_
  rintro e w' ⟨r, rfl, hr, rfl⟩
  obtain ⟨t, ht⟩ : ∃ t, t = any64 (fun i => p (c i)) := ⟨_, rfl⟩
  rw [← ht] at hr
  have Ht := Lib.hid ht
  clear ht
  have Hr := Lib.hid hr
  clear hr
  go_wp2_with fail
  go_ret
  exact ⟨ret_bool (by rw [← Ht.out, ← Hr.out]), rfl⟩

theorem ans70 : AnswersC 70 (fun z => !bitC z) where
  enter := enters Try.func70 (by kernel_rfl) rfl
  says z w := by
    cases h1 : zC z with
    | true =>
      have hv : (!bitC z) = false := by simp [bitC, h1]
      rw [hv]
      unfold zC zF at h1
      simp only [Bool.and_eq_true] at h1
      obtain ⟨z1, z2⟩ := h1
      clear hv
      go_enter Try.func70, Try.ntmps70
      go_wp2
      go_ret
      exact ⟨rfl, rfl⟩
    | false =>
      cases h2 : oC z with
      | true =>
        have hv : (!bitC z) = false := by simp [bitC, h2]
        rw [hv]
        unfold zC zF at h1
        unfold oC zF at h2
        clear hv
        go_enter Try.func70, Try.ntmps70
        go_wp2
        go_ret
        exact ⟨rfl, rfl⟩
      | false =>
        have hv : (!bitC z) = true := by simp [bitC, h1, h2]
        rw [hv]
        unfold zC zF at h1
        unfold oC zF at h2
        clear hv
        go_enter Try.func70, Try.ntmps70
        go_wp2
        go_ret
        exact ⟨rfl, rfl⟩

theorem mask_any (n : Int) (c : Nat → Nat × Nat) : maskB n c = (waveB n c && !any64 (fun i => !bitC (c i))) := by
  unfold maskB any64
  congr 1
  rw [List.not_any_eq_all_not]; simp

set_option maxRecDepth 100000 in
set_option maxHeartbeats 2000000 in
theorem isMask_any (n : Int) (c : Nat → Nat × Nat) (w : World) :
    Calls Try.prog 36 #[.agg (warr n c)] w fun e w' => e = .returned (.bool (maskB n c)) ∧ Below w.heap.size w w' := by
  have hbox := heap_alloc_new w (.cells (warr n c) 33)
  have hb0 : Below w.heap.size w (w.alloc (.cells (warr n c) 33)) := (Below.refl _ _).alloc (Nat.le_refl _) _
  have hsz65 : (Try.prog.info? 33).map (·.size) = some (warr n c).size := by rw [warr_size]; exact size65
  rw [mask_any]
  cases hw : waveB n c with
  | false =>
    have Hw := Lib.hid hw
    have Hbox := Lib.hid hbox
    clear hw hbox
    go_enter Try.func36, Try.ntmps36
    go_wp2_with (with_reducible refine wpList_load_row rfl 33 (.tmp 1) rfl w.heap.size rfl 33 (warr n c) (0, 0) _ Hbox.out Try.underlying33 rfl hsz65 ?_)
    refine (isWave_any n c _).mono ?_
    rintro e w1 ⟨rfl, hb1⟩
    rw [Hw.out]
    go_wp2_with fail
    go_ret
    exact ⟨rfl, hb0.trans (hb1.mono (by simp))⟩
  | true =>
    have Hw := Lib.hid hw
    have Hbox := Lib.hid hbox
    clear hw hbox
    obtain ⟨t, ht⟩ : ∃ t, t = any64 (fun i => !bitC (c i)) := ⟨_, rfl⟩
    rw [← ht]
    have Ht := Lib.hid ht
    clear ht
    go_enter Try.func36, Try.ntmps36
    go_wp2_with (with_reducible refine wpList_load_row rfl 33 (.tmp 1) rfl w.heap.size rfl 33 (warr n c) (0, 0) _ Hbox.out Try.underlying33 rfl hsz65 ?_)
    refine (isWave_any n c _).mono ?_
    rintro e w1 ⟨rfl, hb1⟩
    rw [Hw.out]
    have hbx := (hb1.block w.heap.size (by simp)).trans Hbox.out
    have hin : CellsIn w1 w.heap.size 1 c := ⟨lt_of_block hbx, fun j hj => by rw [(cells_of hbx).1]; exact warr_cell n c j hj⟩
    clear hbx
    go_wp2_with fail
    refine (containsFuncC_any _ _ ans70 w.heap.size 1 64 c _ hin).mono ?_
    rintro e w2 ⟨rfl, rfl⟩
    rw [← Ht.out]
    go_wp2_with fail
    go_ret
    exact ⟨rfl, hb0.trans (hb1.mono (by simp))⟩

end Go.Proofs.Ytlfcgbhjmdmocaa
