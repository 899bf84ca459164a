/- Height maps: which lists are ones, which are wrapped; lists compared. -/
import Derived.Test.YtlfcgbhjmdmocaaOwn
import Derived.Test.YtlfcgbhjmdmocaaInts
namespace Go.Proofs.Ytlfcgbhjmdmocaa
open Go.RowKit

theorem enters {f : FuncId} {fn : Func} {c : Code} (hf : Try.prog.funcs[f]? = some fn) (hname : (fn.name == "runtime.NumGoroutine") = false) (hb : fn.body = some c) (args : Array Value) (w : World) :
    (callFunc f args).run Try.prog w = .ok (.enter f args) w := by
  have h1 : fn.name ≠ "runtime.NumGoroutine" := by simpa using hname
  simp [callFunc, hf, h1, hb]

/-- A function value without captures that answers p. -/
structure Answers (fid : Nat) (p : Int → Bool) : Prop where
  enter : ∀ (args : Array Value) (w : World), (callFunc fid args).run Try.prog w = .ok (.enter fid args) w
  says : ∀ (x : Int) (w : World), Calls Try.prog fid #[.int .i64 x] w fun e w' => e = .returned (.bool (p x)) ∧ w = w'

def IdxPost (w : World) (t : Bool) (e : Ending) (w' : World) : Prop := ∃ r : Int, e = .returned (.int .i64 r) ∧ decide (0 ≤ r) = t ∧ w = w'

theorem getD_mem' (zs : List Int) (j : Nat) (h : j < zs.length) : zs.getD j 0 ∈ zs := by
  rw [List.getD_eq_getElem?_getD, List.getElem?_eq_getElem h]; exact List.getElem_mem h

theorem any_take_succ (zs : List Int) (p : Int → Bool) (k : Nat) (h : k < zs.length) : (zs.take (k + 1)).any p = ((zs.take k).any p || p (zs.getD k 0)) := by
  rw [List.take_succ_eq_append_getElem h, List.any_append]; simp [List.getD_eq_getElem?_getD, h]

set_option maxRecDepth 100000 in
set_option maxHeartbeats 1000000 in
theorem indexFunc_any (fid : Nat) (p : Int → Bool) (hp : Answers fid p) (b off cap : Nat) (zs : List Int) (w : World) (hi : IntsIn w b off zs) (hl : zs.length ≤ 1000000) :
    Calls Try.prog 73 #[.slice (some ⟨b, off, none⟩) zs.length cap, .func (.func fid) #[] #[]] w (IdxPost w (zs.any p)) := by
  have heg := hp.enter
  go_enter Try.func73, Try.ntmps73
  go_wp2_with fail
  go_loop [8] (fun i => ∃ k : Nat, k ≤ zs.length ∧ i = .int .i64 k ∧ (zs.take k).any p = false) (fun i => zs.length - (intOf i).toNat)
  case atStart => exact ⟨0, Nat.zero_le _, rfl, by simp⟩
  case round =>
    obtain ⟨k, hk, rfl, hno⟩ := hrel
    have Hno := Lib.hid hno
    clear hno
    by_cases hlt : k < zs.length
    · have hc := hi.cell k hlt
      generalize hz : zs.getD k 0 = z at hc
      have Hz := Lib.hid hz
      clear hz
      go_wp2_with fail
      refine (hp.says z _).mono ?_
      rintro e w' ⟨rfl, rfl⟩
      cases hpz : p z with
      | true =>
        have Hp := Lib.hid hpz
        clear hpz
        go_wp2_with fail
        go_ret
        refine ⟨k, rfl, ?_, rfl⟩
        have h1 := any_take_succ zs p k hlt
        rw [Hz.out, Hp.out] at h1
        have h2 : zs.any p = true := by
          rw [List.any_eq_true]
          rw [Bool.or_true, List.any_eq_true] at h1
          obtain ⟨x, hx, hy⟩ := h1
          exact ⟨x, List.mem_of_mem_take hx, hy⟩
        rw [h2]; simp
      | false =>
        have Hp := Lib.hid hpz
        clear hpz
        go_wp2_with fail
        go_round
        case rel => exact ⟨k + 1, by omega, by go_num, by rw [any_take_succ zs p k hlt, Hno.out, Hz.out, Hp.out]; rfl⟩
        case measure => simp [intOf]; omega
    · go_wp2_with fail
      go_ret
      refine ⟨-1, rfl, ?_, rfl⟩
      have h1 := Hno.out
      rw [List.take_of_length_le (by omega)] at h1
      rw [h1]; rfl

set_option maxHeartbeats 1000000 in
theorem containsFunc_any (fid : Nat) (p : Int → Bool) (hp : Answers fid p) (b off cap : Nat) (zs : List Int) (w : World) (hi : IntsIn w b off zs) (hl : zs.length ≤ 1000000) :
    Calls Try.prog 52 #[.slice (some ⟨b, off, none⟩) zs.length cap, .func (.func fid) #[] #[]] w fun e w' => e = .returned (.bool (zs.any p)) ∧ w = w' := by
  go_enter Try.func52, Try.ntmps52
  go_wp2_with fail
  refine (indexFunc_any fid p hp b off cap zs _ hi hl).mono ?_
  rintro e w' ⟨r, rfl, hr, rfl⟩
  obtain ⟨t, ht⟩ : ∃ t, t = zs.any p := ⟨_, rfl⟩
  rw [← ht] at hr
  have Ht := Lib.hid ht
  clear ht
  have Hr := Lib.hid hr
  clear hr
  go_wp2_with fail
  go_ret
  exact ⟨ret_bool (by rw [← Ht.out, ← Hr.out]), rfl⟩

/-- Out of range. -/
def outR (lo hi x : Int) : Bool := !inR x lo hi

theorem ans57 : Answers 57 (outR (-100000) 100000) where
  enter := enters Try.func57 (by kernel_rfl) rfl
  says x w := by
    go_enter Try.func57, Try.ntmps57
    go_wp2_with (go_at_call 47; refine (isHeight_any _ _).mono ?_; rintro e w' ⟨rfl, rfl⟩)
    go_ret
    exact ⟨rfl, rfl⟩
theorem ans55 : Answers 55 (outR (-100000) 100000) where
  enter := enters Try.func55 (by kernel_rfl) rfl
  says x w := by
    go_enter Try.func55, Try.ntmps55
    go_wp2_with (go_at_call 47; refine (isHeight_any _ _).mono ?_; rintro e w' ⟨rfl, rfl⟩)
    go_ret
    exact ⟨rfl, rfl⟩
theorem ans53 : Answers 53 (outR 0 63) where
  enter := enters Try.func53 (by kernel_rfl) rfl
  says x w := by
    go_enter Try.func53, Try.ntmps53
    go_wp2_with (go_at_call 54; refine (isPart_any _ _).mono ?_; rintro e w' ⟨rfl, rfl⟩)
    go_ret
    exact ⟨rfl, rfl⟩

/-- A height map; its code where it has to be wrapped. -/
def hmB (n : Int) (zs : List Int) : Bool := sideB n && ((zs.length : Int) == n * n) && !zs.any (outR (-100000) 100000)
def wcode (n : Int) (zs : List Int) : Int := if hmB n zs = true then (if zs.any (outR 0 63) = true then 5 else 0) else 1

set_option maxHeartbeats 1000000 in
theorem isHeightMap_any (n : Int) (b off cap : Nat) (zs : List Int) (w : World) (hi : IntsIn w b off zs) (hl : zs.length ≤ 1000000) :
    Calls Try.prog 32 #[.int .i64 n, .slice (some ⟨b, off, none⟩) zs.length cap] w fun e w' => e = .returned (.bool (hmB n zs)) ∧ w = w' := by
  by_cases h1 : sideB n = true
  · have hnn : 1 ≤ n * n ∧ n * n ≤ 64 ∧ 1 ≤ n ∧ n ≤ 8 := by rcases sideB_iff.1 h1 with rfl | rfl | rfl | rfl <;> omega
    obtain ⟨g1, g2, g3, g4⟩ := hnn
    by_cases h2 : (zs.length : Int) = n * n
    · have hv : hmB n zs = !zs.any (outR (-100000) 100000) := by simp [hmB, h1, h2]
      have hd : ((zs.length : Int) == n * n) = true := by simpa using h2
      rw [hv]
      clear hv h2
      generalize ht : zs.any (outR (-100000) 100000) = t
      have Ht := Lib.hid ht
      clear ht
      go_enter Try.func32, Try.ntmps32
      go_wp2_with (first | (go_at_call 56; refine (isSide_any _ _).mono ?_; rintro e w' ⟨rfl, rfl⟩) | (go_at_call 52; refine (containsFunc_any _ _ ans57 b off cap zs _ hi hl).mono ?_; rintro e w' ⟨rfl, rfl⟩; rw [Ht.out]))
      go_ret
      exact ⟨rfl, rfl⟩
    · have hv : hmB n zs = false := by simp [hmB, h1, h2]
      have hd : ((zs.length : Int) == n * n) = false := by simpa using h2
      rw [hv]
      clear hv h2
      go_enter Try.func32, Try.ntmps32
      go_wp2_with (first | (go_at_call 56; refine (isSide_any _ _).mono ?_; rintro e w' ⟨rfl, rfl⟩))
      go_ret
      exact ⟨rfl, rfl⟩
  · have h1' : sideB n = false := by simpa using h1
    have hv : hmB n zs = false := by simp [hmB, h1']
    rw [hv]
    clear hv
    go_enter Try.func32, Try.ntmps32
    go_wp2_with (first | (go_at_call 56; refine (isSide_any _ _).mono ?_; rintro e w' ⟨rfl, rfl⟩))
    go_ret
    exact ⟨rfl, rfl⟩

set_option maxHeartbeats 1000000 in
theorem wrappedCode_any (n : Int) (b off cap : Nat) (zs : List Int) (w : World) (hi : IntsIn w b off zs) (hl : zs.length ≤ 1000000) :
    Calls Try.prog 26 #[.int .i64 n, .slice (some ⟨b, off, none⟩) zs.length cap] w fun e w' => e = .returned (.int .i64 (wcode n zs)) ∧ w = w' := by
  by_cases h1 : hmB n zs = true
  · by_cases h2 : zs.any (outR 0 63) = true
    all_goals
      have hv : wcode n zs = if zs.any (outR 0 63) = true then 5 else 0 := by simp [wcode, h1]
      rw [hv]
      clear hv
    · rw [if_pos h2]
      have H2 := Lib.hid h2
      clear h2
      go_enter Try.func26, Try.ntmps26
      go_wp2_with (first | (go_at_call 32; refine (isHeightMap_any n b off cap zs _ hi hl).mono ?_; rintro e w' ⟨rfl, rfl⟩) | (go_at_call 52; refine (containsFunc_any _ _ ans53 b off cap zs _ hi hl).mono ?_; rintro e w' ⟨rfl, rfl⟩; rw [H2.out]))
      go_ret
      exact ⟨rfl, rfl⟩
    · rw [if_neg h2]
      have h2' : zs.any (outR 0 63) = false := by simpa using h2
      have H2 := Lib.hid h2'
      clear h2 h2'
      go_enter Try.func26, Try.ntmps26
      go_wp2_with (first | (go_at_call 32; refine (isHeightMap_any n b off cap zs _ hi hl).mono ?_; rintro e w' ⟨rfl, rfl⟩) | (go_at_call 52; refine (containsFunc_any _ _ ans53 b off cap zs _ hi hl).mono ?_; rintro e w' ⟨rfl, rfl⟩; rw [H2.out]))
      go_ret
      exact ⟨rfl, rfl⟩
  · have h1' : hmB n zs = false := by simpa using h1
    have hv : wcode n zs = 1 := by simp [wcode, h1']
    rw [hv]
    clear hv
    go_enter Try.func26, Try.ntmps26
    go_wp2_with (first | (go_at_call 32; refine (isHeightMap_any n b off cap zs _ hi hl).mono ?_; rintro e w' ⟨rfl, rfl⟩))
    go_ret
    exact ⟨rfl, rfl⟩

end Go.Proofs.Ytlfcgbhjmdmocaa
