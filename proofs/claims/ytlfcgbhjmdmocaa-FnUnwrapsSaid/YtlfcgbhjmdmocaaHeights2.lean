/- Height maps in the reference; lists compared, copied, handed back. -/
import Derived.Test.YtlfcgbhjmdmocaaHeights
import Derived.Deep.LoopGhost
namespace Go.Proofs.Ytlfcgbhjmdmocaa
open Go.RowKit

set_option maxRecDepth 100000 in
set_option maxHeartbeats 1000000 in
theorem l07Is_any (n : Int) (b off cap : Nat) (zs : List Int) (w : World) (hi : IntsIn w b off zs) (hl : zs.length ≤ 1000000) :
    Calls Try.prog 49 #[.int .i64 n, .slice (some ⟨b, off, none⟩) zs.length cap] w fun e w' => e = .returned (.bool (hmB n zs)) ∧ w = w' := by
  by_cases h1 : sideB n = true
  · have hnn : 1 ≤ n * n ∧ n * n ≤ 64 ∧ 1 ≤ n ∧ n ≤ 8 := by rcases sideB_iff.1 h1 with rfl | rfl | rfl | rfl <;> omega
    obtain ⟨g1, g2, g3, g4⟩ := hnn
    by_cases h2 : (zs.length : Int) = n * n
    · have hv : hmB n zs = !zs.any (outR (-100000) 100000) := by simp [hmB, h1, h2]
      have hd : ((zs.length : Int) != n * n) = false := by simpa using h2
      rw [hv]
      clear hv h2
      go_enter Try.func49, Try.ntmps49
      go_wp2_with (first | (go_at_call 38; refine (l01Side_any _ _).mono ?_; rintro e w' ⟨rfl, rfl⟩))
      go_loop [5] (fun i => ∃ k : Nat, k ≤ zs.length ∧ i = .int .i64 k ∧ (zs.take k).any (outR (-100000) 100000) = false) (fun i => zs.length - (intOf i).toNat)
      case atStart => exact ⟨0, Nat.zero_le _, rfl, by simp⟩
      case round =>
        obtain ⟨k, hk, rfl, hno⟩ := hrel
        have Hno := Lib.hid hno
        clear hno
        by_cases hlt : k < zs.length
        · have hc := hi.cell k hlt
          generalize hz : zs.getD k 0 = z at hc
          have Hz := Lib.hid hz
          clear hz
          have hs1 := any_take_succ zs (outR (-100000) 100000) k hlt
          rw [Hno.out, Hz.out, Bool.false_or] at hs1
          have Hs := Lib.hid hs1
          clear hs1
          cases hpz : inR z (-100000) 100000 with
          | false =>
            have Hp := Lib.hid hpz
            clear hpz
            go_wp2_with (go_at_call 46; refine (l01In_any _ _ _ _).mono ?_; rintro e w' ⟨rfl, rfl⟩; rw [Hp.out])
            go_ret
            refine ⟨ret_bool ?_, rfl⟩
            have h2 : zs.any (outR (-100000) 100000) = true := by
              have h1 := Hs.out
              rw [show outR (-100000) 100000 z = true from by simp [outR, Hp.out], List.any_eq_true] at h1
              obtain ⟨x, hx, hy⟩ := h1
              exact List.any_eq_true.2 ⟨x, List.mem_of_mem_take hx, hy⟩
            rw [h2]; rfl
          | true =>
            have Hp := Lib.hid hpz
            clear hpz
            go_wp2_with (go_at_call 46; refine (l01In_any _ _ _ _).mono ?_; rintro e w' ⟨rfl, rfl⟩; rw [Hp.out])
            go_round
            case rel => exact ⟨k + 1, by omega, by go_num, by rw [Hs.out]; simp [outR, Hp.out]⟩
            case measure => simp [intOf]; omega
        · go_wp2_with fail
          go_ret
          have h1 := Hno.out
          rw [List.take_of_length_le (by omega)] at h1
          exact ⟨ret_bool (by rw [h1]; rfl), rfl⟩
    · have hv : hmB n zs = false := by simp [hmB, h1, h2]
      have hd : ((zs.length : Int) != n * n) = true := by simpa using h2
      rw [hv]
      clear hv h2
      go_enter Try.func49, Try.ntmps49
      go_wp2_with (first | (go_at_call 38; refine (l01Side_any _ _).mono ?_; rintro e w' ⟨rfl, rfl⟩))
      go_ret
      exact ⟨rfl, rfl⟩
  · have h1' : sideB n = false := by simpa using h1
    have hv : hmB n zs = false := by simp [hmB, h1']
    rw [hv]
    clear hv
    go_enter Try.func49, Try.ntmps49
    go_wp2_with (first | (go_at_call 38; refine (l01Side_any _ _).mono ?_; rintro e w' ⟨rfl, rfl⟩))
    go_ret
    exact ⟨rfl, rfl⟩

set_option maxRecDepth 100000 in
set_option maxHeartbeats 1000000 in
theorem l07Code_any (n : Int) (b off cap : Nat) (zs : List Int) (w : World) (hi : IntsIn w b off zs) (hl : zs.length ≤ 1000000) :
    Calls Try.prog 30 #[.int .i64 n, .slice (some ⟨b, off, none⟩) zs.length cap] w fun e w' => e = .returned (.int .i64 (wcode n zs)) ∧ w = w' := by
  by_cases h1 : hmB n zs = true
  · have hv : wcode n zs = if zs.any (outR 0 63) = true then 5 else 0 := by simp [wcode, h1]
    have Hv := Lib.hid hv
    clear hv
    go_enter Try.func30, Try.ntmps30
    go_wp2_with (first | (go_at_call 49; refine (l07Is_any n b off cap zs _ hi hl).mono ?_; rintro e w' ⟨rfl, rfl⟩))
    go_loop [5] (fun i => ∃ k : Nat, k ≤ zs.length ∧ i = .int .i64 k ∧ (zs.take k).any (outR 0 63) = false) (fun i => zs.length - (intOf i).toNat)
    case atStart => exact ⟨0, Nat.zero_le _, rfl, by simp⟩
    case round =>
      obtain ⟨k, hk, rfl, hno⟩ := hrel
      have Hno := Lib.hid hno
      clear hno
      by_cases hlt : k < zs.length
      · have hc := hi.cell k hlt
        generalize hz : zs.getD k 0 = z at hc
        have Hz := Lib.hid hz
        clear hz
        have hs1 := any_take_succ zs (outR 0 63) k hlt
        rw [Hno.out, Hz.out, Bool.false_or] at hs1
        have Hs := Lib.hid hs1
        clear hs1
        cases hpz : inR z 0 63 with
        | false =>
          have Hp := Lib.hid hpz
          clear hpz
          go_wp2_with (go_at_call 46; refine (l01In_any _ _ _ _).mono ?_; rintro e w' ⟨rfl, rfl⟩; rw [Hp.out])
          go_ret
          refine ⟨ret_int ?_, rfl⟩
          have h2 : zs.any (outR 0 63) = true := by
            have h1 := Hs.out
            rw [show outR 0 63 z = true from by simp [outR, Hp.out], List.any_eq_true] at h1
            obtain ⟨x, hx, hy⟩ := h1
            exact List.any_eq_true.2 ⟨x, List.mem_of_mem_take hx, hy⟩
          rw [Hv.out, if_pos h2]
        | true =>
          have Hp := Lib.hid hpz
          clear hpz
          go_wp2_with (go_at_call 46; refine (l01In_any _ _ _ _).mono ?_; rintro e w' ⟨rfl, rfl⟩; rw [Hp.out])
          go_round
          case rel => exact ⟨k + 1, by omega, by go_num, by rw [Hs.out]; simp [outR, Hp.out]⟩
          case measure => simp [intOf]; omega
      · go_wp2_with fail
        go_ret
        have h1 := Hno.out
        rw [List.take_of_length_le (by omega)] at h1
        exact ⟨ret_int (by rw [Hv.out, h1]; rfl), rfl⟩
  · have h1' : hmB n zs = false := by simpa using h1
    have hv : wcode n zs = 1 := by simp [wcode, h1']
    rw [hv]
    clear hv
    go_enter Try.func30, Try.ntmps30
    go_wp2_with (first | (go_at_call 49; refine (l07Is_any n b off cap zs _ hi hl).mono ?_; rintro e w' ⟨rfl, rfl⟩))
    go_ret
    exact ⟨rfl, rfl⟩

/-- A slice of int64 that reads zs: nil, or cells of a block from B on. -/
def FreshI (B : Nat) (w : World) (v : Value) (zs : List Int) : Prop :=
  (v = .slice none 0 0 ∧ zs = []) ∨ ∃ g cap, v = .slice (some ⟨g, 0, none⟩) zs.length cap ∧ B ≤ g ∧ IntsIn w g 0 zs

theorem FreshI.below {B B' : Nat} {w w' : World} {v : Value} {zs : List Int} (h : FreshI B w v zs) (hs : Below B' w w') (hB : w.heap.size ≤ B') : FreshI B w' v zs := by
  rcases h with h | ⟨g, cap, rfl, hg, hi⟩
  · exact .inl h
  · exact .inr ⟨g, cap, rfl, hg, hi.below hs (by have := hi.lt; omega)⟩
theorem FreshI.mono {B B' : Nat} {w : World} {v : Value} {zs : List Int} (h : FreshI B w v zs) (hB : B' ≤ B) : FreshI B' w v zs := by
  rcases h with h | ⟨g, cap, rfl, hg, hi⟩
  · exact .inl h
  · exact .inr ⟨g, cap, rfl, by omega, hi⟩
theorem OwnI.fresh {w : World} {base : Nat} {v : Value} {zs : List Int} (h : OwnI w base v zs) : FreshI base w v zs := by
  rcases Nat.eq_zero_or_pos zs.length with h0 | h0
  · have hz : zs = [] := List.length_eq_zero_iff.1 h0
    subst hz
    rcases h.2 with ⟨rfl, _⟩ | ⟨g, cap, cur, rfl, hb, hg, _⟩
    · exact .inl ⟨rfl, rfl⟩
    · exact .inr ⟨g, cap, rfl, hb, lt_of_block hg, fun j hj => by simp at hj⟩
  · obtain ⟨g, cap, rfl, hb, _, hi, _⟩ := h.reads h0
    exact .inr ⟨g, cap, rfl, hb, hi⟩

/-- What a function hands back that returns a list with a code. -/
def ResI (w : World) (zs : List Int) (code : Int) (e : Ending) (w' : World) : Prop := ∃ v, e = .returned (.tuple #[v, .int .i64 code]) ∧ FreshI w.heap.size w' v zs ∧ Below w.heap.size w w'

def hsB (zs : List Int) : Bool := zs.any (outR (-100000) 100000)

theorem areHeights_no (b off cap : Nat) (zs : List Int) (w : World) (hi : IntsIn w b off zs) (hl : zs.length ≤ 1000000) (h : hsB zs = false) :
    Calls Try.prog 29 #[.slice (some ⟨b, off, none⟩) zs.length cap] w fun e w' => e = .returned (.tuple #[.slice (some ⟨b, off, none⟩) zs.length cap, .int .i64 0]) ∧ w = w' := by
  have H := Lib.hid h
  clear h
  go_enter Try.func29, Try.ntmps29
  go_wp2_with (first | (go_at_call 52; refine (containsFunc_any _ _ ans55 b off cap zs _ hi hl).mono ?_; rintro e w' ⟨rfl, rfl⟩; rw [show zs.any (outR (-100000) 100000) = false from H.out]))
  go_ret2
  exact ⟨rfl, rfl⟩

theorem take_eq_succ (xs ys : List Int) (k : Nat) (h1 : k < xs.length) (h2 : k < ys.length) (h : xs.take k = ys.take k) (hk : xs.getD k 0 = ys.getD k 0) : xs.take (k + 1) = ys.take (k + 1) := by
  rw [List.take_succ_eq_append_getElem h1, List.take_succ_eq_append_getElem h2, h]
  simp [List.getD_eq_getElem?_getD, h1, h2] at hk
  rw [hk]

set_option maxRecDepth 100000 in
set_option maxHeartbeats 1000000 in
theorem likeInts_some (b off cap b' off' cap' : Nat) (xs ys : List Int) (w : World) (hx : IntsIn w b off xs) (hy : IntsIn w b' off' ys) (hl : xs.length ≤ 1000000) :
    Calls Try.prog 10 #[.slice (some ⟨b, off, none⟩) xs.length cap, .slice (some ⟨b', off', none⟩) ys.length cap'] w fun e w' => e = .returned (.bool (decide (xs = ys))) ∧ Below w.heap.size w w' := by
  by_cases hlen : xs.length = ys.length
  · have hd : ((xs.length : Int) != ys.length) = false := by simp [hlen]
    have Hlen := Lib.hid hlen
    clear hlen
    go_enter Try.func10, Try.ntmps10
    go_wp2_with fail
    go_loopw [5] (fun i wr => ∃ k : Nat, k ≤ xs.length ∧ i = .int .i64 k ∧ xs.take k = ys.take k ∧ Below w.heap.size w wr) (fun i _ => xs.length - (intOf i).toNat)
    case atStart => exact ⟨0, Nat.zero_le _, rfl, by simp, Below.refl _ _⟩
    case round =>
      obtain ⟨k, hk, rfl, hno, hbl⟩ := hrel
      have Hno := Lib.hid hno
      clear hno
      have hxr := hx.below hbl hx.lt
      have hyr := hy.below hbl hy.lt
      by_cases hlt : k < xs.length
      · have hlt' : k < ys.length := by have := Hlen.out; omega
        have hc := hxr.cell k hlt
        have hc' := hyr.cell k hlt'
        have hts := take_eq_succ xs ys k hlt hlt' Hno.out
        have hne : xs.getD k 0 ≠ ys.getD k 0 → xs ≠ ys := fun h e => h (by rw [e])
        generalize hz : xs.getD k 0 = z at hc hts hne
        generalize hz' : ys.getD k 0 = z' at hc' hts hne
        have Hts := Lib.hid hts
        have Hne := Lib.hid hne
        clear hz hz' hts hne
        by_cases e : z = z'
        · have hd2 : (z != z') = false := by simpa using e
          have He := Lib.hid e
          clear e
          go_wp2_with fail
          go_region
          go_wp2_with fail
          go_roundw
          case rel => exact ⟨k + 1, by omega, by go_num, Hts.out He.out, hbl.drew⟩
          case measure => simp [intOf]; omega
        · have hd2 : (z != z') = true := by simpa using e
          have He := Lib.hid e
          clear e
          go_wp2_with fail
          go_region
          go_wp2_with fail
          go_ret
          exact ⟨ret_bool (by simp [Hne.out He.out]), hbl.drew⟩
      · go_wp2_with fail
        go_ret
        have h1 := Hno.out
        rw [List.take_of_length_le (by omega), List.take_of_length_le (by have := Hlen.out; omega)] at h1
        exact ⟨ret_bool (by simp [h1]), hbl⟩
  · have hd : ((xs.length : Int) != ys.length) = true := by simp; omega
    have hne : xs ≠ ys := fun e => hlen (by rw [e])
    go_enter Try.func10, Try.ntmps10
    go_wp2_with fail
    go_ret
    exact ⟨ret_bool (by simp [hne]), Below.refl _ _⟩

set_option maxRecDepth 100000 in
set_option maxHeartbeats 1000000 in
/-- A list of no number. -/
theorem likeInts_none (a a' : Option Addr) (cap cap' : Nat) (w : World) :
    Calls Try.prog 10 #[.slice a 0 cap, .slice a' 0 cap'] w fun e w' => e = .returned (.bool true) ∧ Below w.heap.size w w' := by
  go_enter Try.func10, Try.ntmps10
  go_wp2_with fail
  refine wp_loop_rounds 1 ?_
  rw [rounds_succ]
  go_wp2_with fail
  go_ret
  exact ⟨rfl, Below.refl _ _⟩

theorem likeInts_any {B B' : Nat} {w : World} {v v' : Value} {xs ys : List Int} (hx : FreshI B w v xs) (hy : FreshI B' w v' ys) (hl : xs.length ≤ 1000000) (hlen : xs.length = ys.length) :
    Calls Try.prog 10 #[v, v'] w fun e w' => e = .returned (.bool (decide (xs = ys))) ∧ Below w.heap.size w w' := by
  rcases hx with ⟨rfl, rfl⟩ | ⟨g, cap, rfl, hg, hi⟩
  · have hy0 : ys = [] := List.length_eq_zero_iff.1 (by simpa using hlen.symm)
    subst hy0
    rcases hy with ⟨rfl, _⟩ | ⟨g', cap', rfl, hg', hi'⟩
    · simpa using likeInts_none none none 0 0 w
    · simpa using likeInts_none none (some ⟨g', 0, none⟩) 0 cap' w
  · rcases hy with ⟨rfl, rfl⟩ | ⟨g', cap', rfl, hg', hi'⟩
    · have hx0 : xs = [] := List.length_eq_zero_iff.1 (by simpa using hlen)
      subst hx0
      simpa using likeInts_none (some ⟨g, 0, none⟩) none cap 0 w
    · exact likeInts_some g 0 cap g' 0 cap' xs ys w hi hi' hl

end Go.Proofs.Ytlfcgbhjmdmocaa
