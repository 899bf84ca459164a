/- The draw of a height map: a number and a list of 1 to 65 numbers. -/
import Derived.Test.YtlfcgbhjmdmocaaPick
import Derived.Test.YtlfcgbhjmdmocaaOwn
namespace Go.Proofs.Ytlfcgbhjmdmocaa
open Go.RowKit

def MapPost (b : Nat) (w : World) (e : Ending) (w' : World) : Prop :=
  ∃ n zs g cap, e = .returned (.tuple #[.int .i64 n, .slice (some ⟨g, 0, none⟩) (List.length zs) cap]) ∧ -16 ≤ n ∧ n ≤ 16 ∧ 1 ≤ zs.length ∧ zs.length ≤ 65 ∧ w.heap.size ≤ g ∧ IntsIn w' g 0 zs ∧ Src w' b ∧ Same (· = b) w w'

theorem side_bd {n : Int} (h : sideB n = true) : 1 ≤ n ∧ n ≤ 8 ∧ 1 ≤ n * n ∧ n * n ≤ 64 := by
  rcases sideB_iff.1 h with rfl | rfl | rfl | rfl <;> omega

theorem same_alloc (b : Nat) (w : World) (o : Obj) : Same (· = b) w (w.alloc o) := (Same.refl _ _).alloc o

/-- What a round of the draw keeps. -/
structure MapInv (b b1 : Nat) (w : World) (v : Value) (zs : List Int) (W : World) : Prop where
  src : Src W b
  same : Same (· = b) w W
  own : OwnI W b1 v zs
  le : b1 ≤ W.heap.size
  hb : b < w.heap.size
  hb1 : w.heap.size ≤ b1

section
variable {b b1 : Nat} {w : World} {v : Value} {zs : List Int} {W : World}
theorem MapInv.drew (h : MapInv b b1 w v zs W) : MapInv b b1 w v zs W.drew :=
  ⟨h.src.same ((Same.refl (fun _ => False) _).drew) (fun _ _ f => f), h.same.drew, h.own, h.le, h.hb, h.hb1⟩
theorem MapInv.next (h : MapInv b b1 w v zs W) {W' : World} (hs : Src W' b) (hm : Same (· = b) W W') : MapInv b b1 w v zs W' :=
  ⟨hs, h.same.trans hm, h.own.same hm (fun k hk e => by have := h.hb; have := h.hb1; omega), Nat.le_trans h.le hm.size, h.hb, h.hb1⟩
theorem MapInv.alloc (h : MapInv b b1 w v zs W) (o : Obj) : MapInv b b1 w v zs (W.alloc o) :=
  h.next (h.src.same ((Same.refl (fun _ => False) _).alloc _) (fun _ _ f => f)) ((Same.refl _ _).alloc _)
theorem MapInv.push (h : MapInv b b1 w v zs W) {v' : Value} {w' : World} {z : Int} (ho : OwnI w' b1 v' (zs ++ [z])) (hg : W.grownBy w' v.ownBlock) : MapInv b b1 w v' (zs ++ [z]) w' := by
  have h1 := h.hb
  have h2 := h.hb1
  have hown : ∀ k, v.ownBlock = some k → b1 ≤ k := fun k hk => (h.own.lt k hk).1
  exact ⟨h.src.same (S := fun k => b1 ≤ k) ((Same.refl _ _).grown hg (fun k hk => .inr (hown k hk))) (fun k hk f => by omega), h.same.grown hg (fun k hk => .inl (by have := hown k hk; omega)), ho, Nat.le_trans h.le hg.size, h1, h2⟩
end

set_option maxRecDepth 100000 in
set_option maxHeartbeats 4000000 in
theorem l07Map_loop (b : Nat) (wrapped : Bool) (w : World) (hs : Src w b) :
    Calls Try.prog 24 #[.pointer (some ⟨b, 0, none⟩), .bool wrapped] w (MapPost b w) := by
  rcases wrapped with _ | _
  all_goals
    go_enter Try.func24, Try.ntmps24
    go_wp2_with fail
    refine (l01DrawSide_any b _ hs).mono ?_
    rintro e w1 ⟨n, rfl, hn, hs1, hsm1⟩
    have hB := side_bd hn
    clear hn
    go_wp2_with fail
    have hA := same_alloc b w1 (.cells #[] 2)
    have hO := OwnI.made (w := w1) (base := w1.heap.size) [] (Nat.le_refl _) (by simp)
    refine (l01Next_any b 61 _ (hs1.same ((Same.refl (fun _ => False) _).alloc _) (fun _ _ f => f)) (by omega)).mono ?_
    rintro e w2 ⟨r2, rfl, hr2, hs2, hsm2⟩
    go_wp2_with fail
    refine (l01Next_any b 61 _ hs2 (by omega)).mono ?_
    rintro e w3 ⟨r3, rfl, hr3, hs3, hsm3⟩
    go_wp2_with fail
    refine (l01Next_any b 4 _ hs3 (by omega)).mono ?_
    rintro e w4 ⟨r4, rfl, hr4, hs4, hsm4⟩
    have hsm : Same (· = b) w w4 := ((hsm1.trans hA).trans (hsm2.trans (hsm3.trans hsm4)))
    have hO4 : OwnI w4 w1.heap.size (.slice (some ⟨w1.heap.size, 0, none⟩) 0 0) [] := by
      have hbl := hs1.lt
      refine hO.same (S := (· = b)) (hsm2.trans (hsm3.trans hsm4)) (fun k hk hb => by omega)
    have hw1 := hsm1.size
    have hw4 : w1.heap.size ≤ w4.heap.size := Nat.le_trans hA.size (hsm2.trans (hsm3.trans hsm4)).size
    have hbl := hs.lt
    obtain ⟨m, hm⟩ : ∃ m : Nat, n * n = (m : Int) := ⟨(n * n).toNat, by omega⟩
    have hm1 : 1 ≤ m := by omega
    have hm2 : m ≤ 64 := by omega
    obtain ⟨hB1, hB2, hB3, hB4⟩ := hB
    generalize hb1 : w1.heap.size = b1 at *
    clear hb1 hO hA hsm1 hsm2 hsm3 hsm4 hs1 hs2 hs3 hr2 hr3
    have Hs := Lib.hid hs
    clear hs
    go_wp2
    have hI : MapInv b b1 w (.slice (some ⟨b1, 0, none⟩) 0 0) [] w4 := ⟨hs4, hsm, hO4, hw4, hbl, hw1⟩
    clear hs4 hsm hO4 hw4
    go_loopw [7, 11] (fun v i wr => ∃ (k : Nat) (zs : List Int), k ≤ m ∧ zs.length = k ∧ i = .int .i64 k ∧ MapInv b b1 w v zs wr)
      (fun _ i _ => m - (intOf i).toNat)
    case atStart => exact ⟨0, [], Nat.zero_le _, rfl, rfl, hI⟩
    case round =>
      obtain ⟨k, zs, hk, hz, rfl, hI⟩ := hrel
      have Hz := Lib.hid hz
      have Hm := Lib.hid hm
      have hz' : zs.length ≤ k := by omega
      clear hz hm
      by_cases hlt : (k : Int) < n * n
      · have hd : decide ((k : Int) < n * n) = true := by simpa using hlt
        go_wp2_with fail
        go_region
        have hI0 := hI.drew
        go_wp2_with (first
          | (go_at_call 39; refine (l01Next_any b _ _ hI0.src (by omega)).mono ?_; rintro e w5 ⟨r5, rfl, -, hs5, hsm5⟩; have hI5 := hI0.next hs5 hsm5)
          | (go_at_call 51; refine (l07Wrap_any _ _).mono ?_; rintro e w6 ⟨rfl, rfl⟩)
          | (at_builtin; refine wpList_push rfl (.tmp 57) (.tmp 59) rfl b1 _ zs _ _ 1 rfl (MapInv.own (MapInv.alloc (by assumption) _)) rfl (World.cell?_alloc_at _ _ _ _ rfl) (by omega) (MapInv.le (MapInv.alloc (by assumption) _)) ?_))
        all_goals
          intro v' w' ho hg
          have hI' := MapInv.push (by first | exact hI5.alloc _ | exact (hI.alloc _).drew) ho hg
          clear hI hI0 ho hg hd
          go_wp2
          go_roundw
          case rel => exact ⟨k + 1, _, by have := Hm.out; omega, by simp [Hz.out], by go_num, hI'⟩
          case measure => have := Hm.out; simp [intOf]; omega
      · have hd : decide ((k : Int) < n * n) = false := by simpa using hlt
        have hz0 : 1 ≤ zs.length := by have := Hz.out; have := Hm.out; omega
        obtain ⟨g, cap, hv, hg1, hcap, hin, hfr⟩ := hI.own.reads (by omega)
        subst hv
        have hsr := hI.src
        have hsame := hI.same
        have hb0 := hI.hb
        have hb2 := hI.hb1
        have hOw := hI.own
        have hle := hI.le
        have hne : ¬ g = b := by omega
        have hz65 : zs.length ≤ 64 := by have := Hz.out; have := Hm.out; omega
        clear hI hcap
        go_wp2_with fail
        refine (l01Next_any b 30 _ hsr (by omega)).mono ?_
        rintro e w5 ⟨r5, rfl, -, hs5, hsm5⟩
        have hI5 := hin.same hsm5 hne
        have hfr5 : ∀ j, w5.frozen? ⟨g, j, none⟩ = false := fun j => (hsm5.frozen (p := ⟨g, j, none⟩) hin.lt hne).trans (hfr j)
        have hs05 := hsame.trans hsm5
        clear hin hfr hsame hsr
        by_cases e0 : r5 = 0
        · have t0 : (r5 == 0) = true := by simpa using e0
          clear e0 hsm5 hOw
          go_wp2_with fail
          have hsA := hs5.same (S := fun _ => False) ((Same.refl _ _).alloc (.cells #[.int .i64 64, .int .i64 (-1), .int .i64 100000, .int .i64 100001, .int .i64 (-4611686018427387904)] 2)) (fun _ _ f => f)
          refine (l01Pick_any b w5.heap.size 0 5 [64, -1, 100000, 100001, -4611686018427387904] _ hsA (ints_new w5 [64, -1, 100000, 100001, -4611686018427387904] _) (by have := hs5.lt; omega) (by simp) (by simp)).mono ?_
          intro e w6 h
          obtain ⟨r, rfl, -, hs6, hsm6⟩ := h.after ((Same.refl _ _).alloc _)
          have hI6 := hI5.same hsm6 hne
          have c0 := hI6.cell 0 (by omega)
          have f0 : w6.frozen? ⟨g, 0, none⟩ = false := (hsm6.frozen (p := ⟨g, 0, none⟩) hI5.lt hne).trans (hfr5 0)
          simp only [Nat.zero_add] at c0
          clear hI5 hfr5
          have hz1 : (0 : Int) < zs.length := by omega
          have Hs5 := hs05.trans hsm6
          clear hs05 hsm6
          go_wp2
          go_ret2
          refine ⟨n, zs.set 0 r, g, cap, by simp, by omega, by omega, by simpa using hz0, by simp; omega, by omega, ?_, ?_, ?_⟩
          · refine ⟨by simp [World.setCell]; exact hI6.lt, fun j hj => ?_⟩
            rw [List.length_set] at hj
            by_cases ej : j = 0
            · subst ej
              rw [Nat.zero_add, World.cell?_setCell_same _ _ _ c0]
              simp [hj]
            · rw [World.cell?_setCell_other _ _ _ _ (by simp; try omega), hI6.cell j hj]
              simp [hj, List.getD_eq_getElem?_getD, List.getElem?_set, Ne.symm ej]
          · exact hs6.same (S := (· = g)) ((Same.refl _ _).setAt _ _) (fun k hk e => by omega)
          · exact (Hs5.setCell (.inl (by simp; omega)) _)
        · have t0 : (r5 == 0) = false := by simpa using e0
          by_cases e1 : r5 = 1
          · have t1 : (r5 == 1) = true := by simpa using e1
            clear e0 e1
            have hown : OwnI w5 b1 (.slice (some ⟨g, 0, none⟩) zs.length cap) zs := hOw.same hsm5 (fun k hk e => by omega)
            have hw5 : b1 ≤ w5.heap.size := Nat.le_trans hle hsm5.size
            go_wp2_with (at_builtin; refine wpList_push rfl (.tmp 72) (.tmp 73) rfl b1 _ zs _ _ 1 rfl (hown.same (S := (· = b)) ((Same.refl _ _).alloc _) (fun k hk e => by omega)) rfl (World.cell?_alloc_at _ _ _ _ rfl) (by omega) (by simp; omega) ?_)
            intro v' w' ho hg
            obtain ⟨g', cap', hv', hg1', -, hin', -⟩ := ho.reads (by simp)
            subst hv'
            have hSs : Same (· = b) w w' := (hs05.alloc _).grown hg (fun k hk => .inl (by simp [Value.ownBlock] at hk; omega))
            have hSr : Src w' b := (hs5.same (S := fun _ => False) ((Same.refl _ _).alloc _) (fun _ _ f => f)).same (S := fun k => b1 ≤ k) ((Same.refl _ _).grown hg (fun k hk => .inr (by simp [Value.ownBlock] at hk; omega))) (fun k hk f => by omega)
            clear ho hg hown hOw hsm5
            go_wp2
            go_ret2
            exact ⟨n, zs ++ [0], g', cap', by simp, by omega, by omega, by simp, by simp; omega, by omega, hin', hSr, hSs⟩
          · have t1 : (r5 == 1) = false := by simpa using e1
            by_cases e2 : r5 = 2
            · have t2 : (r5 == 2) = true := by simpa using e2
              clear e0 e1 e2
              have hsA := hs5.same (S := fun _ => False) ((Same.refl _ _).alloc (.cells #[.int .i64 0, .int .i64 3, .int .i64 16, .int .i64 (-1)] 2)) (fun _ _ f => f)
              go_wp2_with fail
              refine (l01Pick_any b w5.heap.size 0 4 [0, 3, 16, -1] _ hsA (ints_new w5 [0, 3, 16, -1] _) (by have := hs5.lt; omega) (by simp) (by simp)).mono ?_
              intro e w6 h
              obtain ⟨r, rfl, hr, hs6, hsm6⟩ := h.after ((Same.refl _ _).alloc _)
              have hI6 := hI5.same hsm6 hne
              have Hs5 := hs05.trans hsm6
              have Hr := Lib.hid hr
              clear hr hI5 hfr5 hs05 hsm6
              go_wp2
              go_ret2
              have hr := Hr.out
              simp at hr
              exact ⟨r, zs, g, cap, rfl, by omega, by omega, hz0, by omega, by omega, hI6, hs6, Hs5⟩
            · have t2 : (r5 == 2) = false := by simpa using e2
              clear e0 e1 e2
              go_wp2
              go_ret2
              exact ⟨n, zs, g, cap, rfl, by omega, by omega, hz0, by omega, by omega, hI5, hs5, hs05⟩

end Go.Proofs.Ytlfcgbhjmdmocaa
