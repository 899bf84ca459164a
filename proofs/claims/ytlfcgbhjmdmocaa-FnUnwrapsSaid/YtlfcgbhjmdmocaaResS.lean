/- ResiduesOf: the reference's. -/
import Derived.Test.YtlfcgbhjmdmocaaRes
namespace Go.Proofs.Ytlfcgbhjmdmocaa
open Go.RowKit

set_option maxRecDepth 100000 in
set_option maxHeartbeats 4000000 in
theorem residuesOfS_yes (n : Int) (b off cap : Nat) (zs : List Int) (w : World) (hi : IntsIn w b off zs) (hc : wcode n zs = 0) :
    Calls Try.prog 9 #[.int .i64 n, .slice (some ⟨b, off, none⟩) zs.length cap] w (ResI w (resOut n zs) 0) := by
  obtain ⟨hs, hlen, hz⟩ := wcode_zero hc
  have hzb := getD_bd hz
  have hnn : 1 ≤ n * n ∧ n * n ≤ 64 ∧ 1 ≤ n ∧ n ≤ 8 := by rcases sideB_iff.1 hs with rfl | rfl | rfl | rfl <;> omega
  obtain ⟨g1, g2, g3, g4⟩ := hnn
  have hl : zs.length ≤ 64 := by omega
  obtain ⟨m, rfl⟩ : ∃ m : Nat, n = (m : Int) := ⟨n.toNat, by omega⟩
  have hlm : zs.length = m * m := by
    have h1 : ((zs.length : Nat) : Int) = ((m * m : Nat) : Int) := by rw [hlen]; simp
    omega
  have Hlm := Lib.hid hlm
  have Hc := Lib.hid hc
  have Hzb := Lib.hid hzb
  have hm1 : 1 ≤ m := by omega
  have hm8 : m ≤ 8 := by omega
  clear hc hlen hz hzb hs hlm g3 g4
  have hlt := hi.lt
  have hO := OwnI.made (w := w) (base := w.heap.size) [] (Nat.le_refl _) (by simp)
  go_enter Try.func9, Try.ntmps9
  go_wp2_with (first
    | (go_at_call 30; refine (l07Code_any (m : Int) b off cap zs _ hi (by omega)).mono ?_; rintro e w' ⟨rfl, rfl⟩; rw [Hc.out]))
  go_loopw [7, 8] (fun v i wr => ∃ y : Nat, y ≤ m - 1 ∧ i = .int .i64 y ∧ OwnI wr w.heap.size v (resTo m zs y) ∧ Below w.heap.size w wr)
    (fun _ i _ => m - (intOf i).toNat)
  case atStart => exact ⟨0, Nat.zero_le _, rfl, hO, (Below.refl _ _).alloc (Nat.le_refl _) _⟩
  case round =>
    clear hO
    obtain ⟨y, hy, rfl, hO, hbl⟩ := hrel
    by_cases hy2 : y < m - 1
    · have hd1 : decide ((y : Int) + 1 < (m : Int)) = true := by simp; omega
      go_wp2_with fail
      go_loopw [7, 9] (fun v i wr => ∃ x : Nat, x ≤ m - 1 ∧ i = .int .i64 x ∧ OwnI wr w.heap.size v (resTo m zs y ++ resRow m zs y x) ∧ Below w.heap.size w wr)
        (fun _ i _ => m - (intOf i).toNat)
      case atStart => exact ⟨0, Nat.zero_le _, rfl, by simpa [resRow] using hO, hbl⟩
      case round =>
        clear hO hbl
        rename_i wo
        obtain ⟨x, hx, rfl, hO, hbl⟩ := hrel
        by_cases hx2 : x < m - 1
        · obtain ⟨q1, q2, q3⟩ := in_map hy2 hx2 hm8
          have hd2 : decide ((x : Int) + 1 < (m : Int)) = true := by simp; omega
          have hir := hi.below hbl hlt
          have hlm := Hlm.out
          have c1 := hir.cell (m * y + x) (by omega)
          have c2 := hir.cell (m * y + x + 1) (by omega)
          have c3 := hir.cell (m * y + m + x + 1) (by omega)
          have c4 := hir.cell (m * y + m + x) (by omega)
          have b1 := Hzb.out (m * y + x)
          have b2 := Hzb.out (m * y + x + 1)
          have b3 := Hzb.out (m * y + m + x + 1)
          have b4 := Hzb.out (m * y + m + x)
          have Hre := Lib.hid (show resAt m zs y x = (lessH (zs.getD (m * y + x) 0) (zs.getD (m * y + x + 1) 0) + lessH (zs.getD (m * y + x + 1) 0) (zs.getD (m * y + m + x + 1) 0) +
            lessH (zs.getD (m * y + m + x + 1) 0) (zs.getD (m * y + m + x) 0) + lessH (zs.getD (m * y + m + x) 0) (zs.getD (m * y + x) 0)).tdiv 64 from rfl)
          generalize zs.getD (m * y + x) 0 = z1 at c1 b1 Hre
          generalize zs.getD (m * y + x + 1) 0 = z2 at c2 b2 Hre
          generalize zs.getD (m * y + m + x + 1) 0 = z3 at c3 b3 Hre
          generalize zs.getD (m * y + m + x) 0 = z4 at c4 b4 Hre
          have k1 : (0 : Int) ≤ (m : Int) * y ∧ (m : Int) * y ≤ 64 := by
            have : ((m * y : Nat) : Int) = (m : Int) * y := by simp
            omega
          have k2 : (m : Int) * y + m + x + 1 < zs.length := by
            have : ((m * y : Nat) : Int) = (m : Int) * y := by simp
            omega
          have hll : (resTo m zs y ++ resRow m zs y x).length ≤ 1000000 := by
            rw [List.length_append, resTo_length, resRow_length]
            have : y * (m - 1) ≤ 8 * 8 := Nat.mul_le_mul (by omega) (by omega)
            omega
          clear hlm q1 q2 q3 hi hir
          go_wp2_with fail
          go_region
          have l1 := lessH_bd z1 z2
          have l2 := lessH_bd z2 z3
          have l3 := lessH_bd z3 z4
          have l4 := lessH_bd z4 z1
          have hbs := hbl.size
          have hob : ∀ j, u7.ownBlock = some j → w.heap.size ≤ j := fun j hj => (hO.lt j hj).1
          go_wp2_with (first
            | (go_at_call 31; refine (l07Less_any _ _ _ (by omega) (by omega) (by omega) (by omega)).mono ?_; rintro e w' ⟨rfl, rfl⟩)
            | (at_builtin; refine wpList_push rfl (.tmp 71) (.tmp 88) rfl w.heap.size _ (resTo m zs y ++ resRow m zs y x) _ _ 1 rfl (hO.same (S := fun _ => False) ((Same.refl _ _).drew.alloc _) (fun _ _ f => f)) rfl (World.cell?_alloc_at _ _ _ _ rfl) hll (by simp; omega) ?_))
          intro v' w' ho hg
          have hb2 : Below w.heap.size w w' := (hbl.drew.alloc (by simp; omega) _).grown hg (by simp; omega) (fun j hj => hob j hj)
          have Ho := Lib.hid ho
          clear hg ho hO hob
          go_wp2_with fail
          go_roundw
          case rel => exact ⟨x + 1, by omega, by go_num, by have h := Ho.out; rw [resRow_succ, Hre.out]; simpa using h, hb2⟩
          case measure => simp [intOf]; omega
        · have hxe : x = m - 1 := by omega
          have hd2 : decide ((x : Int) + 1 < (m : Int)) = false := by simp; omega
          have Ho := Lib.hid (show OwnI wr w.heap.size u7 (resTo m zs (y + 1)) from by rw [resTo_succ, ← hxe]; exact hO)
          clear hO hxe
          go_wp2_with fail
          go_roundw
          case rel => exact ⟨y + 1, by omega, by go_num, Ho.out, hbl⟩
          case measure => simp [intOf]; omega
    · have hye : y = m - 1 := by omega
      have hd1 : decide ((y : Int) + 1 < (m : Int)) = false := by simp; omega
      have Hfr := Lib.hid (show FreshI w.heap.size wr u7 (resOut (m : Int) zs) from by
        have h1 := hO.fresh
        rw [hye] at h1
        simpa [resOut] using h1)
      clear hO hye
      go_wp2_with fail
      go_ret2
      exact ⟨_, rfl, Hfr.out, hbl⟩

theorem residuesOfS_any (n : Int) (b off cap : Nat) (zs : List Int) (w : World) (hi : IntsIn w b off zs) (hl : zs.length ≤ 1000000) :
    Calls Try.prog 9 #[.int .i64 n, .slice (some ⟨b, off, none⟩) zs.length cap] w (ResI w (resRes n zs) (wcode n zs)) := by
  by_cases hc : wcode n zs = 0
  · have := residuesOfS_yes n b off cap zs w hi hc
    simpa [resRes, hc] using this
  · have hr : resRes n zs = [] := by simp [resRes, hc]
    have hd : (wcode n zs != 0) = true := by simpa using hc
    have HW := l07Code_any n b off cap zs w hi hl
    rw [hr]
    generalize wcode n zs = c at *
    clear hc hr
    go_enter Try.func9, Try.ntmps9
    go_wp2_with (first | (go_at_call 30; refine HW.mono ?_; rintro e w' ⟨rfl, rfl⟩))
    go_ret2
    exact ⟨_, rfl, .inl ⟨rfl, rfl⟩, Below.refl _ _⟩

end Go.Proofs.Ytlfcgbhjmdmocaa
