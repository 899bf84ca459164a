/- UnwrapRows: the program's and the reference's. -/
import Derived.Test.YtlfcgbhjmdmocaaRowsPure
namespace Go.Proofs.Ytlfcgbhjmdmocaa
open Go.RowKit

theorem OwnI.set {w : World} {base g cap : Nat} {zs : List Int} (h : OwnI w base (.slice (some ⟨g, 0, none⟩) zs.length cap) zs) (j : Nat) (x : Int) :
    OwnI (w.setCell ⟨g, j, none⟩ (.int .i64 x)) base (.slice (some ⟨g, 0, none⟩) zs.length cap) (zs.set j x) := by
  have := World.ownsRow.stored h j (.int .i64 x)
  unfold OwnI
  rw [List.length_set, List.map_set]
  exact this.1

theorem cur_step (n : Nat) (zs : List Int) (i : Nat) (hi : i < zs.length) :
    (rowsTo n zs i ++ zs.drop i).set i (rowsStep n zs (rowsTo n zs i) i) = rowsTo n zs (i + 1) ++ zs.drop (i + 1) := by
  rw [List.set_append_right _ _ (by rw [rowsTo_length]; exact Nat.le_refl _), rowsTo_length, Nat.sub_self, List.drop_eq_getElem_cons hi, List.set_cons_zero, rowsTo]
  simp
theorem cur_length (n : Nat) (zs : List Int) (i : Nat) (hi : i ≤ zs.length) : (rowsTo n zs i ++ zs.drop i).length = zs.length := by
  simp [rowsTo_length]; omega
theorem cur_one (n : Nat) (zs : List Int) (h : 1 ≤ zs.length) : zs = rowsTo n zs 1 ++ zs.drop 1 := by
  match zs, h with
  | z :: r, _ => simp [rowsTo, rowsStep]

set_option maxRecDepth 100000 in
set_option maxHeartbeats 2000000 in
theorem unwrapRows_yes (n : Int) (b off cap : Nat) (zs : List Int) (w : World) (hi : IntsIn w b off zs) (hc : wcode n zs = 0) :
    Calls Try.prog 6 #[.int .i64 n, .slice (some ⟨b, off, none⟩) zs.length cap] w (ResI w (rowsOut n zs) 0) := by
  obtain ⟨hs, hlen, hz⟩ := wcode_zero hc
  have hzb := getD_bd hz
  have hnn : 1 ≤ n * n ∧ n * n ≤ 64 ∧ 1 ≤ n ∧ n ≤ 8 := by rcases sideB_iff.1 hs with rfl | rfl | rfl | rfl <;> omega
  obtain ⟨g1, g2, g3, g4⟩ := hnn
  have hl : zs.length ≤ 64 := by omega
  have hl1 : 1 ≤ zs.length := by omega
  have hbd := rowsTo_bd n.toNat (by omega) zs (hzb 0)
  have hfin := hsB_rows n g3 zs (hzb 0) hl
  obtain ⟨m, rfl⟩ : ∃ m : Nat, n = (m : Int) := ⟨n.toNat, by omega⟩
  simp only [Int.toNat_natCast] at hbd
  have Hc := Lib.hid hc
  have Hlen := Lib.hid hlen
  have Hzb := Lib.hid hzb
  have Hbd := Lib.hid hbd
  have Hfin := Lib.hid hfin
  clear hc hlen hz hzb hbd hs hfin
  go_enter Try.func6, Try.ntmps6
  go_wp2_with (first
    | (go_at_call 26; refine (wrappedCode_any (m : Int) b off cap zs _ hi (by omega)).mono ?_; rintro e w' ⟨rfl, rfl⟩; rw [Hc.out]))
  refine (clone_any b off cap zs _ hi (by omega)).mono ?_
  rintro e w1 ⟨v, rfl, ho, hb1⟩
  obtain ⟨g, cap1, rfl, hg, -, -, -⟩ := ho.reads (by omega)
  have hlt := hi.lt
  have hO : OwnI w1 w.heap.size (.slice (some ⟨g, 0, none⟩) zs.length cap1) (rowsTo m zs 1 ++ zs.drop 1) := by rw [← cur_one m zs hl1]; exact ho
  clear ho
  go_wp2_with fail
  go_loopw [8] (fun i wr => ∃ k : Nat, 1 ≤ k ∧ k ≤ zs.length ∧ i = .int .i64 k ∧ OwnI wr w.heap.size (.slice (some ⟨g, 0, none⟩) zs.length cap1) (rowsTo m zs k ++ zs.drop k) ∧ Below w.heap.size w wr)
    (fun i _ => zs.length - (intOf i).toNat)
  case atStart => exact ⟨1, Nat.le_refl _, hl1, rfl, hO, hb1⟩
  case round =>
    clear hO hb1
    obtain ⟨k, hk1, hk, rfl, hO, hbl⟩ := hrel
    by_cases hlt2 : k < zs.length
    · have hd : decide ((k : Int) < m * m) = true := by have := Hlen.out; simp; omega
      have hcl := cur_length m zs k hk
      have hO' : OwnI wr w.heap.size (.slice (some ⟨g, 0, none⟩) (rowsTo m zs k ++ zs.drop k).length cap1) (rowsTo m zs k ++ zs.drop k) := by rw [hcl]; exact hO
      obtain ⟨g', cap', hv, -, hcap, hin, hfr⟩ := hO.reads (by omega)
      simp only [Value.slice.injEq, Option.some.injEq, Addr.mk.injEq] at hv
      obtain ⟨⟨rfl, -⟩, -, rfl⟩ := hv
      have hir := hi.below hbl hlt
      have ck := hir.cell k hlt2
      have fk := hfr k
      have ok := hin.cell k (by omega)
      have bk := Hzb.out k
      have HO := Lib.hid hO'
      clear hO hfr hcl hcap hO'
      generalize hzk : zs.getD k 0 = zk at ck bk
      have Hzk := Lib.hid hzk
      clear hzk
      by_cases e : k % m = 0
      · have hnk : m ≤ k := by
          rcases Nat.lt_or_ge k m with h | h
          · rw [Nat.mod_eq_of_lt h] at e; omega
          · exact h
        have he : ((k : Int) % m == 0) = true := by have : (k : Int) % m = ((k % m : Nat) : Int) := by simp
                                                    rw [this, e]; rfl
        have cf := hir.cell (k - m) (by omega)
        have of := hin.cell (k - m) (by rw [cur_length m zs k hk]; omega)
        have bf := Hzb.out (k - m)
        have bo := Hbd.out k (k - m) (by omega)
        rw [getD_append_lt _ _ _ (by rw [rowsTo_length]; omega)] at of
        generalize hzf : zs.getD (k - m) 0 = zf at cf bf
        generalize hrf : (rowsTo m zs k).getD (k - m) 0 = rf at of bo
        have Hzf := Lib.hid hzf
        have Hrf := Lib.hid hrf
        have Hne := Lib.hid e
        clear hzf hrf e hi
        have bl := lessH_bd zf zk
        have hcall := fun W => (step_any zf zk W (by omega) (by omega) (by omega) (by omega)).mono fun e w' h => And.intro h.1 h.2.symm
        generalize hll : lessH zf zk = ll at bl hcall
        have Hll := Lib.hid hll
        clear hll
        simp only [Nat.zero_add] at of ok
        go_wp2_with fail
        have i1 : (k : Int) - m < zs.length := by omega
        have i2 : (0 : Int) ≤ (k : Int) - m := by omega
        have i3 : (k : Int) < zs.length := by omega
        have i4 : (1 : Int) ≤ (k : Int) := by omega
        go_still_tail 17, (by kernel_rfl)
        still_call (hcall _)
        repeat still_step
        refine wpStill_nil ?_
        change wpList _ _ _ _ _ wr.drew
        have hblr := hbl.drew
        have HOr := Lib.hid (show OwnI wr.drew w.heap.size _ _ from HO.out)
        go_wp2_with fail
        go_roundw
        case rel =>
          refine ⟨k + 1, by omega, by omega, by go_num, ?_, hbl.drew.setCell hg _⟩
          have h1 := OwnI.set HO.out k (rf + ll)
          have h2 : rowsStep m zs (rowsTo m zs k) k = rf + ll := by
            rw [rowsStep, if_neg (by omega), if_pos Hne.out, Hrf.out, Hzf.out, Hzk.out, Hll.out]
          rw [← h2, cur_step m zs k hlt2, cur_length m zs k hk] at h1
          rw [← h2]
          exact h1
        case measure => simp [intOf]; omega
      · have he : ((k : Int) % m == 0) = false := by have h1 : (k : Int) % m = ((k % m : Nat) : Int) := by simp
                                                     rw [h1, beq_eq_false_iff_ne]; omega
        have cf := hir.cell (k - 1) (by omega)
        have of := hin.cell (k - 1) (by rw [cur_length m zs k hk]; omega)
        have bf := Hzb.out (k - 1)
        have bo := Hbd.out k (k - 1) (by omega)
        rw [getD_append_lt _ _ _ (by rw [rowsTo_length]; omega)] at of
        generalize hzf : zs.getD (k - 1) 0 = zf at cf bf
        generalize hrf : (rowsTo m zs k).getD (k - 1) 0 = rf at of bo
        have Hzf := Lib.hid hzf
        have Hrf := Lib.hid hrf
        have Hne := Lib.hid e
        clear hzf hrf e hi
        have bl := lessH_bd zf zk
        have hcall := fun W => (step_any zf zk W (by omega) (by omega) (by omega) (by omega)).mono fun e w' h => And.intro h.1 h.2.symm
        generalize hll : lessH zf zk = ll at bl hcall
        have Hll := Lib.hid hll
        clear hll
        simp only [Nat.zero_add] at of ok
        go_wp2_with fail
        have i1 : (k : Int) - 1 < zs.length := by omega
        have i2 : (0 : Int) ≤ (k : Int) - 1 := by omega
        have i3 : (k : Int) < zs.length := by omega
        have i4 : (1 : Int) ≤ (k : Int) := by omega
        go_still_tail 17, (by kernel_rfl)
        still_call (hcall _)
        repeat still_step
        refine wpStill_nil ?_
        change wpList _ _ _ _ _ wr.drew
        have hblr := hbl.drew
        have HOr := Lib.hid (show OwnI wr.drew w.heap.size _ _ from HO.out)
        go_wp2_with fail
        go_roundw
        case rel =>
          refine ⟨k + 1, by omega, by omega, by go_num, ?_, hbl.drew.setCell hg _⟩
          have h1 := OwnI.set HO.out k (rf + ll)
          have h2 : rowsStep m zs (rowsTo m zs k) k = rf + ll := by
            rw [rowsStep, if_neg (by omega), if_neg Hne.out, Hrf.out, Hzf.out, Hzk.out, Hll.out]
          rw [← h2, cur_step m zs k hlt2, cur_length m zs k hk] at h1
          rw [← h2]
          exact h1
        case measure => simp [intOf]; omega
    · have hd : decide ((k : Int) < m * m) = false := by have := Hlen.out; simp; omega
      have hkl : k = zs.length := by omega
      have hO' : OwnI wr w.heap.size (.slice (some ⟨g, 0, none⟩) zs.length cap1) (rowsOut (m : Int) zs) := by
        have h1 := hO
        rw [hkl, List.drop_length, List.append_nil] at h1
        simpa [rowsOut] using h1
      have hln : (rowsOut (m : Int) zs).length = zs.length := by simp [rowsOut, rowsTo_length]
      obtain ⟨g', cap', hv, -, -, hin, -⟩ := hO'.reads (by omega)
      simp only [Value.slice.injEq, Option.some.injEq, Addr.mk.injEq] at hv
      obtain ⟨⟨rfl, -⟩, -, rfl⟩ := hv
      have hA := areHeights_no g 0 cap1 (rowsOut (m : Int) zs) wr hin (by omega) Hfin.out
      rw [hln] at hA
      have Hfr := Lib.hid (hO'.fresh)
      clear hO hO' hin hkl hln
      go_wp2_with (go_at_call 29; refine hA.mono ?_; rintro e w' ⟨rfl, rfl⟩)
      go_ret2
      exact ⟨_, rfl, Hfr.out, hbl⟩

theorem unwrapRows_no (n : Int) (b off cap : Nat) (zs : List Int) (w : World) (hi : IntsIn w b off zs) (hl : zs.length ≤ 1000000) (hc : wcode n zs ≠ 0) :
    Calls Try.prog 6 #[.int .i64 n, .slice (some ⟨b, off, none⟩) zs.length cap] w (ResI w [] (wcode n zs)) := by
  have hd : (wcode n zs != 0) = true := by simpa using hc
  have HW := wrappedCode_any n b off cap zs w hi hl
  generalize wcode n zs = c at *
  clear hc
  go_enter Try.func6, Try.ntmps6
  go_wp2_with (first | (go_at_call 26; refine HW.mono ?_; rintro e w' ⟨rfl, rfl⟩))
  go_ret2
  exact ⟨_, rfl, .inl ⟨rfl, rfl⟩, Below.refl _ _⟩

end Go.Proofs.Ytlfcgbhjmdmocaa
