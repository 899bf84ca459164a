/- spec.SlopesOf. -/
import Derived.Test.YtlfcgbhjmdmocaaSlopes
import Derived.Test.YtlfcgbhjmdmocaaMostS
import Derived.Deep.RegionLaw
namespace Go.Proofs.Ytlfcgbhjmdmocaa
open Go.RowKit

theorem step_pushG {w : World} {ops : Array Oper} {o : Oper} {a : Act} {K : Act → World → Prop} {Q : Exit → Act → World → Prop} {E : Prop} (hgd : o.guard = none) (s x : Operand)
    (ho : o.op = .call { callee := .builtin .append, args := #[s, x], argTypes := #[24, 24] })
    (base g0 c0 ln : Nat) (zs : List Int) (z : Int) (g c : Nat) (hln : ln = zs.length) (hs : a.eval s = .slice (some ⟨g0, 0, none⟩) ln c0) (hown : OwnI w base (.slice (some ⟨g0, 0, none⟩) ln c0) zs)
    (hx : a.eval x = .slice (some ⟨g, 0, none⟩) 1 c) (hc : w.cell? ⟨g, 0, none⟩ = some (.int .i64 z)) (hlen : zs.length ≤ 1000000) (hbase : base ≤ w.heap.size)
    (h : ∀ g' c' w', OwnI w' base (.slice (some ⟨g', 0, none⟩) (ln + 1) c') (zs ++ [z]) → (g' = g0 ∨ g' = w.heap.size) → Same (· = g0) w w' → K (a.put o.dst (.slice (some ⟨g', 0, none⟩) (ln + 1) c')) w') :
    if Region.wanted o (yielded ops a.tmps) = true then Oper.wp Try.prog o a w K Q else E := by
  have hw : Region.wanted o (yielded ops a.tmps) = true := by simp [Region.wanted, hgd]
  rw [if_pos hw]
  exact wp_pushG s x ho base g0 c0 ln zs z g c hln hs hown hx hc hlen hbase h

set_option maxRecDepth 100000 in
set_option maxHeartbeats 4000000 in
theorem slopesOfS_yes (n : Int) (b off cap : Nat) (zs : List Int) (w : World) (hi : IntsIn w b off zs) (hm : hmB n zs = true) :
    Calls Try.prog 21 #[.int .i64 n, .slice (some ⟨b, off, none⟩) zs.length cap] w (ResI w (sloRes n zs) 0) := by
  obtain ⟨hs, hlen, hz⟩ := hmB_true hm
  have hzb := getD_bd2 hz
  have hnn : 1 ≤ n * n ∧ n * n ≤ 64 ∧ 1 ≤ n ∧ n ≤ 8 := by rcases sideB_iff.1 hs with rfl | rfl | rfl | rfl <;> omega
  obtain ⟨g1, g2, g3, g4⟩ := hnn
  have hl : zs.length ≤ 64 := by omega
  have hres : sloRes n zs = [mostOf (sloR n.toNat zs zs.length), mostOf (sloC n.toNat zs zs.length)] := by simp [sloRes, hm]
  rw [hres]
  obtain ⟨m, rfl⟩ : ∃ m : Nat, n = (m : Int) := ⟨n.toNat, by omega⟩
  simp only [Int.toNat_natCast]
  have hlm : zs.length = m * m := by
    have h1 : ((zs.length : Nat) : Int) = ((m * m : Nat) : Int) := by rw [hlen]; simp
    omega
  have Hlm := Lib.hid hlm
  have Hlen := Lib.hid hlen
  have Hm := Lib.hid hm
  have Hzb := Lib.hid hzb
  have hm1 : 1 ≤ m := by omega
  have hm8 : m ≤ 8 := by omega
  clear hlen hz hzb hs hlm g3 g4 hres hm
  have hlt := hi.lt
  have hI := SloInv.start w
  go_enter Try.func21, Try.ntmps21
  go_wp2_with (first | (go_at_call 49; refine (l07Is_any (m : Int) b off cap zs _ hi (by omega)).mono ?_; rintro e w' ⟨rfl, rfl⟩; rw [Hm.out]))
  go_loopw [6, 7, 8] (fun v6 v7 i wr => ∃ k g6 l6 c6 g7 l7 c7 : Nat, k ≤ zs.length ∧ i = .int .i64 k ∧ v6 = .slice (some ⟨g6, 0, none⟩) l6 c6 ∧ v7 = .slice (some ⟨g7, 0, none⟩) l7 c7 ∧ SloInv w (sloR m zs k) (sloC m zs k) g6 l6 c6 g7 l7 c7 wr)
    (fun _ _ i _ => zs.length - (intOf i).toNat)
  case atStart => exact ⟨0, _, _, _, _, _, _, Nat.zero_le _, rfl, rfl, rfl, hI⟩
  case round =>
    clear hI
    obtain ⟨k, g6, l6, c6, g7, l7, c7, hk, rfl, rfl, rfl, hI⟩ := hrel
    have HI := Lib.hid hI
    by_cases hlt2 : k < zs.length
    · have hir := hi.below hI.bl hlt
      have hd : decide ((k : Int) < m * m) = true := by have := Hlen.out; simp; omega
      have ck := hir.cell k hlt2
      have hlm := Hlm.out
      have bk := Hzb.out k
      have l6b : (sloR m zs k).length ≤ 1000000 := Nat.le_trans (sloR_len m zs k) (by omega)
      have l7b : (sloC m zs k).length ≤ 1000000 := Nat.le_trans (sloC_len m zs k) (by omega)
      have hbs : w.heap.size ≤ wr.heap.size := hI.bl.size
      have hbw : b < wr.heap.size := Nat.lt_of_lt_of_le hlt hbs
      have w2 := div_wrap m k (by omega)
      have i0 : (k : Int) < zs.length := by omega
      by_cases e1 : k % m + 1 < m
      · have t1 := col_yes m k e1
        have hk1 : k + 1 < zs.length := by have := next_lt m k (by omega) e1; omega
        have ck1 := hir.cell (k + 1) hk1
        have bk1 := Hzb.out (k + 1)
        have HR := Lib.hid (sloR_yes m zs k e1)
        have i1 : (k : Int) + 1 < zs.length := by omega
        have j1 : IntKind.i64.wrap ((k : Int) + 1) = (k : Int) + 1 := IntWalk.i64_in _ (by omega)
        have j2 : ((k : Int) + 1).toNat = k + 1 := by omega
        have j0 : (0 : Int) ≤ (k : Int) + 1 := by omega
        have j3 : IntKind.i64.wrap (zs.getD (k + 1) 0 - zs.getD k 0) = zs.getD (k + 1) 0 - zs.getD k 0 := IntWalk.i64_in _ (by omega)
        by_cases e2 : k / m + 1 < m
        · have t2 := row_yes m k e2
          have hkm : k + m < zs.length := by have := below_lt m k hm1 e2; omega
          have ckm := hir.cell (k + m) hkm
          have bkm := Hzb.out (k + m)
          have HC := Lib.hid (sloC_yes m zs k e2)
          have j6 : IntKind.i64.wrap (zs.getD (k + m) 0 - zs.getD k 0) = zs.getD (k + m) 0 - zs.getD k 0 := IntWalk.i64_in _ (by omega)
          generalize zs.getD k 0 = zk at ck bk HC HR j3 j6
          generalize zs.getD (k + 1) 0 = z1 at ck1 bk1 HR j3
          generalize zs.getD (k + m) 0 = zm at ckm bkm HC j6
          clear hir hlm hI e1 e2
          have i2 : (k : Int) + m < zs.length := by omega
          have j4 : IntKind.i64.wrap ((k : Int) + m) = (k : Int) + m := IntWalk.i64_in _ (by omega)
          have j5 : ((k : Int) + m).toNat = k + m := by omega
          have j7 : (0 : Int) ≤ (k : Int) + m := by omega
          go_wp2_with fail
          go_region_law (refine step_pushG rfl (.tmp 28) (.tmp 39) rfl w.heap.size g6 c6 l6 (sloR m zs k) (z1 - zk) _ 1 HI.out.e6 rfl (HI.out.step ((Same.refl _ _).drew.alloc _)).o6 rfl (World.cell?_alloc_at _ _ _ _ rfl) l6b (by simp; omega) ?_; intro g' c' w' ho hg hs)
          all_goals
            have H2 := Lib.hid ((HI.out.step ((Same.refl _ _).drew.alloc _)).push6 ho hg hs)
            have hs0 : Same (fun k => k = g6) wr w' := ((Same.refl _ _).drew.alloc _).trans hs
            have ckm2 := (hs0.cell (p := ⟨b, off + (k + m), none⟩) hbw (by have := HI.out.b6; simp; omega)).trans ckm
            have ck2 := (hs0.cell (p := ⟨b, off + k, none⟩) hbw (by have := HI.out.b6; simp; omega)).trans ck
            clear ck ck1 ckm hg ho hs hs0
            go_wp2_with fail
            go_region_law (refine step_pushG rfl (.tmp 47) (.tmp 59) rfl w.heap.size g7 c7 l7 (sloC m zs k) (zm - zk) _ 1 H2.out.e7 rfl (H2.out.step ((Same.refl _ _).drew.alloc _)).o7 rfl (World.cell?_alloc_at _ _ _ _ rfl) l7b (by have := H2.out.bl.size; simp; omega) ?_; intro g'' c'' w'' ho hg hs)
            all_goals
              have H3 := Lib.hid ((H2.out.step ((Same.refl _ _).drew.alloc _)).push7 ho hg hs)
              clear hg ho hs ck2 ckm2
              go_wp2_with fail
              exact ⟨⟨k + 1, g', l6 + 1, c', g'', l7 + 1, c'', by omega, by go_num, rfl, rfl, by rw [HR.out, HC.out]; exact H3.out⟩, by simp [intOf]; omega⟩
        · have t2 := row_no m k e2
          have HC := Lib.hid (sloC_no m zs k e2)
          generalize zs.getD k 0 = zk at ck bk HR j3
          generalize zs.getD (k + 1) 0 = z1 at ck1 bk1 HR j3
          clear hir hlm hI e1 e2
          go_wp2_with fail
          go_region_law (refine step_pushG rfl (.tmp 28) (.tmp 39) rfl w.heap.size g6 c6 l6 (sloR m zs k) (z1 - zk) _ 1 HI.out.e6 rfl (HI.out.step ((Same.refl _ _).drew.alloc _)).o6 rfl (World.cell?_alloc_at _ _ _ _ rfl) l6b (by simp; omega) ?_; intro g' c' w' ho hg hs)
          all_goals
            have H2 := Lib.hid ((HI.out.step ((Same.refl _ _).drew.alloc _)).push6 ho hg hs)
            clear ck ck1 hg ho hs
            go_wp2_with fail
            exact ⟨⟨k + 1, g', l6 + 1, c', g7, l7, c7, by omega, by go_num, rfl, rfl, by rw [HR.out, HC.out]; exact H2.out⟩, by simp [intOf]; omega⟩
      · have t1 := col_no m k e1
        have HR := Lib.hid (sloR_no m zs k e1)
        by_cases e2 : k / m + 1 < m
        · have t2 := row_yes m k e2
          have hkm : k + m < zs.length := by have := below_lt m k hm1 e2; omega
          have ckm := hir.cell (k + m) hkm
          have bkm := Hzb.out (k + m)
          have HC := Lib.hid (sloC_yes m zs k e2)
          have j6 : IntKind.i64.wrap (zs.getD (k + m) 0 - zs.getD k 0) = zs.getD (k + m) 0 - zs.getD k 0 := IntWalk.i64_in _ (by omega)
          generalize zs.getD k 0 = zk at ck bk HC j6
          generalize zs.getD (k + m) 0 = zm at ckm bkm HC j6
          clear hir hlm hI e1 e2
          have i2 : (k : Int) + m < zs.length := by omega
          have j4 : IntKind.i64.wrap ((k : Int) + m) = (k : Int) + m := IntWalk.i64_in _ (by omega)
          have j5 : ((k : Int) + m).toNat = k + m := by omega
          have j7 : (0 : Int) ≤ (k : Int) + m := by omega
          go_wp2_with fail
          go_region_law (refine step_pushG rfl (.tmp 47) (.tmp 59) rfl w.heap.size g7 c7 l7 (sloC m zs k) (zm - zk) _ 1 HI.out.e7 rfl (HI.out.step ((Same.refl _ _).drew.alloc _)).o7 rfl (World.cell?_alloc_at _ _ _ _ rfl) l7b (by simp; omega) ?_; intro g' c' w' ho hg hs)
          all_goals
            have H2 := Lib.hid ((HI.out.step ((Same.refl _ _).drew.alloc _)).push7 ho hg hs)
            clear ck ckm hg ho hs
            go_wp2_with fail
            exact ⟨⟨k + 1, g6, l6, c6, g', l7 + 1, c', by omega, by go_num, rfl, rfl, by rw [HR.out, HC.out]; exact H2.out⟩, by simp [intOf]; omega⟩
        · have t2 := row_no m k e2
          have HC := Lib.hid (sloC_no m zs k e2)
          generalize zs.getD k 0 = zk at ck bk
          clear hir hlm hI e1 e2
          go_wp2_with fail
          exact ⟨⟨k + 1, g6, l6, c6, g7, l7, c7, by omega, by go_num, rfl, rfl, by rw [HR.out, HC.out]; exact HI.out⟩, by simp [intOf]; omega⟩
    · have hd : decide ((k : Int) < m * m) = false := by have := Hlen.out; simp; omega
      obtain rfl : k = zs.length := by omega
      clear hI
      have L6 := Lib.hid (Nat.le_trans (sloR_len m zs zs.length) (show zs.length ≤ 1000000 by omega))
      have L7 := Lib.hid (Nat.le_trans (sloC_len m zs zs.length) (show zs.length ≤ 1000000 by omega))
      obtain rfl := HI.out.e6
      obtain rfl := HI.out.e7
      have hc1 := l07Most_own w.heap.size g6 c6 _ wr HI.out.o6 L6.out
      go_wp2_with fail
      refine hc1.mono ?_
      rintro e w1 ⟨rfl, hs1⟩
      have hb1 : Below w.heap.size w w1 := HI.out.bl.trans (hs1.mono HI.out.bl.size)
      have o7 : OwnI w1 w.heap.size (.slice (some ⟨g7, 0, none⟩) (sloC m zs zs.length).length c7) (sloC m zs zs.length) := HI.out.o7.below hs1
      have hc2 := l07Most_own w.heap.size g7 c7 _ w1 o7 L7.out
      clear o7 hc1
      go_wp2_with fail
      refine hc2.mono ?_
      rintro e w2 ⟨rfl, hs2⟩
      have hb2 : Below w.heap.size w w2 := hb1.trans (hs2.mono hb1.size)
      clear hc2 hs1 hs2 hb1
      go_wp2_with fail
      go_ret2
      exact ⟨_, rfl, two_new _ _ hb2.size _ _, hb2.alloc hb2.size _⟩

theorem slopesOfS_any (n : Int) (b off cap : Nat) (zs : List Int) (w : World) (hi : IntsIn w b off zs) (hl : zs.length ≤ 1000000) :
    Calls Try.prog 21 #[.int .i64 n, .slice (some ⟨b, off, none⟩) zs.length cap] w (ResI w (sloRes n zs) (sloCode n zs)) := by
  cases hm : hmB n zs with
  | true =>
    have := slopesOfS_yes n b off cap zs w hi hm
    simpa [sloCode, hm] using this
  | false =>
    have e1 : sloRes n zs = [] := by simp [sloRes, hm]
    have e2 : sloCode n zs = 1 := by simp [sloCode, hm]
    rw [e1, e2]
    have Hm := Lib.hid hm
    clear hm e1 e2
    go_enter Try.func21, Try.ntmps21
    go_wp2_with (first | (go_at_call 49; refine (l07Is_any n b off cap zs _ hi hl).mono ?_; rintro e w' ⟨rfl, rfl⟩; rw [Hm.out]))
    go_ret2
    exact ⟨_, rfl, .inl ⟨rfl, rfl⟩, Below.refl _ _⟩
end Go.Proofs.Ytlfcgbhjmdmocaa
