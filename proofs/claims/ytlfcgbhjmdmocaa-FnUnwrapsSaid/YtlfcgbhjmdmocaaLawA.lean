/- laws.FnUnwraps: its first part. -/
import Derived.Test.YtlfcgbhjmdmocaaLawB
namespace Go.Proofs.Ytlfcgbhjmdmocaa
open Go.RowKit

theorem k_of {P : Program} {C : Code} {Q0 : Exit → Act → World → Prop} {K : Act → World → Prop} {a : Act} {w : World} (hK : ∀ a w, Code.wp P C Q0 a w → K a w) (h : Code.wp P C Q0 a w) : K a w := hK a w h

set_option maxRecDepth 100000 in
set_option maxHeartbeats 4000000 in
theorem law_any (a : Option Addr) (len cap : Nat) (w : World) (hl : len ≤ 9223372036854775807) (hc : BytesAt w a len) :
    Calls Try.prog 3 #[.slice a len cap] w fun e w' => e = .returned (.bool true) ∧ Below w.heap.size w w' := by
  by_cases hbig : 4096 < len
  · have hd : decide (4096 < (len : Int)) = true := by simp; omega
    go_enter Try.func3, Try.ntmps3
    go_wp2_with (go_at_call 4; refine (big_any a len cap _ hl).mono ?_; rintro e w' ⟨rfl, rfl⟩; rw [hd])
    go_ret
    exact ⟨rfl, Below.refl _ _⟩
  · have hd : decide (4096 < (len : Int)) = false := by simp; omega
    have hl2 : len ≤ 4096 := by omega
    go_enter Try.func3, Try.ntmps3
    go_wp2_with (go_at_call 4; refine (big_any a len cap _ hl).mono ?_; rintro e w' ⟨rfl, rfl⟩; rw [hd])
    clear hd
    refine (drawUnwrapRows_any a len cap _ hl2 hc).mono ?_
    rintro e w1 ⟨n, zs, g, cap1, rfl, n0, n1, z0, z1, hg, hi, hb1⟩
    have hlz : zs.length ≤ 1000000 := by omega
    go_wp2_with fail
    refine (unwrapRows_any n g 0 cap1 zs _ hi hlz).mono ?_
    rintro e w2 ⟨v2, rfl, f2, b2⟩
    have hi := hi.below b2 hi.lt
    go_wp2_with fail
    refine (unwrapRowsS_any n g 0 cap1 zs _ hi hlz).mono ?_
    rintro e w3 ⟨v3, rfl, f3, b3⟩
    have hi := hi.below b3 hi.lt
    have f2 := f2.below b3 (Nat.le_refl _)
    go_wp2_with fail
    refine (residuesOf_any n g 0 cap1 zs _ hi hlz).mono ?_
    rintro e w4 ⟨v4, rfl, f4, b4⟩
    have hi := hi.below b4 hi.lt
    have f2 := f2.below b4 (Nat.le_refl _)
    have f3 := f3.below b4 (Nat.le_refl _)
    go_wp2_with fail
    refine (residuesOfS_any n g 0 cap1 zs _ hi hlz).mono ?_
    rintro e w5 ⟨v5, rfl, f5, b5⟩
    have hi := hi.below b5 hi.lt
    have f2 := f2.below b5 (Nat.le_refl _)
    have f3 := f3.below b5 (Nat.le_refl _)
    have f4 := f4.below b5 (Nat.le_refl _)
    go_wp2_with fail
    refine (likeInts_any f2 f3 (Nat.le_trans (rowsRes_len n zs) hlz) rfl).mono ?_
    rintro e w6 ⟨rfl, b6⟩
    have hi := hi.below b6 hi.lt
    have f2 := f2.below b6 (Nat.le_refl _)
    have f4 := f4.below b6 (Nat.le_refl _)
    have f5 := f5.below b6 (Nat.le_refl _)
    go_wp2_with fail
    refine (likeInts_any f4 f5 (resRes_len n zs) rfl).mono ?_
    rintro e w7 ⟨rfl, b7⟩
    have hi := hi.below b7 hi.lt
    have f2 := f2.below b7 (Nat.le_refl _)
    have f4 := f4.below b7 (Nat.le_refl _)
    have bw := ((((((hb1.trans (b2.mono hb1.size)).trans (b3.mono (Nat.le_trans hb1.size b2.size))).trans (b4.mono (Nat.le_trans (Nat.le_trans hb1.size b2.size) b3.size))).trans (b5.mono (by have := hb1.size; have := b2.size; have := b3.size; have := b4.size; omega))).trans (b6.mono (by have := hb1.size; have := b2.size; have := b3.size; have := b4.size; have := b5.size; omega))).trans (b7.mono (by have := hb1.size; have := b2.size; have := b3.size; have := b4.size; have := b5.size; have := b6.size; omega)))
    clear b2 b3 b4 b5 b6 b7 f3 f5 hb1
    go_upto_if 114 with fail
    go_cut [6, 8, 10, 12, 13, 14, 15, 16, 17, 18, 19, 20, 21, 22, 23] from 59 to 236 (fun _ _ _ _ _ _ _ _ _ _ _ _ _ _ _ wx => Below w.heap.size w wx)
    case first =>
      by_cases hw : wcode n zs = 0
      · obtain ⟨m, rfl⟩ : ∃ m : Nat, n = (m : Int) := ⟨n.toNat, by have := (wcode_zero hw).1; rcases sideB_iff.1 this with h | h | h | h <;> omega⟩
        obtain ⟨hs, m1, m8, hlm, hz⟩ := wcode_wave hw
        obtain ⟨e2, hm2, ew2⟩ := rows_hm hw
        obtain ⟨hm6, ew6⟩ := flood_hm hw
        obtain ⟨ec6, er6⟩ := flood_open hw
        have hcl := @clean_of m zs hw
        have hzb := getD_bd hz
        have hR := resRes_len (m : Int) zs
        rw [e2] at f2
        have hrl : (rowsTo m zs (m * m)).length = m * m := rowsTo_length _ _ _
        have hfl : (flOut m zs (fun _ => true) 0).length = m * m := (flood_bd m m1 m8 zs hz).1
        have hpos : 1 ≤ m * m := Nat.mul_pos m1 m1
        have hm64 : m * m ≤ 64 := Nat.mul_le_mul m8 m8
        generalize hRd : rowsTo m zs (m * m) = R at f2 hm2 ew2 hcl hrl
        generalize hFd : flOut m zs (fun _ => true) 0 = F at hm6 ew6 er6 hcl hfl
        generalize hSd : resRes (m : Int) zs = S at f4 hcl hR
        have Hcl := Lib.hid hcl
        have Hzb := Lib.hid hzb
        have Hw := Lib.hid hw
        have Hlm := Lib.hid hlm
        have Hhs := Lib.hid hs
        have Hrl := Lib.hid hrl
        have Hfl := Lib.hid hfl
        have Ew2 := Lib.hid ew2
        have Ew6 := Lib.hid ew6
        have Ec6 := Lib.hid ec6
        have Er6 := Lib.hid er6
        have Hm2 := Lib.hid hm2
        have Hm6 := Lib.hid hm6
        clear hcl hzb hlm hz hs hrl hfl hRd hFd hSd e2 ew2 ew6 ec6 er6 hm2 hm6
        rw [hw]
        clear hw
        obtain ⟨gr, cr, rfl, hgr, ir⟩ := f2.reads (by have := Hrl.out; omega)
        have HC1 := wrapI Hm2.out Ew2.out gr cr w7 ir (by have := Hrl.out; omega)
        go_wp2_with fail
        refine HC1.mono ?_
        clear HC1
        rintro e w8 ⟨v8, rfl, f8, b8⟩
        have hi := hi.below b8 hi.lt
        have f4 := f4.below b8 (Nat.le_refl _)
        have ir := ir.below b8 ir.lt
        go_wp2_with fail
        refine (openI m Hhs.out w8).mono ?_
        rintro e w9 ⟨rfl, b9⟩
        have hi := hi.below b9 hi.lt
        have f4 := f4.below b9 (Nat.le_refl _)
        have ir := ir.below b9 ir.lt
        have f8 := f8.below b9 (Nat.le_refl _)
        go_wp2_with (with_reducible refine wpList_store_wave rfl (.tmp 15) (.tmp 124) rfl w9.heap.size rfl (m : Int) (openW m) _ rfl rfl _ _ (heap_alloc_new _ _) (by rw [zero_wave, warr_size]) ?_)
        intro w10 hh10 hsm10
        have b10 : Below w9.heap.size w9 w10 := ((Below.refl w9.heap.size w9).alloc (Nat.le_refl _) _).trans (hsm10.below (by simp) (fun k hk e => by omega))
        have hi := hi.below b10 hi.lt
        have f4 := f4.below b10 (Nat.le_refl _)
        have ir := ir.below b10 ir.lt
        have f8 := f8.below b10 (Nat.le_refl _)
        clear hsm10
        have hh := Lib.hid hh10
        clear hh10
        have HC2 := floodI Ec6.out Er6.out g cap1 w10 hi hlz
        go_wp2_with (refine wpList_load_wave rfl (.tmp 15) rfl _ rfl _ _ _ _ hh.out ?_)
        refine HC2.mono ?_
        clear HC2
        rintro e w11 ⟨v11, rfl, f11, b11⟩
        have hi := hi.below b11 hi.lt
        have f4 := f4.below b11 (Nat.le_refl _)
        have ir := ir.below b11 ir.lt
        have f8 := f8.below b11 (Nat.le_refl _)
        go_wp2_with fail
        refine (likeInts_any f8 (.inr ⟨g, cap1, rfl, Nat.zero_le _, hi⟩ : FreshI 0 w11 (.slice (some ⟨g, 0, none⟩) zs.length cap1) zs) hlz rfl).mono ?_
        rintro e w12 ⟨rfl, b12⟩
        have hi := hi.below b12 hi.lt
        have f4 := f4.below b12 (Nat.le_refl _)
        have ir := ir.below b12 ir.lt
        have f11 := f11.below b12 (Nat.le_refl _)
        have bw12 : Below w.heap.size w w12 := by
          have s0 := bw.size
          have s8 := b8.size
          have s9 := b9.size
          have s10 := b10.size
          have s11 := b11.size
          exact ((((bw.trans (b8.mono s0)).trans (b9.mono (by omega))).trans (b10.mono (by omega))).trans (b11.mono (by omega))).trans (b12.mono (by omega))
        clear b8 b9 b10 b11 b12 f8 hh
        obtain ⟨a4, c4, rfl, h4⟩ := f4.shape
        clear f4
        go_wp2_with fail
        go_loop [19, 20] (fun v i => ∃ k : Nat, k ≤ S.length ∧ i = .int .i64 k ∧ v = .bool ((S.take k).all (fun x => x == 0))) (fun _ i => S.length - (intOf i).toNat)
        case atStart => exact ⟨0, Nat.zero_le _, rfl, by simp⟩
        case round =>
          obtain ⟨k, hk, rfl, rfl⟩ := hrel
          by_cases hlt : k < S.length
          · have hd : decide ((k : Int) < S.length) = true := by simp; omega
            obtain ⟨g4, rfl, hg4, ck⟩ := h4 k hlt
            have Hst := Lib.hid (all_take_succ S k hlt)
            generalize S.getD k 0 = z at ck Hst
            generalize (S.take k).all (fun x => x == 0) = b at Hst ⊢
            clear h4
            have i1 : (k : Int) < S.length := by omega
            cases b with
            | false =>
              go_wp2_with fail
              go_round
              case rel => exact ⟨k + 1, by omega, by go_num, by rw [Hst.out]; rfl⟩
              case measure => simp [intOf]; omega
            | true =>
              go_wp2_with fail
              go_round
              case rel => exact ⟨k + 1, by omega, by go_num, by rw [Hst.out]; rfl⟩
              case measure => simp [intOf]; omega
          · have hd : decide ((k : Int) < S.length) = false := by simp; omega
            obtain rfl : k = S.length := by omega
            rw [List.take_length]
            clear h4
            generalize hb0 : S.all (fun x => x == 0) = b0
            have Hb0 := Lib.hid hb0
            clear hb0
            go_wp2_with fail
            go_loopw [19, 21] (fun v i wr => ∃ k : Nat, k ≤ m * m ∧ i = .int .i64 k ∧ v = .bool (clnTo m zs b0 k) ∧ Below w12.heap.size w12 wr) (fun _ i _ => m * m - (intOf i).toNat)
            case atStart => exact ⟨0, Nat.zero_le _, rfl, rfl, Below.refl _ _⟩
            case round =>
              obtain ⟨k, hk, rfl, rfl, hbl⟩ := hrel
              have hir := hi.below hbl hi.lt
              have mm : (m : Int) * m = ((m * m : Nat) : Int) := by simp
              by_cases hlt : k < m * m
              · have hd : decide ((k : Int) < m * m) = true := by simp; omega
                have hlm := Hlm.out
                have ck := hir.cell k (by omega)
                have bk := Hzb.out k
                have Hst := Lib.hid (show clnTo m zs b0 (k + 1) = clnStep m zs k (clnTo m zs b0 k) from rfl)
                generalize clnTo m zs b0 k = b at Hst ⊢
                have HM := Lib.hid mm
                have hk0 : (k : Int) < zs.length := by omega
                have hbk : k ≤ 64 := by omega
                by_cases e1 : k % m + 1 < m
                · have _c := e1
                  have t1 := col_yes m k e1
                  have hk1 : k + 1 < zs.length := by have := next_lt m k hlt e1; omega
                  have ck1 := hir.cell (k + 1) hk1
                  have bk1 := Hzb.out (k + 1)
                  have i1 : (k : Int) + 1 < zs.length := by omega
                  by_cases e2 : k + m < m * m
                  · have _r := e2
                    have t2 : decide ((k : Int) + m < m * m) = true := by simp; omega
                    have hkm : k + m < zs.length := by omega
                    have ckm := hir.cell (k + m) hkm
                    have bkm := Hzb.out (k + m)
                    have i2 : (k : Int) + m < zs.length := by omega
                    have Hst := Lib.hid (show clnTo m zs b0 (k + 1) = ((b && halfN (zs.getD k 0) (zs.getD (k + 1) 0)) && halfN (zs.getD k 0) (zs.getD (k + m) 0)) from by rw [Hst.out, clnStep, if_pos e1, if_pos e2])
                    unfold halfN at Hst
                    generalize zs.getD (k + 1) 0 = z1 at ck1 bk1 Hst
                    generalize zs.getD (k + m) 0 = zm at ckm bkm Hst
                    generalize zs.getD k 0 = zk at ck bk Hst
                    have j0 : (0 : Int) ≤ (k : Int) + 1 := by omega
                    have j1 : IntKind.i64.wrap ((k : Int) + 1) = (k : Int) + 1 := IntWalk.i64_in _ (by omega)
                    have j2 : ((k : Int) + 1).toNat = k + 1 := by omega
                    have j3 : IntKind.i64.wrap (z1 - zk) = z1 - zk := IntWalk.i64_in _ (by omega)
                    have j4 : IntKind.i64.wrap (z1 - zk - 32) = z1 - zk - 32 := IntWalk.i64_in _ (by omega)
                    have r0 : (0 : Int) ≤ (k : Int) + m := by omega
                    have r1 : IntKind.i64.wrap ((k : Int) + m) = (k : Int) + m := IntWalk.i64_in _ (by omega)
                    have r2 : ((k : Int) + m).toNat = k + m := by omega
                    have r3 : IntKind.i64.wrap (zm - zk) = zm - zk := IntWalk.i64_in _ (by omega)
                    have r4 : IntKind.i64.wrap (zm - zk - 32) = zm - zk - 32 := IntWalk.i64_in _ (by omega)
                    simp only [Nat.zero_add] at ck ck1 ckm
                    clear mm hlm hir _c _r
                    cases b with
                    | true =>
                      go_wp2_with fail
                      go_quiet (fail)
                      generalize ((z1 - zk - 32).tmod 64 != 0) = h1 at Hst ⊢
                      cases h1 with
                      | true =>
                        go_wp2_with fail
                        go_quiet (fail)
                        go_wp2_with fail
                        go_roundw
                        case rel => exact ⟨k + 1, by omega, by go_num, by rw [Hst.out]; first | rfl | simp, by first | exact hbl | exact Below.drewN hbl _ | exact Below.drewN (Below.drewN hbl _) _⟩
                        case measure => simp [intOf]; omega
                      | false =>
                        go_wp2_with fail
                        go_quiet (fail)
                        go_wp2_with fail
                        go_roundw
                        case rel => exact ⟨k + 1, by omega, by go_num, by rw [Hst.out]; first | rfl | simp, by first | exact hbl | exact Below.drewN hbl _ | exact Below.drewN (Below.drewN hbl _) _⟩
                        case measure => simp [intOf]; omega
                    | false =>
                      go_wp2_with fail
                      go_quiet (fail)
                      go_wp2_with fail
                      go_quiet (fail)
                      go_wp2_with fail
                      go_roundw
                      case rel => exact ⟨k + 1, by omega, by go_num, by rw [Hst.out]; first | rfl | simp, by first | exact hbl | exact Below.drewN hbl _ | exact Below.drewN (Below.drewN hbl _) _⟩
                      case measure => simp [intOf]; omega
                  · have _r := e2
                    have t2 : decide ((k : Int) + m < m * m) = false := by simp; omega
                    have Hst := Lib.hid (show clnTo m zs b0 (k + 1) = ((b && halfN (zs.getD k 0) (zs.getD (k + 1) 0)) && true) from by rw [Hst.out, clnStep, if_pos e1, if_neg e2])
                    unfold halfN at Hst
                    generalize zs.getD (k + 1) 0 = z1 at ck1 bk1 Hst
                    generalize zs.getD k 0 = zk at ck bk Hst
                    have j0 : (0 : Int) ≤ (k : Int) + 1 := by omega
                    have j1 : IntKind.i64.wrap ((k : Int) + 1) = (k : Int) + 1 := IntWalk.i64_in _ (by omega)
                    have j2 : ((k : Int) + 1).toNat = k + 1 := by omega
                    have j3 : IntKind.i64.wrap (z1 - zk) = z1 - zk := IntWalk.i64_in _ (by omega)
                    have j4 : IntKind.i64.wrap (z1 - zk - 32) = z1 - zk - 32 := IntWalk.i64_in _ (by omega)
                    simp only [Nat.zero_add] at ck ck1
                    clear mm hlm hir _c _r
                    cases b with
                    | true =>
                      go_wp2_with fail
                      go_quiet (fail)
                      go_wp2_with fail
                      go_roundw
                      case rel => exact ⟨k + 1, by omega, by go_num, by rw [Hst.out]; first | rfl | simp, by first | exact hbl | exact Below.drewN hbl _ | exact Below.drewN (Below.drewN hbl _) _⟩
                      case measure => simp [intOf]; omega
                    | false =>
                      go_wp2_with fail
                      go_quiet (fail)
                      go_wp2_with fail
                      go_roundw
                      case rel => exact ⟨k + 1, by omega, by go_num, by rw [Hst.out]; first | rfl | simp, by first | exact hbl | exact Below.drewN hbl _ | exact Below.drewN (Below.drewN hbl _) _⟩
                      case measure => simp [intOf]; omega
                · have _c := e1
                  have t1 := col_no m k e1
                  by_cases e2 : k + m < m * m
                  · have _r := e2
                    have t2 : decide ((k : Int) + m < m * m) = true := by simp; omega
                    have hkm : k + m < zs.length := by omega
                    have ckm := hir.cell (k + m) hkm
                    have bkm := Hzb.out (k + m)
                    have i2 : (k : Int) + m < zs.length := by omega
                    have Hst := Lib.hid (show clnTo m zs b0 (k + 1) = (b && halfN (zs.getD k 0) (zs.getD (k + m) 0)) from by rw [Hst.out, clnStep, if_neg e1, if_pos e2])
                    unfold halfN at Hst
                    generalize zs.getD (k + m) 0 = zm at ckm bkm Hst
                    generalize zs.getD k 0 = zk at ck bk Hst
                    have r0 : (0 : Int) ≤ (k : Int) + m := by omega
                    have r1 : IntKind.i64.wrap ((k : Int) + m) = (k : Int) + m := IntWalk.i64_in _ (by omega)
                    have r2 : ((k : Int) + m).toNat = k + m := by omega
                    have r3 : IntKind.i64.wrap (zm - zk) = zm - zk := IntWalk.i64_in _ (by omega)
                    have r4 : IntKind.i64.wrap (zm - zk - 32) = zm - zk - 32 := IntWalk.i64_in _ (by omega)
                    simp only [Nat.zero_add] at ck ckm
                    clear mm hlm hir _c _r
                    cases b with
                    | true =>
                      go_wp2_with fail
                      go_quiet (fail)
                      go_wp2_with fail
                      go_roundw
                      case rel => exact ⟨k + 1, by omega, by go_num, by rw [Hst.out]; first | rfl | simp, by first | exact hbl | exact Below.drewN hbl _ | exact Below.drewN (Below.drewN hbl _) _⟩
                      case measure => simp [intOf]; omega
                    | false =>
                      go_wp2_with fail
                      go_quiet (fail)
                      go_wp2_with fail
                      go_roundw
                      case rel => exact ⟨k + 1, by omega, by go_num, by rw [Hst.out]; first | rfl | simp, by first | exact hbl | exact Below.drewN hbl _ | exact Below.drewN (Below.drewN hbl _) _⟩
                      case measure => simp [intOf]; omega
                  · have _r := e2
                    have t2 : decide ((k : Int) + m < m * m) = false := by simp; omega
                    have Hst := Lib.hid (show clnTo m zs b0 (k + 1) = (b && true) from by rw [Hst.out, clnStep, if_neg e1, if_neg e2])
                    generalize zs.getD k 0 = zk at ck bk
                    simp only [Nat.zero_add] at ck
                    clear mm hlm hir _c _r
                    cases b with
                    | true =>
                      go_wp2_with fail
                      go_wp2_with fail
                      go_roundw
                      case rel => exact ⟨k + 1, by omega, by go_num, by rw [Hst.out]; first | rfl | simp, by first | exact hbl | exact Below.drewN hbl _ | exact Below.drewN (Below.drewN hbl _) _⟩
                      case measure => simp [intOf]; omega
                    | false =>
                      go_wp2_with fail
                      go_wp2_with fail
                      go_roundw
                      case rel => exact ⟨k + 1, by omega, by go_num, by rw [Hst.out]; first | rfl | simp, by first | exact hbl | exact Below.drewN hbl _ | exact Below.drewN (Below.drewN hbl _) _⟩
                      case measure => simp [intOf]; omega
              · have hd : decide ((k : Int) < m * m) = false := by simp; omega
                obtain rfl : k = m * m := by omega
                have hi := hi.below hbl hi.lt
                have ir := ir.below hbl ir.lt
                have f11 := f11.below hbl (Nat.le_refl _)
                have bwr : Below w.heap.size w wr := bw12.trans (hbl.mono bw12.size)
                have hcl : clnTo m zs b0 (m * m) = true → F = R := by
                  have h := Hcl.out
                  rw [Hb0.out] at h
                  exact h
                have hgt : clnTo m zs b0 (m * m) = clnTo m zs b0 (m * m) := rfl
                generalize clnTo m zs b0 (m * m) = b at hcl ⊢
                have hF1 : 1 ≤ F.length := by rw [Hfl.out]; exact hpos
                have hF2 : F.length ≤ 1000000 := by rw [Hfl.out]; omega
                obtain ⟨gf, cf, rfl, hgf, iF⟩ := f11.reads hF1
                clear hgt mm hir f11
                cases b with
                | true =>
                  have hFR := hcl rfl
                  have HFR := Lib.hid hFR
                  clear hcl hFR
                  go_wp2_with fail
                  refine (likeInts_any (.inr ⟨gf, cf, rfl, Nat.zero_le _, iF⟩ : FreshI 0 wr (.slice (some ⟨gf, 0, none⟩) F.length cf) F) (.inr ⟨gr, cr, rfl, Nat.zero_le _, ir⟩ : FreshI 0 wr (.slice (some ⟨gr, 0, none⟩) R.length cr) R) hF2 (by rw [Hfl.out, Hrl.out])).mono ?_
                  rw [show decide (F = R) = true by simpa using HFR.out]
                  rintro e w13 ⟨rfl, b13⟩
                  have hi := hi.below b13 hi.lt
                  have iF := iF.below b13 iF.lt
                  have bw13 := bwr.trans (b13.mono bwr.size)
                  go_wp2_with fail
                  refine (wrapI Hm6.out Ew6.out gf cf w13 iF hF2).mono ?_
                  rintro e w14 ⟨v14, rfl, f14, b14⟩
                  have hi := hi.below b14 hi.lt
                  have bw14 := bw13.trans (b14.mono bw13.size)
                  go_wp2_with fail
                  refine (likeInts_any f14 (.inr ⟨g, cap1, rfl, Nat.zero_le _, hi⟩ : FreshI 0 w14 (.slice (some ⟨g, 0, none⟩) zs.length cap1) zs) hlz rfl).mono ?_
                  rintro e w15 ⟨rfl, b15⟩
                  have bw15 := bw14.trans (b15.mono bw14.size)
                  go_wp2_with fail
                  go_meet
                  exact bw15
                | false =>
                  clear hcl
                  go_wp2_with fail
                  refine (wrapI Hm6.out Ew6.out gf cf wr iF hF2).mono ?_
                  rintro e w14 ⟨v14, rfl, f14, b14⟩
                  have hi := hi.below b14 hi.lt
                  have bw14 := bwr.trans (b14.mono bwr.size)
                  go_wp2_with fail
                  refine (likeInts_any f14 (.inr ⟨g, cap1, rfl, Nat.zero_le _, hi⟩ : FreshI 0 w14 (.slice (some ⟨g, 0, none⟩) zs.length cap1) zs) hlz rfl).mono ?_
                  rintro e w15 ⟨rfl, b15⟩
                  have bw15 := bw14.trans (b15.mono bw14.size)
                  go_wp2_with fail
                  go_meet
                  exact bw15
      · have d : (wcode n zs == 0) = false := by simpa using hw
        clear hw
        go_wp2_with fail
        go_meet
        exact bw
    case rest =>
      refine k_of (by assumption) ?_
      exact lawB a len cap w wc hl2 hc hcut _ _ _ _ _ _ _ _ _ _ _ _ _ _ _ _ _ _ _ _ _ _ _ _ _ _ _ _ _ _ _ _ _ _ _ _ _ _ _ _ _ _ _ _ _ _ _ _ _ _ _ _ _ _ _ _ _ _ _ _ _ _ _ _ _ _ _ _ _ _ _ _ _ _ _ _ _ _ _ _ _ _ _ _ _ _ _ _ _ _ _ _ _ _ _ _ _ _ _ _ _ _ _ _ _ _ _ _ _ _ _ _ _ _ _ _ _ _ _ _ _ _ _ _ _ _ _ _ _ _ _ _ _ _ _ _ _ _ _ _ _ _ _ _ _ _ _ _ _ _ _ _ _ _ _ _ _ _ _ _ _ _ _ _ _ _ _ _ _ _ _ _ _ _ _ _ _ _ _ _ _ _ _ _ _ _ _ _ _ _ _ _ _ _ _ _ _ _ _ _ _ _ _ _ _ _ _ _ _ _ _ _ _ _ _ _ _ _ _ _ _ _ _ _ _ _ _ _ _ _ _ _ _ _ _ _ _ _ _ _ _ _ _ _ _ _ _ _ _ _ _ _ _ _ _ _ _ _ _ _ _ _ _ _ _ _ _ _ _ _ _ _ _ _ _ _ _ _ _ _ _ _ _ _ _ _ _ _ _ _ _ _ _ _ _ _ _ _ _ _ _ _ _ _ _ _ _ _ _ _ _ _ _ _ _ _ _ _ _ _ _ _ _ _ _ _ _ _ _ _ _ _ _ _ _ _ _ _ _ _ _ _ _ _ _ _ _ _ _ _ _ _ _ _ _ _ _ _ _ _ _ _ _ _ _ _ _ _ _ _ _ _ _ _ _ _ _ _ _ _ _ _ _ _ _ _ _ _ _ _ _ _ _ _ _ _ _ _ _ _ _ _ _ _ _ _ _ _ _ _ _ _ _ _ _ _ _ _ _ _ _ _ _ _ _ _ _ _ _ _ _ _
end Go.Proofs.Ytlfcgbhjmdmocaa
