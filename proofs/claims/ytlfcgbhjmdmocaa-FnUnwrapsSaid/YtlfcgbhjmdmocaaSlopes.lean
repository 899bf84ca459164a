/- impl.SlopesOf. -/
import Derived.Test.YtlfcgbhjmdmocaaSlopesPure
import Derived.Test.YtlfcgbhjmdmocaaWrap
import Derived.Test.YtlfcgbhjmdmocaaCommonest
import Derived.Maps.AppendAt
namespace Go.Proofs.Ytlfcgbhjmdmocaa
open Go.RowKit

/-- 'append(s, z)' of one number onto a slice of the call's own that is not nil: where the new one lies. -/
theorem wp_pushG {w : World} {o : Oper} {a : Act} {K : Act → World → Prop} {Q : Exit → Act → World → Prop} (s x : Operand)
    (ho : o.op = .call { callee := .builtin .append, args := #[s, x], argTypes := #[24, 24] })
    (base g0 c0 ln : Nat) (zs : List Int) (z : Int) (g c : Nat) (hln : ln = zs.length) (hs : a.eval s = .slice (some ⟨g0, 0, none⟩) ln c0) (hown : OwnI w base (.slice (some ⟨g0, 0, none⟩) ln c0) zs)
    (hx : a.eval x = .slice (some ⟨g, 0, none⟩) 1 c) (hc : w.cell? ⟨g, 0, none⟩ = some (.int .i64 z)) (hlen : zs.length ≤ 1000000) (hbase : base ≤ w.heap.size)
    (h : ∀ g' c' w', OwnI w' base (.slice (some ⟨g', 0, none⟩) (ln + 1) c') (zs ++ [z]) → (g' = g0 ∨ g' = w.heap.size) → Same (· = g0) w w' → K (a.put o.dst (.slice (some ⟨g', 0, none⟩) (ln + 1) c')) w') : Oper.wp Try.prog o a w K Q := by
  subst hln
  obtain ⟨i0, hi, hz0, hz1, hz2⟩ := info_parts info_i64
  obtain ⟨v', w', hr, h2, h3, h4, h5⟩ := run_append_own_at (P := Try.prog) w base 24 o.type 2 i0 (.int .i64 0) 1 8 Try.underlying24 hi hz0 hz1 hz2 rfl (by decide)
    (.slice (some ⟨g0, 0, none⟩) zs.length c0) zs.length (zs.map (Value.int .i64)) hown ⟨g, 0, none⟩ 1 c [.int .i64 z] rfl (by
      intro j u hj
      match j, hj with
      | 0, hj => simp at hj; subst hj; simpa [Addr.add] using hc) (by intro u hu; simp at hu; subst hu; rfl) (by unfold maxLen; omega) (by omega) hbase
  unfold Oper.wp execOp
  simp only [ho, resolve, invoke, builtin, Sem.run_bind, Sem.run_pure, Result.andThen_ok, List.map_toArray, List.map_cons, List.map_nil, hs, hx, hr]
  have hown' : OwnI w' base v' (zs ++ [z]) := by simpa [OwnI] using h2
  rcases hown'.2 with ⟨h0, _⟩ | ⟨g', c', cur, rfl, _⟩
  · have := (h4.1 h0).1
    cases this
  · have hl : (zs ++ [z]).length = zs.length + 1 := by simp
    rw [hl] at hown' ⊢
    refine h g' c' w' hown' ?_ ⟨h3.os, h3.tape, h3.output, h3.size, fun k hk hne => h3.block k hk (by simpa [Value.ownBlock] using hne)⟩
    simpa [Value.ownBlock] using h5

/-- Steps along rows and columns, collected in two slices of the call's own. -/
structure SloInv (w : World) (rs cs : List Int) (g6 l6 c6 g7 l7 c7 : Nat) (W : World) : Prop where
  e6 : l6 = rs.length
  e7 : l7 = cs.length
  o6 : OwnI W w.heap.size (.slice (some ⟨g6, 0, none⟩) l6 c6) rs
  o7 : OwnI W w.heap.size (.slice (some ⟨g7, 0, none⟩) l7 c7) cs
  ne : g6 ≠ g7
  bl : Below w.heap.size w W

section
variable {w : World} {rs cs : List Int} {g6 l6 c6 g7 l7 c7 : Nat} {W : World}
theorem SloInv.b6 (h : SloInv w rs cs g6 l6 c6 g7 l7 c7 W) : w.heap.size ≤ g6 ∧ g6 < W.heap.size := h.o6.lt g6 rfl
theorem SloInv.b7 (h : SloInv w rs cs g6 l6 c6 g7 l7 c7 W) : w.heap.size ≤ g7 ∧ g7 < W.heap.size := h.o7.lt g7 rfl
theorem SloInv.step (h : SloInv w rs cs g6 l6 c6 g7 l7 c7 W) {W' : World} (hs : Same (fun _ => False) W W') : SloInv w rs cs g6 l6 c6 g7 l7 c7 W' :=
  ⟨h.e6, h.e7, ownsRow_same h.o6 hs (fun _ _ f => f), ownsRow_same h.o7 hs (fun _ _ f => f), h.ne, h.bl.trans (hs.below (Nat.le_trans h.bl.size (Nat.le_refl _)) (fun _ _ f => f))⟩
theorem SloInv.push6 (h : SloInv w rs cs g6 l6 c6 g7 l7 c7 W) {g' c' : Nat} {z : Int} {W' : World} (ho : OwnI W' w.heap.size (.slice (some ⟨g', 0, none⟩) (l6 + 1) c') (rs ++ [z])) (hg : g' = g6 ∨ g' = W.heap.size) (hs : Same (· = g6) W W') :
    SloInv w (rs ++ [z]) cs g' (l6 + 1) c' g7 l7 c7 W' := by
  have h6 := h.b6
  have h7 := h.b7
  refine ⟨by rw [List.length_append, ← h.e6]; rfl, h.e7, ho, ownsRow_same h.o7 hs (fun k hk e => ?_), ?_, h.bl.trans (hs.below h.bl.size (fun k hk e => by omega))⟩
  · simp [Value.ownBlock] at hk
    exact h.ne (by omega)
  · rcases hg with rfl | rfl
    · exact h.ne
    · omega
theorem SloInv.push7 (h : SloInv w rs cs g6 l6 c6 g7 l7 c7 W) {g' c' : Nat} {z : Int} {W' : World} (ho : OwnI W' w.heap.size (.slice (some ⟨g', 0, none⟩) (l7 + 1) c') (cs ++ [z])) (hg : g' = g7 ∨ g' = W.heap.size) (hs : Same (· = g7) W W') :
    SloInv w rs (cs ++ [z]) g6 l6 c6 g' (l7 + 1) c' W' := by
  have h6 := h.b6
  have h7 := h.b7
  refine ⟨h.e6, by rw [List.length_append, ← h.e7]; rfl, ownsRow_same h.o6 hs (fun k hk e => ?_), ho, ?_, h.bl.trans (hs.below h.bl.size (fun k hk e => by omega))⟩
  · simp [Value.ownBlock] at hk
    exact h.ne (by omega)
  · rcases hg with rfl | rfl
    · exact h.ne
    · omega
end

theorem SloInv.start (w : World) : SloInv w [] [] w.heap.size 0 0 (w.heap.size + 1) 0 0 ((w.alloc (.cells #[] 2)).alloc (.cells #[] 2)) := by
  have h1 := OwnI.made (w := w) (base := w.heap.size) [] (Nat.le_refl _) (by simp)
  have h2 := OwnI.made (w := w.alloc (.cells #[] 2)) (base := w.heap.size) [] (by simp) (by simp)
  refine ⟨rfl, rfl, h1.same (S := fun _ => False) ((Same.refl _ _).alloc _) (fun _ _ f => f), by simpa using h2, by omega, ((Below.refl _ _).alloc (Nat.le_refl _) _).alloc (by simp) _⟩

theorem sloR_yes (m : Nat) (zs : List Int) (k : Nat) (h : k % m + 1 < m) : sloR m zs (k + 1) = sloR m zs k ++ [zs.getD (k + 1) 0 - zs.getD k 0] := by rw [sloR, if_pos h]
theorem sloR_no (m : Nat) (zs : List Int) (k : Nat) (h : ¬ k % m + 1 < m) : sloR m zs (k + 1) = sloR m zs k := by rw [sloR, if_neg h]
theorem sloC_yes (m : Nat) (zs : List Int) (k : Nat) (h : k / m + 1 < m) : sloC m zs (k + 1) = sloC m zs k ++ [zs.getD (k + m) 0 - zs.getD k 0] := by rw [sloC, if_pos h]
theorem sloC_no (m : Nat) (zs : List Int) (k : Nat) (h : ¬ k / m + 1 < m) : sloC m zs (k + 1) = sloC m zs k := by rw [sloC, if_neg h]

/-- The tests on a cell's column and row, as the walk spells them. -/
theorem col_yes (m k : Nat) (h : k % m + 1 < m) : decide ((k : Int) % m < (m : Int) - 1) = true := by
  rw [decide_eq_true_iff, show (k : Int) % m = ((k % m : Nat) : Int) by simp]; omega
theorem col_no (m k : Nat) (h : ¬ k % m + 1 < m) : decide ((k : Int) % m < (m : Int) - 1) = false := by
  rw [decide_eq_false_iff_not, show (k : Int) % m = ((k % m : Nat) : Int) by simp]; omega
theorem row_yes (m k : Nat) (h : k / m + 1 < m) : decide ((k : Int) / m < (m : Int) - 1) = true := by
  rw [decide_eq_true_iff, show (k : Int) / m = ((k / m : Nat) : Int) by simp]; omega
theorem row_no (m k : Nat) (h : ¬ k / m + 1 < m) : decide ((k : Int) / m < (m : Int) - 1) = false := by
  rw [decide_eq_false_iff_not, show (k : Int) / m = ((k / m : Nat) : Int) by simp]; omega

theorem div_wrap (m k : Nat) (h : k ≤ 1000) : wrap64 ((k : Int) / m) = (k : Int) / m := by
  have h1 : (k : Int) / m = ((k / m : Nat) : Int) := by simp
  have h2 : k / m ≤ k := Nat.div_le_self k m
  rw [h1]
  generalize k / m = q at *
  unfold wrap64
  omega

theorem two_new (w : World) (B : Nat) (hB : B ≤ w.heap.size) (x y : Int) : FreshI B (w.alloc (.cells #[.int .i64 x, .int .i64 y] 2)) (.slice (some ⟨w.heap.size, 0, none⟩) 2 2) [x, y] := by
  have := (OwnI.made (w := w) (base := B) [x, y] hB (by simp [maxLen])).fresh
  simpa using this

set_option maxRecDepth 100000 in
set_option maxHeartbeats 4000000 in
theorem slopesOf_yes (n : Int) (b off cap : Nat) (zs : List Int) (w : World) (hi : IntsIn w b off zs) (hm : hmB n zs = true) :
    Calls Try.prog 20 #[.int .i64 n, .slice (some ⟨b, off, none⟩) zs.length cap] w (ResI w (sloRes n zs) 0) := by
  obtain ⟨hs, hlen, hz⟩ := hmB_true hm
  have hzb := getD_bd2 hz
  have hnn : 1 ≤ n * n ∧ n * n ≤ 64 ∧ 1 ≤ n ∧ n ≤ 8 := by rcases sideB_iff.1 hs with rfl | rfl | rfl | rfl <;> omega
  obtain ⟨g1, g2, g3, g4⟩ := hnn
  have hl : zs.length ≤ 64 := by omega
  have hres : sloRes n zs = [mostOf (sloR n.toNat zs zs.length), mostOf (sloC n.toNat zs zs.length)] := by simp [sloRes, hm]
  rw [hres]
  obtain ⟨m, rfl⟩ : ∃ m : Nat, n = (m : Int) := ⟨n.toNat, by omega⟩
  simp only [Int.toNat_natCast]
  have hlm : zs.length = m * m := by
    have h1 : ((zs.length : Nat) : Int) = ((m * m : Nat) : Int) := by rw [hlen]; simp
    omega
  have Hlm := Lib.hid hlm
  have Hm := Lib.hid hm
  have Hzb := Lib.hid hzb
  have hm1 : 1 ≤ m := by omega
  have hm8 : m ≤ 8 := by omega
  clear hlen hz hzb hs hlm g3 g4 hres hm
  have hlt := hi.lt
  have hI := SloInv.start w
  go_enter Try.func20, Try.ntmps20
  go_wp2_with (first | (go_at_call 32; refine (isHeightMap_any (m : Int) b off cap zs _ hi (by omega)).mono ?_; rintro e w' ⟨rfl, rfl⟩; rw [Hm.out]))
  go_loopw [6, 7, 18] (fun v6 v7 i wr => ∃ k g6 l6 c6 g7 l7 c7 : Nat, k ≤ zs.length ∧ i = .int .i64 k ∧ v6 = .slice (some ⟨g6, 0, none⟩) l6 c6 ∧ v7 = .slice (some ⟨g7, 0, none⟩) l7 c7 ∧ SloInv w (sloR m zs k) (sloC m zs k) g6 l6 c6 g7 l7 c7 wr)
    (fun _ _ i _ => zs.length - (intOf i).toNat)
  case atStart => exact ⟨0, _, _, _, _, _, _, Nat.zero_le _, rfl, rfl, rfl, hI⟩
  case round =>
    clear hI
    obtain ⟨k, g6, l6, c6, g7, l7, c7, hk, rfl, rfl, rfl, hI⟩ := hrel
    have HI := Lib.hid hI
    by_cases hlt2 : k < zs.length
    · have hir := hi.below hI.bl hlt
      have ck := hir.cell k hlt2
      have hlm := Hlm.out
      have bk := Hzb.out k
      have l6b : (sloR m zs k).length ≤ 1000000 := Nat.le_trans (sloR_len m zs k) (by omega)
      have l7b : (sloC m zs k).length ≤ 1000000 := Nat.le_trans (sloC_len m zs k) (by omega)
      have hbs : w.heap.size ≤ wr.heap.size := hI.bl.size
      have w2 := div_wrap m k (by omega)
      by_cases e1 : k % m + 1 < m
      · have t1 := col_yes m k e1
        have hk1 : k + 1 < zs.length := by have := next_lt m k (by omega) e1; omega
        have ck1 := hir.cell (k + 1) hk1
        have bk1 := Hzb.out (k + 1)
        have HR := Lib.hid (sloR_yes m zs k e1)
        have i1 : (k : Int) + 1 < zs.length := by omega
        by_cases e2 : k / m + 1 < m
        · have t2 := row_yes m k e2
          have hkm : k + m < zs.length := by have := below_lt m k hm1 e2; omega
          have ckm := hir.cell (k + m) hkm
          have bkm := Hzb.out (k + m)
          have HC := Lib.hid (sloC_yes m zs k e2)
          generalize zs.getD k 0 = zk at ck bk HC HR
          generalize zs.getD (k + 1) 0 = z1 at ck1 bk1 HR
          generalize zs.getD (k + m) 0 = zm at ckm bkm HC
          clear hir hlm hI e1 e2
          have i2 : (k : Int) + m < zs.length := by omega
          go_wp2_with (first
            | (at_builtin; refine wpList_plain rfl fun K hK => wp_pushG (.tmp 29) (.tmp 37) rfl w.heap.size g6 c6 l6 (sloR m zs k) _ _ 1 HI.out.e6 rfl (HI.out.step ((Same.refl _ _).alloc _)).o6 rfl (World.cell?_alloc_at _ _ _ _ rfl) l6b (by simp; omega) ?_; intro g' c' w' ho hg hs; have H2 := Lib.hid ((HI.out.step ((Same.refl _ _).alloc _)).push6 ho hg hs); have ckm2 := (hs.cell (p := ⟨b, off + (k + m), none⟩) (by simp; omega) (by have := HI.out.b6; simp; omega)).trans ((((Same.refl (fun _ => False) _).alloc _).cell (p := ⟨b, off + (k + m), none⟩) (Nat.lt_of_lt_of_le hlt hbs) (fun f => f)).trans ckm); clear ck ck1 ckm hg ho hs; refine hK _ _ ?_)
            | (at_builtin; refine wpList_plain rfl fun K hK => wp_pushG (.tmp 45) (.tmp 54) rfl w.heap.size g7 c7 l7 (sloC m zs k) _ _ 1 H2.out.e7 rfl (H2.out.step ((Same.refl _ _).alloc _)).o7 rfl (World.cell?_alloc_at _ _ _ _ rfl) l7b (by have := H2.out.bl.size; simp; omega) ?_; intro g'' c'' w'' ho hg hs; refine hK _ _ ?_))
          have H3 := Lib.hid ((H2.out.step ((Same.refl _ _).alloc _)).push7 ho hg hs)
          clear hg ho hs
          go_wp2_with fail
          exact ⟨⟨k + 1, g', l6 + 1, c', g'', l7 + 1, c'', by omega, by go_num, rfl, rfl, by rw [HR.out, HC.out]; exact H3.out⟩, by simp [intOf]; omega⟩
        · have t2 := row_no m k e2
          have HC := Lib.hid (sloC_no m zs k e2)
          generalize zs.getD k 0 = zk at ck bk HR
          generalize zs.getD (k + 1) 0 = z1 at ck1 bk1 HR
          clear hir hlm hI e1 e2
          go_wp2_with (at_builtin; refine wpList_plain rfl fun K hK => wp_pushG (.tmp 29) (.tmp 37) rfl w.heap.size g6 c6 l6 (sloR m zs k) _ _ 1 HI.out.e6 rfl (HI.out.step ((Same.refl _ _).alloc _)).o6 rfl (World.cell?_alloc_at _ _ _ _ rfl) l6b (by simp; omega) ?_; intro g' c' w' ho hg hs; refine hK _ _ ?_)
          have H2 := Lib.hid ((HI.out.step ((Same.refl _ _).alloc _)).push6 ho hg hs)
          clear ck ck1 hg ho hs
          go_wp2_with fail
          exact ⟨⟨k + 1, g', l6 + 1, c', g7, l7, c7, by omega, by go_num, rfl, rfl, by rw [HR.out, HC.out]; exact H2.out⟩, by simp [intOf]; omega⟩
      · have t1 := col_no m k e1
        have HR := Lib.hid (sloR_no m zs k e1)
        by_cases e2 : k / m + 1 < m
        · have t2 := row_yes m k e2
          have hkm : k + m < zs.length := by have := below_lt m k hm1 e2; omega
          have ckm := hir.cell (k + m) hkm
          have bkm := Hzb.out (k + m)
          have HC := Lib.hid (sloC_yes m zs k e2)
          generalize zs.getD k 0 = zk at ck bk HC
          generalize zs.getD (k + m) 0 = zm at ckm bkm HC
          clear hir hlm hI e1 e2
          have i2 : (k : Int) + m < zs.length := by omega
          go_wp2_with (at_builtin; refine wpList_plain rfl fun K hK => wp_pushG (.tmp 45) (.tmp 54) rfl w.heap.size g7 c7 l7 (sloC m zs k) _ _ 1 HI.out.e7 rfl (HI.out.step ((Same.refl _ _).alloc _)).o7 rfl (World.cell?_alloc_at _ _ _ _ rfl) l7b (by simp; omega) ?_; intro g' c' w' ho hg hs; refine hK _ _ ?_)
          have H2 := Lib.hid ((HI.out.step ((Same.refl _ _).alloc _)).push7 ho hg hs)
          clear ck ckm hg ho hs
          go_wp2_with fail
          exact ⟨⟨k + 1, g6, l6, c6, g', l7 + 1, c', by omega, by go_num, rfl, rfl, by rw [HR.out, HC.out]; exact H2.out⟩, by simp [intOf]; omega⟩
        · have t2 := row_no m k e2
          have HC := Lib.hid (sloC_no m zs k e2)
          generalize zs.getD k 0 = zk at ck bk
          clear hir hlm hI e1 e2
          go_wp2_with fail
          exact ⟨⟨k + 1, g6, l6, c6, g7, l7, c7, by omega, by go_num, rfl, rfl, by rw [HR.out, HC.out]; exact HI.out⟩, by simp [intOf]; omega⟩
    · have hd : decide ((k : Int) < zs.length) = false := by simp; omega
      obtain rfl : k = zs.length := by omega
      clear hI
      have L6 := Lib.hid (Nat.le_trans (sloR_len m zs zs.length) (show zs.length ≤ 1000000 by omega))
      have L7 := Lib.hid (Nat.le_trans (sloC_len m zs zs.length) (show zs.length ≤ 1000000 by omega))
      obtain rfl := HI.out.e6
      obtain rfl := HI.out.e7
      have hc1 := commonest_any w.heap.size g6 c6 _ wr HI.out.o6 L6.out
      go_wp2_with fail
      refine hc1.mono ?_
      rintro e w1 ⟨rfl, hs1⟩
      have o7 : OwnI w1 w.heap.size (.slice (some ⟨g7, 0, none⟩) (sloC m zs zs.length).length c7) (sloC m zs zs.length) := ownsRow_same HI.out.o7 hs1 (fun k hk e => by
        simp [Value.ownBlock] at hk
        exact HI.out.ne (by omega))
      have hb1 : Below w.heap.size w w1 := HI.out.bl.trans (hs1.below HI.out.bl.size (fun k hk e => by have := HI.out.b6; omega))
      have hc2 := commonest_any w.heap.size g7 c7 _ w1 o7 L7.out
      clear o7 hc1
      go_wp2_with fail
      refine hc2.mono ?_
      rintro e w2 ⟨rfl, hs2⟩
      have hb2 : Below w.heap.size w w2 := hb1.trans (hs2.below hb1.size (fun k hk e => by have := HI.out.b7; omega))
      clear hc2 hs1 hs2 hb1
      go_wp2_with fail
      go_ret2
      exact ⟨_, rfl, two_new _ _ hb2.size _ _, hb2.alloc hb2.size _⟩
def sloCode (n : Int) (zs : List Int) : Int := if hmB n zs = true then 0 else 1
theorem slopesOf_any (n : Int) (b off cap : Nat) (zs : List Int) (w : World) (hi : IntsIn w b off zs) (hl : zs.length ≤ 1000000) :
    Calls Try.prog 20 #[.int .i64 n, .slice (some ⟨b, off, none⟩) zs.length cap] w (ResI w (sloRes n zs) (sloCode n zs)) := by
  cases hm : hmB n zs with
  | true =>
    have := slopesOf_yes n b off cap zs w hi hm
    simpa [sloCode, hm] using this
  | false =>
    have e1 : sloRes n zs = [] := by simp [sloRes, hm]
    have e2 : sloCode n zs = 1 := by simp [sloCode, hm]
    rw [e1, e2]
    have Hm := Lib.hid hm
    clear hm e1 e2
    go_enter Try.func20, Try.ntmps20
    go_wp2_with (first | (go_at_call 32; refine (isHeightMap_any n b off cap zs _ hi hl).mono ?_; rintro e w' ⟨rfl, rfl⟩; rw [Hm.out]))
    go_ret2
    exact ⟨_, rfl, .inl ⟨rfl, rfl⟩, Below.refl _ _⟩
end Go.Proofs.Ytlfcgbhjmdmocaa
