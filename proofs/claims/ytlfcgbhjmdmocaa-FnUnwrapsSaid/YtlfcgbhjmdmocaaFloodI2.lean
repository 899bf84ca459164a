/- impl.UnwrapFlood: the flood itself. -/
import Derived.Test.YtlfcgbhjmdmocaaPairs
namespace Go.Proofs.Ytlfcgbhjmdmocaa
open Go.RowKit

/-- A flood's state in memory, the queue cut at its head k times. -/
structure FlQ (w wr : World) (B0 B1 B2 Ab : Nat) (mn : Int) (c : Nat → Nat × Nat) (n k : Nat) (v : Value) (S : Fl) : Prop where
  box : wr.heap[B0]? = some (.cells (warr mn c) 33 (0, 0))
  out : wr.heap[B1]? = some (.cells (cellsI S.out) 2 (0, 0))
  met : wr.heap[B2]? = some (.cells (cellsB S.met) 4 (0, 0))
  q : ∃ g off cap, v = .slice (some ⟨g, off, none⟩) (S.q.length - k) cap ∧ QP wr n g off cap (S.q.drop k) ∧ w.heap.size ≤ g ∧ g ≠ B0 ∧ g ≠ B1 ∧ g ≠ B2 ∧ g ≠ Ab
  below : Below w.heap.size w wr
theorem flT_parts (n a i : Nat) (h : flIn n a i = true) : ((flT n a i / n : Nat) : Int) = flV n a i ∧ ((flT n a i % n : Nat) : Int) = flU n a i := by
  have ht := (flT_lt n a i h).2
  unfold flIn at h
  rw [Bool.and_eq_true, inR_iff, inR_iff] at h
  generalize flV n a i = v at h ht ⊢
  generalize flU n a i = u at h ht ⊢
  generalize flT n a i = t at ht ⊢
  obtain ⟨⟨h1, h2⟩, h3, h4⟩ := h
  obtain ⟨v', rfl⟩ := Int.eq_ofNat_of_zero_le h1
  obtain ⟨u', rfl⟩ := Int.eq_ofNat_of_zero_le h3
  have e : t = n * v' + u' := by
    have : (t : Int) = ((n * v' + u' : Nat) : Int) := by rw [ht]; simp
    exact Int.ofNat.inj this
  subst e
  rw [Nat.mul_add_div (by omega), Nat.div_eq_of_lt (by omega), Nat.mul_add_mod, Nat.mod_eq_of_lt (by omega)]
  simp
theorem hsB_bd {zs : List Int} (h : ∀ c, -2200 ≤ zs.getD c 0 ∧ zs.getD c 0 ≤ 2200) : hsB zs = false := by
  unfold hsB
  rw [List.any_eq_false]
  intro z hz
  obtain ⟨c, hc, rfl⟩ := List.mem_iff_getElem.1 hz
  have := h c
  rw [List.getD_eq_getElem?_getD, List.getElem?_eq_getElem hc] at this
  simp only [Option.getD_some] at this
  simp [outR, inR]
  omega
theorem index_dirs (j : Nat) (h : j < 4) (W : World) : (Instr.index 60 (.agg #[.int .i64 0, .int .i64 1, .int .i64 1, .int .i64 0, .int .i64 0, .int .i64 (-1), .int .i64 (-1), .int .i64 0]) (.int .i64 (j : Int))).run Try.prog W =
    .ok (.agg #[.int .i64 (flDir j).1, .int .i64 (flDir j).2]) W := by
  rcases (by omega : j = 0 ∨ j = 1 ∨ j = 2 ∨ j = 3) with rfl | rfl | rfl | rfl <;> kernel_rfl

theorem slice_tail (g off L cap : Nat) (h : L + 1 ≤ cap) (W : World) : (Instr.slice 59 (.slice (some ⟨g, off, none⟩) (L + 1) cap) (some (.int .i64 1)) none none).run Try.prog W =
    .ok (.slice (some ⟨g, if cap = 1 then off else off + 2, none⟩) L (cap - 1)) W := by
  obtain ⟨i0, hi, hz0, hz1, hz2⟩ := info_parts info_pair
  have hb : (Instr.sliceBound (.int .i64 1) (L + 1) .sliceB).run Try.prog W = .ok 1 W := by
    have := run_sliceBound (P := Try.prog) W .i64 1 (L + 1) .sliceB (by omega) (by omega)
    simpa using this
  have hs : ∀ W, (sizeOf 58).run Try.prog W = .ok 2 W := fun W => by simp [sizeOf, typeInfo, hi, hz1]
  simp only [Instr.slice, Instr.sliceBounds, Sem.run_bind, run_underlying Try.underlying59, Result.andThen_ok, Sem.run_pure, Option.isSome_none, Bool.false_eq_true, if_false, hb, hs]
  by_cases hc : cap = 1
  · subst hc; simp
  · simp [hc, Addr.add]

set_option maxRecDepth 100000 in
set_option maxHeartbeats 1500000 in
theorem unwrapFlood_yes (n : Int) (b off cap : Nat) (zs : List Int) (mn : Int) (c : Nat → Nat × Nat) (y x : Int) (w : World) (hi : IntsIn w b off zs) (hl : zs.length ≤ 1000000) (hcode : flCode n zs mn c y x = 0) :
    Calls Try.prog 13 #[.int .i64 n, .slice (some ⟨b, off, none⟩) zs.length cap, .agg (warr mn c), .int .i64 y, .int .i64 x] w (ResI w (flOut n.toNat zs (fun i => !zC (c i)) (flAt n y x)) 0) := by
  obtain ⟨hw0, hmk, rfl, ⟨y0, y1⟩, ⟨x0, x1⟩, hz⟩ := flCode_none hcode
  have hbox := heap_alloc_new w (.cells (warr mn c) 33)
  have hb0 : Below w.heap.size w (w.alloc (.cells (warr mn c) 33)) := (Below.refl _ _).alloc (Nat.le_refl _) _
  obtain ⟨k1, k2, k3⟩ := cells_of hbox
  have s0 := (k1 0).trans (warr_zero mn c)
  have hcl := fun k h => (k1 (1 + k)).trans (warr_cell mn c k h)
  have Hcl := Lib.hid hcl
  have Hbox := Lib.hid hbox
  have hi0 : IntsIn (w.alloc (.cells (warr mn c) 33)) b off zs := hi.same (S := fun _ => False) ((Same.refl _ _).alloc _) (fun f => f)
  have HW := wrappedCode_any mn b off cap zs _ hi0 hl
  rw [hw0] at HW
  have HM := fun W => isMask_any mn c W
  rw [hmk] at HM
  have HM := Lib.hid HM
  have hms := mask_side hmk
  have hn1 : 1 ≤ mn ∧ mn ≤ 8 := by rcases sideB_iff.1 hms with h | h | h | h <;> rw [h] <;> omega
  have w1 : IntKind.i64.wrap (mn - 1) = mn - 1 := IntWalk.i64_in _ (by omega)
  have e3 : (mn != mn) = false := by simp
  have Hy := Lib.hid (fun W => (within_any y 0 (mn - 1) W))
  rw [inR_iff.2 ⟨y0, y1⟩] at Hy
  have Hx := Lib.hid (fun W => (within_any x 0 (mn - 1) W))
  rw [inR_iff.2 ⟨x0, x1⟩] at Hx
  obtain ⟨-, hlen, hzs⟩ := wcode_zero hw0
  clear hbox k1 k2 k3 hcl hms hmk hw0
  obtain ⟨m, rfl⟩ : ∃ m : Nat, mn = (m : Int) := ⟨mn.toNat, by omega⟩
  obtain ⟨yn, rfl⟩ : ∃ m : Nat, y = (m : Int) := ⟨y.toNat, by omega⟩
  obtain ⟨xn, rfl⟩ : ∃ m : Nat, x = (m : Int) := ⟨x.toNat, by omega⟩
  have hmm : m * m ≤ 64 := (by have := Nat.mul_le_mul (show m ≤ 8 by omega) (show m ≤ 8 by omega); omega)
  have hlen' : zs.length = m * m := by have : ((m * m : Nat) : Int) = (m : Int) * m := by simp
                                       omega
  have hk : m * yn + xn < m * m := by
    have h5 : yn + 1 ≤ m := by omega
    have h6 := Nat.mul_le_mul_left m h5
    rw [Nat.mul_add] at h6
    omega
  have hca := Hcl.out (m * yn + xn) (by omega)
  have hfl : flAt (m : Int) yn xn = m * yn + xn := by unfold flAt; rw [show (m : Int) * yn + xn = ((m * yn + xn : Nat) : Int) by simp, Int.toNat_natCast]
  rw [hfl] at hz ⊢
  have hmul : (m : Int) * yn = ((m * yn : Nat) : Int) := by simp
  have hmul2 : (m : Int) * m = ((m * m : Nat) : Int) := by simp
  have Hok := Lib.hid (flOk_all m zs (fun i => !zC (c i)) (m * yn + xn) hk hzs)
  have hdv : (m * yn + xn) / m = yn := by rw [Nat.mul_add_div (by omega), Nat.div_eq_of_lt (by omega)]; simp
  have hmd : (m * yn + xn) % m = xn := by rw [Nat.mul_add_mod, Nat.mod_eq_of_lt (by omega)]
  generalize m * yn = p at hk hca hz hmul Hok hdv hmd ⊢
  have Hdv := Lib.hid hdv
  have Hmd := Lib.hid hmd
  clear hdv hmd
  simp only [cx] at hca
  have Hca := Lib.hid hca
  have Hz := Lib.hid hz
  have Hzs := Lib.hid hzs
  have Hlen := Lib.hid hlen'
  simp only [zC, zF] at hz
  obtain ⟨N, hN⟩ : ∃ N, m * m = N := ⟨_, rfl⟩
  rw [hN] at hmul2 hmm hk
  have HN := Lib.hid hN
  have hmk1 := make_ints N hmm
  have hmk2 := make_bools N hmm
  clear hN
  clear hca hcode hfl hzs hlen hlen'
  go_enter Try.func13, Try.ntmps13
  go_wp2_with (first
    | (go_at_call 26; refine HW.mono ?_; rintro e w' ⟨rfl, rfl⟩)
    | (refine wpList_load_wave_g rfl (.tmp 7) (by with_reducible rfl) _ rfl _ _ _ _ Hbox.out ?_)
    | (go_at_call 36; refine (HM.out _).mono ?_; rintro e w1 ⟨rfl, hb1⟩; have s1 := (hb1.cell (p := ⟨w.heap.size, 0, none⟩) (by simp)).trans s0; have ca := (hb1.cell (p := ⟨w.heap.size, 1 + (p + xn), none⟩) (by simp)).trans Hca.out)
    | (go_at_call_of 37 (Value.int IntKind.i64 (yn : Int)); refine (Hy.out _).mono ?_; rintro e w2 ⟨rfl, rfl⟩)
    | (go_at_call_of 37 (Value.int IntKind.i64 (xn : Int)); refine (Hx.out _).mono ?_; rintro e w2 ⟨rfl, rfl⟩))
  go_cut [13, 14] (fun a b wx => ∃ B1 B2, a = .slice (some ⟨B1, 0, none⟩) N N ∧ b = .slice (some ⟨B2, 0, none⟩) N N ∧
    wx.heap[B1]? = some (.cells (cellsI (List.replicate N 0)) 2 (0, 0)) ∧ wx.heap[B2]? = some (.cells (cellsB (List.replicate N false)) 4 (0, 0)) ∧
    B1 ≠ B2 ∧ w1.heap.size ≤ B1 ∧ w1.heap.size ≤ B2 ∧ Below w1.heap.size w1 wx)
  case first =>
    go_region
    all_goals
      go_wp2_with fail
      go_meet
      exact ⟨_, _, rfl, rfl, by first | exact heap_alloc2_old w1.drew _ _ | exact heap_alloc2_new w1.drew _ _, by first | exact heap_alloc2_old w1.drew _ _ | exact heap_alloc2_new w1.drew _ _,
        by omega, by omega, by omega, (((Below.refl _ _).drew.alloc (by exact Nat.le_refl _) _).alloc (by simp) _)⟩
  case rest =>
    obtain ⟨B1, B2, rfl, rfl, hB1, hB2, n1, l1, l2, hbx⟩ := hcut
    have hbl : Below w.heap.size w wc := (hb0.trans (hb1.mono hb0.size)).trans (hbx.mono (by have := hb0.size; have := hb1.size; omega))
    have hw1 : w.heap.size < w1.heap.size := by have := hb1.size; simp at this; omega
    have hboxc : wc.heap[w.heap.size]? = some (.cells (warr (m : Int) c) 33 (0, 0)) := (hbx.block _ hw1).trans ((hb1.block _ (by simp)).trans Hbox.out)
    have hic : IntsIn wc b off zs := hi.below hbl hi.lt
    have hzk := hic.cell (p + xn) (by rw [Hlen.out, HN.out]; exact hk)
    obtain ⟨q1, q2, q3⟩ := cells_of hB1
    have o1 := (q1 (p + xn)).trans (cellsI_at _ _ (by simpa using hk))
    have of1 := q2 (p + xn)
    obtain ⟨r1, r2, r3⟩ := cells_of hB2
    have m1 := (r1 (p + xn)).trans (cellsB_at _ _ (by simpa using hk))
    have mf1 := r2 (p + xn)
    have i1 : (p : Int) + xn < N := by omega
    have i2 : (p : Int) + xn < zs.length := by have := Hlen.out; have := HN.out; omega
    have ne12 : B1 ≠ B2 := n1
    have bz := getD_bd Hzs.out (p + xn)
    generalize hzv : zs.getD (p + xn) 0 = zv at hzk bz
    generalize (List.replicate N (0 : Int)).getD (p + xn) 0 = ov at o1
    generalize (List.replicate N false).getD (p + xn) false = mv at m1
    have hne : ¬ B2 = b ∧ ¬ B1 = b := by have := hi.lt; omega
    have HB1 := Lib.hid hB1
    have HB2 := Lib.hid hB2
    have Hboxc := Lib.hid hboxc
    have Hic := Lib.hid hic
    clear hB1 hB2 hboxc hic q1 q2 r1 r2 hbx s1 ca hb1 Hcl hi0 HW s0 hmk1 hmk2
    go_wp2_with fail
    go_loopg [15] N (fun gk v wr => ∃ k : Nat, gk = N - k ∧ k ≤ (flN m zs (fun i => !zC (c i)) (p + xn) k).q.length ∧ FlQ w wr w.heap.size B1 B2 w.heap.size m c m k v (flN m zs (fun i => !zC (c i)) (p + xn) k))
    case atStart =>
      have hsm : Same (fun k => k = B2 ∨ k = B1) wc ((wc.setCell ⟨B1, p + xn, none⟩ (.int .i64 zv)).setCell ⟨B2, p + xn, none⟩ (.bool true)) :=
        ((Same.refl _ _).setCell (p := ⟨B1, p + xn, none⟩) (.inr (.inr rfl)) _).setCell (p := ⟨B2, p + xn, none⟩) (.inr (.inl rfl)) _
      have hsz : ((wc.setCell ⟨B1, p + xn, none⟩ (.int .i64 zv)).setCell ⟨B2, p + xn, none⟩ (.bool true)).heap.size = wc.heap.size := by simp
      have hbig : ∀ (W : World) (X : Obj), W.heap.size = wc.heap.size → (W.alloc X).heap[wc.heap.size]? = some X ∧ ∀ k, k < wc.heap.size → (W.alloc X).heap[k]? = W.heap[k]? := by
        intro W X h
        rw [← h]
        exact ⟨heap_alloc_new W X, fun k hk => heap_alloc_old _ _ hk⟩
      obtain ⟨t1, t3⟩ := hbig _ (Obj.cells #[Value.int IntKind.i64 (yn : Int), Value.int IntKind.i64 (xn : Int)] 58) hsz
      refine ⟨0, rfl, by omega, ⟨(t3 _ (by omega)).trans ((hsm.block _ (by omega) (by omega)).trans Hboxc.out), (t3 _ q3).trans ?_, (t3 _ r3).trans ?_, ⟨wc.heap.size, 0, 1, rfl, ⟨by simp [flN, flInit], _, t1, by simp, ?_⟩, by have := hbl.size; omega, by omega, by omega, by omega, by omega⟩, ?_⟩⟩
      · rw [heap_setCell_other _ _ _ _ (by simpa using n1), heap_setCell_same _ _ _ _ _ _ HB1.out, cellsI_set, ← HN.out, ← hzv]; rfl
      · rw [heap_setCell_same _ _ _ _ _ _ (by rw [heap_setCell_other _ _ _ _ (by simpa using fun h => n1 h.symm)]; exact HB2.out), cellsB_set, ← HN.out]; rfl
      · intro j u hu
        simp only [flN, flInit, List.drop_zero, flatP, pairOf, List.append_nil, Hdv.out, Hmd.out] at hu
        match j, hu with
        | 0, hu => simpa using hu
        | 1, hu => simpa using hu
      · exact (hbl.trans (hsm.below (by exact hbl.size) (fun k hk e => by omega))).alloc (by rw [hsz]; exact hbl.size) _
    case round =>
      obtain ⟨k, rfl, hk2, hM⟩ := hrel
      obtain ⟨wo, rfl⟩ : ∃ wo, wo = wr := ⟨_, rfl⟩
      have hOk := Hok.out k
      have hqN := hOk.qle
      rw [HN.out] at hqN
      have HSn := Lib.hid (show flN m zs (fun i => !zC (c i)) (p + xn) (k + 1) = if k < (flN m zs (fun i => !zC (c i)) (p + xn) k).q.length then flPart m zs (fun i => !zC (c i)) ((flN m zs (fun i => !zC (c i)) (p + xn) k).q.getD k 0) (flN m zs (fun i => !zC (c i)) (p + xn) k) 4 else flN m zs (fun i => !zC (c i)) (p + xn) k from rfl)
      have Hfin := Lib.hid (fun h => flOut_at m zs (fun i => !zC (c i)) (p + xn) (by have := HN.out; omega) Hzs.out k (by have := HN.out; omega) h)
      generalize flN m zs (fun i => !zC (c i)) (p + xn) k = S at hk2 hM hOk hqN HSn Hfin
      obtain ⟨hbo, hou, hme, ⟨g, off', cap2, rfl, hQ, e0, e1, e2, e3, -⟩, hbr⟩ := hM
      have HOk := Lib.hid hOk
      by_cases hlt : k < S.q.length
      · have ha : S.q.getD k 0 < N := by rw [← HN.out]; exact hOk.qlt _ (getD_memN _ _ hlt)
        have Ha := Lib.hid (getD_memN _ _ hlt)
        have hdr : S.q.drop k = S.q.getD k 0 :: S.q.drop (k + 1) := by
          rw [List.drop_eq_getElem_cons hlt, List.getD_eq_getElem?_getD, List.getElem?_eq_getElem hlt]; rfl
        have hlL : S.q.length - k = (S.q.drop (k + 1)).length + 1 := by simp; omega
        rw [hdr] at hQ
        rw [hlL]
        rw [if_pos hlt] at HSn
        generalize S.q.getD k 0 = a at ha HSn Ha hQ
        clear hdr
        have hd2 : decide ((0 : Int) < (S.q.drop (k + 1)).length + 1) = true := by simp
        obtain ⟨c0, c1⟩ := hQ.cells
        have hQt := hQ.tail
        have HQt := Lib.hid hQt
        have hqlt := hQ.lt
        have hle := hQ.le
        simp only [List.length_cons] at hle
        have hql : (S.q.drop (k + 1)).length ≤ N := by simp; omega
        have Hql := Lib.hid (rfl : (S.q.drop (k + 1)).length = (S.q.drop (k + 1)).length)
        generalize hLq : (S.q.drop (k + 1)).length = L at hd2 hle hql ⊢
        have hsl : ∀ W, (Instr.slice 59 (.slice (some ⟨g, off', none⟩) (L + 1) cap2) (some (.int .i64 1)) none none).run Try.prog W = .ok (.slice (some ⟨g, if cap2 = 1 then off' else off' + 2, none⟩) L (cap2 - 1)) W :=
          fun W => slice_tail g off' L cap2 hle W
        generalize (if cap2 = 1 then off' else off' + 2) = off2 at HQt hsl
        have hqr : (a : Int) = (m : Int) * ((a / m : Nat) : Int) + ((a % m : Nat) : Int) := by
          have := Nat.div_add_mod a m
          have h2 : ((m * (a / m) + a % m : Nat) : Int) = (a : Int) := by rw [this]
          simpa using h2.symm
        have hq2 : a / m ≤ 64 := Nat.le_trans (Nat.div_le_self _ _) (by omega)
        have hr2 : a % m < m := Nat.mod_lt _ (by omega)
        have HV := Lib.hid (show ∀ j, flV m a j = ((a / m : Nat) : Int) + (flDir j).1 from fun _ => rfl)
        have HU := Lib.hid (show ∀ j, flU m a j = ((a % m : Nat) : Int) + (flDir j).2 from fun _ => rfl)
        generalize a / m = qn at hqr hq2 HV c0
        generalize a % m = rn at hqr hr2 HU c1
        obtain ⟨P0, hP0⟩ : ∃ P0, (m : Int) * (qn : Int) = P0 := ⟨_, rfl⟩
        rw [hP0] at hqr
        have wP0 : IntKind.i64.wrap P0 = P0 := IntWalk.i64_in _ (by omega)
        have hPr : P0 + (rn : Int) = (a : Int) := hqr.symm
        have hoB : B1 < wo.heap.size ∧ B2 < wo.heap.size := ⟨lt_of_block hou, lt_of_block hme⟩
        have Hbo := Lib.hid hbo
        have Hou := Lib.hid hou
        have Hme := Lib.hid hme
        have Hbr := Lib.hid hbr
        have HQ := Lib.hid hQ
        clear hbo hou hme hQ hOk hQt hbr hqr
        have HLq := Lib.hid hLq
        go_wp2_with fail
        go_loopw [15, 121] (fun v i wr => ∃ j : Nat, j ≤ 4 ∧ i = .int .i64 j ∧ wr.heap[wo.heap.size]? = some (.cells #[.int .i64 (qn : Int), .int .i64 (rn : Int)] 58 (0, 0)) ∧ FlQ w wr w.heap.size B1 B2 wo.heap.size m c m (k + 1) v (flPart m zs (fun i => !zC (c i)) a S j))
          (fun _ i _ => 4 - (intOf i).toNat)
        case atStart =>
          refine ⟨0, by omega, rfl, heap_alloc_new _ _, ?_⟩
          have hsm : Same (fun _ => False) wo (wo.alloc (.cells #[.int .i64 (qn : Int), .int .i64 (rn : Int)] 58)) := (Same.refl _ _).alloc _
          exact ⟨(hsm.block _ (lt_of_block Hbo.out) (fun f => f)).trans Hbo.out, (hsm.block _ (lt_of_block Hou.out) (fun f => f)).trans Hou.out, (hsm.block _ (lt_of_block Hme.out) (fun f => f)).trans Hme.out,
            ⟨g, off2, cap2 - 1, by rw [← hLq]; simp [flPart], HQt.out.same hsm (fun f => f), e0, e1, e2, e3, by omega⟩, Hbr.out.trans (hsm.below (by exact Hbr.out.size) (fun _ _ f => f))⟩
        case round =>
          obtain ⟨j, hj, rfl, hat, hM⟩ := hrel
          clear c0 c1 hsl hd2
          have Hst := Lib.hid (show flPart m zs (fun i => !zC (c i)) a S (j + 1) = flStep m zs (fun i => !zC (c i)) a j (flPart m zs (fun i => !zC (c i)) a S j) from rfl)
          have HOk2 := Lib.hid (flOk_part m zs (fun i => !zC (c i)) a S HOk.out Ha.out j hj)
          obtain ⟨hbo, hou, hme, ⟨g2, off3, cap3, rfl, hO, e4, e0, e1, e2, e3⟩, hbr⟩ := hM
          by_cases hj4 : j < 4
          · have hd2 : decide ((j : Int) < 4) = true := by simp; omega
            have hj4' : (j : Int) < 4 := by omega
            have at0 := (cells_of hat).1 0
            have at1 := (cells_of hat).1 1
            simp at at0 at1
            have hidx := index_dirs j hj4
            obtain ⟨b1, b2, b3, b4⟩ := dir_bd j
            have hVd := HV.out j
            have hUd := HU.out j
            have hqn64 : (qn : Int) ≤ 64 := by omega
            have hrn8 : (rn : Int) < m := by omega
            generalize (flDir j).1 = dv at hidx b1 b2 hVd
            generalize (flDir j).2 = du at hidx b3 b4 hUd
            have wv : IntKind.i64.wrap ((qn : Int) + dv) = flV m a j := by rw [hVd]; exact IntWalk.i64_in _ (by omega)
            have wu : IntKind.i64.wrap ((rn : Int) + du) = flU m a j := by rw [hUd]; exact IntWalk.i64_in _ (by omega)
            have bV : -1 ≤ flV m a j ∧ flV m a j ≤ 65 := by omega
            have bU : -1 ≤ flU m a j ∧ flU m a j ≤ 65 := by omega
            have Hin := Lib.hid (show flIn m a j = (inR (flV m a j) 0 ((m : Int) - 1) && inR (flU m a j) 0 ((m : Int) - 1)) from rfl)
            have HT := Lib.hid (flT_lt m a j)
            have Hcv := Lib.hid (fun W => within_any (flV m a j) 0 ((m : Int) - 1) W)
            have Hcu := Lib.hid (fun W => within_any (flU m a j) 0 ((m : Int) - 1) W)
            have Hpts := Lib.hid (flT_parts m a j)
            generalize flV m a j = V at wv bV Hin HT Hcv hVd Hpts
            generalize flU m a j = U at wu bU Hin HT Hcu hUd Hpts
            have Hbo := Lib.hid hbo
            have Hou := Lib.hid hou
            have Hme := Lib.hid hme
            have Hat := Lib.hid hat
            have hadY : wo.heap.size < wr.heap.size := lt_of_block hat
            have hltB1 : B1 < wr.heap.size := lt_of_block hou
            have hltB2 : B2 < wr.heap.size := lt_of_block hme
            have hltB0 : w.heap.size < wr.heap.size := lt_of_block hbo
            have hltb : b < wr.heap.size := Nat.lt_of_lt_of_le hi.lt hbr.size
            have HO := Lib.hid hO
            have Hbr := Lib.hid hbr
            have hcont : flStep m zs (fun i => !zC (c i)) a j (flPart m zs (fun i => !zC (c i)) a S j) = flPart m zs (fun i => !zC (c i)) a S j → ∀ wq, Same (fun _ => False) wr wq → wq.heap[wo.heap.size]? = some (.cells #[.int .i64 (qn : Int), .int .i64 (rn : Int)] 58 (0, 0)) ∧ FlQ w wq w.heap.size B1 B2 wo.heap.size m c m (k + 1) (.slice (some ⟨g2, off3, none⟩) ((flPart m zs (fun i => !zC (c i)) a S j).q.length - (k + 1)) cap3) (flPart m zs (fun i => !zC (c i)) a S (j + 1)) := by
              intro h wq hs
              rw [Hst.out, h]
              exact ⟨(hs.block _ (lt_of_block hat) (fun f => f)).trans hat, (hs.block _ (lt_of_block hbo) (fun f => f)).trans hbo, (hs.block _ (lt_of_block hou) (fun f => f)).trans hou, (hs.block _ (lt_of_block hme) (fun f => f)).trans hme, ⟨g2, off3, cap3, rfl, hO.same hs (fun f => f), e4, e0, e1, e2, e3⟩, hbr.trans (hs.below (by exact hbr.size) (fun _ _ f => f))⟩
            have Hcont := Lib.hid hcont
            clear hbo hou hme hat hO hbr hVd hUd b1 b2 b3 b4 hcont
            cases hbv : inR V 0 ((m : Int) - 1) with
            | false =>
              rw [hbv] at Hcv Hin
              have Hbv := Lib.hid hbv
              clear hbv
              go_wp2_with fail
              go_region
              all_goals
                go_wp2_with (first | (go_at_call_of 37 (Value.int IntKind.i64 V); refine (Hcv.out _).mono ?_; rintro e w2 ⟨rfl, rfl⟩))
                exact ⟨⟨j + 1, hj4, by simp, Hcont.out (by unfold flStep; rw [Hin.out]; rfl) _ ((Same.refl _ _).alloc _).drew⟩, by simp [intOf]; omega⟩
            | true =>
              rw [hbv] at Hcv Hin
              have hb1 := inR_iff.1 hbv
              cases hbu : inR U 0 ((m : Int) - 1) with
              | false =>
                rw [hbu] at Hcu Hin
                have Hbv := Lib.hid hbv
                have Hbu := Lib.hid hbu
                clear hbv hbu
                go_wp2_with fail
                go_region
                all_goals
                  go_wp2_with (first | (go_at_call_of 37 (Value.int IntKind.i64 V); refine (Hcv.out _).mono ?_; rintro e w2 ⟨rfl, rfl⟩) | (go_at_call_of 37 (Value.int IntKind.i64 U); refine (Hcu.out _).mono ?_; rintro e w2 ⟨rfl, rfl⟩))
                  exact ⟨⟨j + 1, hj4, by simp, Hcont.out (by unfold flStep; rw [Hin.out]; rfl) _ ((Same.refl _ _).alloc _).drew⟩, by simp [intOf]; omega⟩
              | true =>
                rw [hbu] at Hcu Hin
                have hb2 := inR_iff.1 hbu
                have Hbv := Lib.hid hbv
                have Hbu := Lib.hid hbu
                clear hbv hbu
                obtain ⟨ht1, ht2⟩ := HT.out (by rw [Hin.out]; rfl)
                obtain ⟨pv, pu⟩ := Hpts.out (by rw [Hin.out]; rfl)
                have hstep : ∀ S2 : Fl, flStep m zs (fun i => !zC (c i)) a j S2 = if (S2.met.getD (flT m a j) false || zC (c (flT m a j))) = true then S2 else flPush zs a (flT m a j) S2 := by
                  intro S2
                  unfold flStep
                  rw [Hin.out]
                  simp
                have Hstep := Lib.hid hstep
                clear hstep
                generalize flT m a j = t at ht1 ht2 Hstep pv pu
                have Hpv := Lib.hid pv
                have Hpu2 := Lib.hid pu
                clear pv pu
                obtain ⟨r, hr⟩ := flPart_q m zs (fun i => !zC (c i)) a S j
                have hkl : k + 1 ≤ (flPart m zs (fun i => !zC (c i)) a S j).q.length := by rw [hr]; simp; omega
                clear hr
                generalize flPart m zs (fun i => !zC (c i)) a S j = S2 at HOk2 Hst Hcont Hou Hme HO hkl ⊢
                obtain ⟨P, hP⟩ : ∃ P, (m : Int) * V = P := ⟨_, rfl⟩
                rw [hP] at ht2
                rw [HN.out] at ht1
                have wP : IntKind.i64.wrap P = P := IntWalk.i64_in _ (by omega)
                have wT : IntKind.i64.wrap (P + U) = (t : Int) := by rw [ht2]; exact IntWalk.i64_in _ (by omega)
                have wt : IntKind.i64.wrap (t : Int) = t := IntWalk.i64_in _ (by omega)
                have hPU : P + U = (t : Int) := ht2.symm
                clear ht2
                have htN : (t : Int) < N := by omega
                have ht64 : (t : Int) < 64 := by omega
                have mc := ((cells_of Hme.out).1 t).trans (cellsB_at _ _ (by rw [HOk2.out.metL, HN.out]; exact ht1))
                have mf := (cells_of Hme.out).2.1 t
                have wc1 := ((cells_of Hbo.out).1 (1 + t)).trans (warr_cell _ _ t (by omega))
                simp only [cx] at wc1
                cases hmt : S2.met.getD t false with
                | true =>
                  rw [hmt] at mc
                  have Hmt := Lib.hid hmt
                  clear hmt
                  go_wp2_with fail
                  go_region
                  all_goals
                    go_wp2_with (first | (go_at_call_of 37 (Value.int IntKind.i64 V); refine (Hcv.out _).mono ?_; rintro e w2 ⟨rfl, rfl⟩) | (go_at_call_of 37 (Value.int IntKind.i64 U); refine (Hcu.out _).mono ?_; rintro e w2 ⟨rfl, rfl⟩))
                    exact ⟨⟨j + 1, hj4, by simp, Hcont.out (by rw [Hstep.out, Hmt.out]; simp) _ ((Same.refl _ _).alloc _).drew⟩, by simp [intOf]; omega⟩
                | false =>
                  rw [hmt] at mc
                  have Hmt := Lib.hid hmt
                  clear hmt
                  cases hzt : zC (c t) with
                  | true =>
                    have Hzt := Lib.hid hzt
                    simp only [zC, zF, Bool.and_eq_true] at hzt
                    obtain ⟨z1, z2⟩ := hzt
                    go_wp2_with fail
                    go_region
                    all_goals
                      go_wp2_with (first | (go_at_call_of 37 (Value.int IntKind.i64 V); refine (Hcv.out _).mono ?_; rintro e w2 ⟨rfl, rfl⟩) | (go_at_call_of 37 (Value.int IntKind.i64 U); refine (Hcu.out _).mono ?_; rintro e w2 ⟨rfl, rfl⟩))
                      exact ⟨⟨j + 1, hj4, by simp, Hcont.out (by rw [Hstep.out, Hzt.out]; simp) _ ((Same.refl _ _).alloc _).drew⟩, by simp [intOf]; omega⟩
                  | false =>
                    have Hzt := Lib.hid hzt
                    simp only [zC, zF] at hzt
                    have haN : (a : Int) < N := by omega
                    have hza : (a : Int) < zs.length := by have := Hlen.out; have := HN.out; omega
                    have hzt2 : (t : Int) < zs.length := by have := Hlen.out; have := HN.out; omega
                    have hiw := hi.below Hbr.out hi.lt
                    have ca := hiw.cell a (by omega)
                    have ct := hiw.cell t (by omega)
                    have oa := ((cells_of Hou.out).1 a).trans (cellsI_at _ _ (by rw [HOk2.out.outL, HN.out]; omega))
                    have ot := ((cells_of Hou.out).1 t).trans (cellsI_at _ _ (by rw [HOk2.out.outL, HN.out]; omega))
                    have otf := (cells_of Hou.out).2.1 t
                    have bda := HOk2.out.bd a
                    have bdl := HOk2.out.qle
                    rw [HN.out] at bdl
                    have bza := getD_bd Hzs.out a
                    have bzt := getD_bd Hzs.out t
                    have bl := lessH_bd (zs.getD a 0) (zs.getD t 0)
                    have Hpu := Lib.hid (show flPush zs a t S2 = ⟨S2.out.set t (S2.out.getD a 0 + lessH (zs.getD a 0) (zs.getD t 0)), S2.met.set t true, S2.q ++ [t]⟩ from rfl)
                    generalize zs.getD a 0 = za at ca bza bl Hpu
                    generalize zs.getD t 0 = zt at ct bzt bl Hpu
                    generalize S2.out.getD a 0 = xa at oa bda Hpu
                    generalize S2.out.getD t 0 = xt at ot
                    have hcall := fun W => (step_any za zt W (by omega) (by omega) (by omega) (by omega)).mono fun e w' h => And.intro h.1 h.2.symm
                    generalize lessH za zt = ll at bl Hpu hcall
                    have wx : IntKind.i64.wrap (xa + ll) = xa + ll := IntWalk.i64_in _ (by omega)
                    have hcall := Lib.hid hcall
                    clear hiw
                    go_wp2_with fail
                    go_region
                    all_goals
                      go_wp2_with (first | (go_at_call_of 37 (Value.int IntKind.i64 V); refine (Hcv.out _).mono ?_; rintro e w2 ⟨rfl, rfl⟩) | (go_at_call_of 37 (Value.int IntKind.i64 U); refine (Hcu.out _).mono ?_; rintro e w2 ⟨rfl, rfl⟩))
                      obtain ⟨wy, hwy⟩ : ∃ wy, ((wr.setCell ⟨B2, t, none⟩ (.bool true)).alloc (.cells #[.int .i64 dv, .int .i64 du] 58)).drew = wy := ⟨_, rfl⟩
                      have hsy : Same (fun k => k = B2 ∨ k = B1) wr wy := by rw [← hwy]; exact (((Same.refl _ _).setCell (p := ⟨B2, t, none⟩) (.inr (.inl rfl)) _).alloc _).drew
                      have hsy0 : Same (fun k => k = B2) wr wy := by rw [← hwy]; exact (((Same.refl (fun k => k = B2) _).setCell (p := ⟨B2, t, none⟩) (.inr rfl) _).alloc _).drew
                      have hmy : wy.heap[B2]? = some (.cells (cellsB (S2.met.set t true)) 4 (0, 0)) := by
                        rw [← hwy]
                        show (World.alloc _ _).heap[_]? = _
                        rw [heap_alloc_old _ _ (by simpa using hltB2), heap_setCell_same _ _ _ _ _ _ Hme.out, cellsB_set]
                      have Hmy := Lib.hid hmy
                      have Hsy := Lib.hid hsy
                      have hlt1 := lt_of_block Hou.out
                      have hbw : b < wr.heap.size := Nat.lt_of_lt_of_le hi.lt Hbr.out.size
                      have ya := (hsy.cell (p := ⟨b, off + a, none⟩) hbw (fun e => e.elim (fun e => hne.1 e.symm) (fun e => hne.2 e.symm))).trans ca
                      have yt := (hsy.cell (p := ⟨b, off + t, none⟩) hbw (fun e => e.elim (fun e => hne.1 e.symm) (fun e => hne.2 e.symm))).trans ct
                      have za1 := (hsy0.cell (p := ⟨B1, a, none⟩) hlt1 n1).trans oa
                      have zt1 := (hsy0.cell (p := ⟨B1, t, none⟩) hlt1 n1).trans ot
                      have zf1 := (hsy0.frozen (p := ⟨B1, t, none⟩) hlt1 n1).trans otf
                      rw [hwy]
                      have hQw := Lib.hid (show ∀ W, Same (fun k => k = B2 ∨ k = B1) wr W → QP W m g2 off3 cap3 (S2.q.drop (k + 1)) from fun W h => HO.out.same h (by omega))
                      have hqll : (S2.q.drop (k + 1)).length ≤ 1000000 := by simp; omega
                      have hbs := Hbr.out.size
                      have hys := hsy.size
                      have hou1 : wy.heap[B1]? = some (.cells (cellsI S2.out) 2 (0, 0)) := (hsy0.block _ hlt1 n1).trans Hou.out
                      have Hou1 := Lib.hid hou1
                      clear ca ct oa ot otf hwy hmy hsy hsy0 mc mf wc1 hou1
                      go_still_tail 17, (by kernel_rfl)
                      still_call (hcall.out _)
                      repeat still_step
                      refine wpStill_nil ?_
                      change wpList _ _ _ _ _ wy.drew
                      go_wp2_with (at_builtin; refine wpList_pushP rfl (.tmp 182) (.tmp 186) rfl m g2 off3 cap3 (S2.q.drop (k + 1)) t (S2.q.length - (k + 1)) (by simp) rfl (hQw.out _ (by first | exact ((Hsy.out.setCell (p := ⟨B1, t, none⟩) (.inr (.inr rfl)) _).alloc _).drew | exact ((Hsy.out.setCell (p := ⟨B1, t, none⟩) (.inr (.inr rfl)) _).drew).alloc _ | exact ((Hsy.out.drew).setCell (p := ⟨B1, t, none⟩) (.inr (.inr rfl)) _).alloc _)) _ 1 rfl (by rw [Hpv.out]; first | exact World.cell?_alloc_at _ _ _ _ (by simp) | (rw [World.cell?_drew]; exact World.cell?_alloc_at _ _ _ _ (by simp))) (by rw [Hpu2.out]; first | exact World.cell?_alloc_at _ _ _ _ (by simp) | (rw [World.cell?_drew]; exact World.cell?_alloc_at _ _ _ _ (by simp))) hqll ?_)
                      intro g' off4 cap' w' hq' hgg hsm'
                      have Hq' := Lib.hid hq'
                      have Hsm' := Lib.hid hsm'
                      have Hgg := Lib.hid hgg
                      clear hq' hsm' hgg
                      go_wp2_with fail
                      have hyB : B1 < wy.heap.size ∧ B2 < wy.heap.size ∧ w.heap.size < wy.heap.size ∧ wo.heap.size < wy.heap.size := by
                        have := lt_of_block Hmy.out; have := lt_of_block Hou1.out; have := Hsy.out.size; omega
                      have hW : ∀ k, k < wy.heap.size → k ≠ g2 → w'.heap[k]? = (wy.setCell ⟨B1, t, none⟩ (.int .i64 (xa + ll))).heap[k]? := fun k hk hne' =>
                        (Hsm'.out.block k (by simp; omega) hne').trans (heap_alloc_old _ _ (by simpa using hk))
                      have hWo : ∀ k, k < wr.heap.size → k ≠ g2 → k ≠ B1 → k ≠ B2 → w'.heap[k]? = wr.heap[k]? := fun k hk h1 h2 h3 =>
                        (hW k (by have := Hsy.out.size; omega) h1).trans ((heap_setCell_other _ _ _ _ (by simpa using h2)).trans (Hsy.out.block k hk (by omega)))
                      have hg' : g' = g2 ∨ wy.heap.size ≤ g' := by
                        rcases Hgg.out with h | h
                        · exact .inl h
                        · right; first | omega | (simp at h; omega)
                      refine ⟨⟨j + 1, hj4, by simp, (hWo _ hadY e3.symm (by omega) (by omega)).trans Hat.out, ?_⟩, by simp [intOf]; omega⟩
                      rw [Hst.out, Hstep.out, if_neg (by rw [Hmt.out, Hzt.out]; simp), Hpu.out]
                      refine ⟨(hWo _ hltB0 e0.symm (by omega) (by omega)).trans Hbo.out, (hW _ hyB.1 e1.symm).trans (by rw [heap_setCell_same _ _ _ _ _ _ Hou1.out, cellsI_set]),
                        (hW _ hyB.2.1 e2.symm).trans ((heap_setCell_other _ _ _ _ (by simpa using n1.symm)).trans Hmy.out),
                        ⟨g', off4, cap', by simp; omega, by rw [List.drop_append_of_le_length hkl]; exact Hq'.out, by omega, by omega, by omega, by omega, by omega⟩, ?_⟩
                      exact ⟨Hsm'.out.os.trans (Hsy.out.os.trans Hbr.out.os), Hsm'.out.tape.trans (Hsy.out.tape.trans Hbr.out.tape), Hsm'.out.output.trans (Hsy.out.output.trans Hbr.out.output), by have := Hsm'.out.size; simp at this; omega,
                        fun k hk => (hWo k (by omega) (by omega) (by omega) (by omega)).trans (Hbr.out.block k hk)⟩
          · obtain rfl : j = 4 := by omega
            have hd2 : decide ((4 : Int) < 4) = false := by simp
            have HM4 := Lib.hid (show FlQ w wr w.heap.size B1 B2 w.heap.size m c m (k + 1) (.slice (some ⟨g2, off3, none⟩) ((flPart m zs (fun i => !zC (c i)) a S 4).q.length - (k + 1)) cap3) (flPart m zs (fun i => !zC (c i)) a S 4) from ⟨hbo, hou, hme, ⟨g2, off3, cap3, rfl, hO, e4, e0, e1, e2, e0⟩, hbr⟩)
            clear hbo hou hme hO hbr hat
            go_wp2_with fail
            obtain ⟨r, hr⟩ := flPart_q m zs (fun i => !zC (c i)) a S 4
            go_roundg (N - (k + 1))
            case measure => omega
            case rel =>
              refine ⟨k + 1, rfl, ?_, ?_⟩
              · rw [HSn.out, hr]; simp; omega
              · rw [HSn.out]; exact HM4.out
      · have hdr : S.q.drop k = [] := by rw [List.drop_eq_nil_iff]; omega
        have hz0 : S.q.length - k = 0 := by omega
        rw [hz0]
        have Hou := Lib.hid hou
        have Hbr := Lib.hid hbr
        clear hbo hou hme hQ hOk hbr hdr
        have hfin := Hfin.out (by omega)
        have hL : (flOut m zs (fun i => !zC (c i)) (p + xn)).length = N := by rw [← hfin, HOk.out.outL, HN.out]
        rw [hfin] at Hou
        have hhs : hsB (flOut m zs (fun i => !zC (c i)) (p + xn)) = false := by
          have hb3 := (Hok.out (m * m)).bd
          have hb4 := (Hok.out (m * m)).qle
          rw [HN.out] at hb4
          refine hsB_bd fun c' => ?_
          have := hb3 c'
          have e : (flN m zs (fun i => !zC (c i)) (p + xn) (m * m)).out = flOut m zs (fun i => !zC (c i)) (p + xn) := rfl
          rw [e] at this
          rw [HN.out] at this
          omega
        have HA := fun W h => areHeights_no B1 0 N (flOut m zs (fun i => !zC (c i)) (p + xn)) W h (by omega) hhs
        rw [hL] at HA
        have HA := Lib.hid HA
        clear hhs
        go_wp2_with (first | (go_at_call 29; refine (HA.out _ (cellsI_in Hou.out)).mono ?_; rintro e w3 ⟨rfl, rfl⟩))
        go_ret2
        exact ⟨_, rfl, .inr ⟨B1, N, by simp only [Int.toNat_natCast]; rw [hL]; rfl, by omega, by simpa using cellsI_in Hou.out⟩, Hbr.out⟩

/-- Both, in one form. -/
theorem unwrapFlood_any (n : Int) (b off cap : Nat) (zs : List Int) (mn : Int) (c : Nat → Nat × Nat) (y x : Int) (w : World) (hi : IntsIn w b off zs) (hl : zs.length ≤ 1000000) :
    Calls Try.prog 13 #[.int .i64 n, .slice (some ⟨b, off, none⟩) zs.length cap, .agg (warr mn c), .int .i64 y, .int .i64 x] w (ResI w (flRes n zs mn c y x) (flCode n zs mn c y x)) := by
  by_cases h : flCode n zs mn c y x = 0
  · have := unwrapFlood_yes n b off cap zs mn c y x w hi hl h
    simpa [flRes, h] using this
  · have := unwrapFlood_no n b off cap zs mn c y x w hi hl h
    simpa [flRes, h] using this
end Go.Proofs.Ytlfcgbhjmdmocaa
