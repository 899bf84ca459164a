/- spec.UnwrapFlood: the flood itself. -/
import Derived.Test.YtlfcgbhjmdmocaaFloodS
import Derived.Deep.DeepCutAuto
import Derived.Deep.AppendLies
namespace Go.Proofs.Ytlfcgbhjmdmocaa
open Go.RowKit

def cellsI (zs : List Int) : Array Value := (zs.map (Value.int .i64)).toArray
def cellsB (zs : List Bool) : Array Value := (zs.map Value.bool).toArray
theorem cellsI_size (zs : List Int) : (cellsI zs).size = zs.length := by simp [cellsI]
theorem cellsB_size (zs : List Bool) : (cellsB zs).size = zs.length := by simp [cellsB]
theorem cellsI_at (zs : List Int) (j : Nat) (h : j < zs.length) : (cellsI zs)[j]? = some (.int .i64 (zs.getD j 0)) := by
  simp [cellsI, h, List.getD_eq_getElem?_getD]
theorem cellsB_at (zs : List Bool) (j : Nat) (h : j < zs.length) : (cellsB zs)[j]? = some (.bool (zs.getD j false)) := by
  simp [cellsB, h, List.getD_eq_getElem?_getD]
theorem cellsI_in {w : World} {g : Nat} {zs : List Int} {t : TypeId} (h : w.heap[g]? = some (.cells (cellsI zs) t (0, 0))) : IntsIn w g 0 zs :=
  ⟨lt_of_block h, fun j hj => by rw [(cells_of h).1, Nat.zero_add, cellsI_at _ _ hj]⟩
theorem cellsI_set (zs : List Int) (j : Nat) (x : Int) : (cellsI zs).setIfInBounds j (.int .i64 x) = cellsI (zs.set j x) := by
  simp [cellsI, List.map_set]
theorem cellsB_set (zs : List Bool) (j : Nat) (x : Bool) : (cellsB zs).setIfInBounds j (.bool x) = cellsB (zs.set j x) := by
  simp [cellsB, List.map_set]

theorem heap3 (w : World) (X Y Z : Obj) : (((w.alloc X).alloc Y).alloc Z).heap[w.heap.size]? = some X ∧ (((w.alloc X).alloc Y).alloc Z).heap[w.heap.size + 1]? = some Y ∧ (((w.alloc X).alloc Y).alloc Z).heap[w.heap.size + 1 + 1]? = some Z := by
  refine ⟨?_, ?_, ?_⟩
  · rw [heap_alloc_old _ _ (by simp; omega), heap_alloc2_old]
  · rw [heap_alloc_old _ _ (by simp), heap_alloc2_new]
  · have := heap_alloc_new ((w.alloc X).alloc Y) Z
    simpa using this
theorem below3 (w : World) (X Y Z : Obj) : Below w.heap.size w (((w.alloc X).alloc Y).alloc Z) :=
  (((Below.refl _ _).alloc (Nat.le_refl _) _).alloc (by simp) _).alloc (by simp; omega) _

/-- 'append(s, z)' of one number onto a slice of the call's own, and where the outcome lies. -/
theorem wpList_push_g {w : World} {ops : Array Oper} {rest : List Oper} {o : Oper} {a : Act} {Q : Exit → Act → World → Prop} (hgd : o.guard = none) (s x : Operand)
    (ho : o.op = .call { callee := .builtin .append, args := #[s, x], argTypes := #[24, 24] })
    (base : Nat) (v : Value) (zs : List Int) (z : Int) (g c : Nat) (hs : a.eval s = v) (hown : OwnI w base v zs) (hx : a.eval x = .slice (some ⟨g, 0, none⟩) 1 c)
    (hc : w.cell? ⟨g, 0, none⟩ = some (.int .i64 z)) (hlen : zs.length ≤ 1000000) (hbase : base ≤ w.heap.size)
    (h : ∀ g' cap' w', OwnI w' base (.slice (some ⟨g', 0, none⟩) (zs.length + 1) cap') (zs ++ [z]) → w.grownBy w' v.ownBlock → (v.ownBlock = some g' ∨ g' = w.heap.size) → wpList Try.prog ops Q rest (a.put o.dst (.slice (some ⟨g', 0, none⟩) (zs.length + 1) cap')) w') : wpList Try.prog ops Q (o :: rest) a w := by
  obtain ⟨i0, hi, hz0, hz1, hz2⟩ := info_parts info_i64
  refine wpList_append_lies w hgd s x 24 ho base 2 i0 (.int .i64 0) 1 8 Try.underlying24 hi hz0 hz1 hz2 rfl (by decide) v zs.length (zs.map (Value.int .i64)) hs hown
    ⟨g, 0, none⟩ 1 c [.int .i64 z] hx rfl ?_ ?_ (by omega) ?_ ?_ hbase w.heap.size rfl ?_
  · intro j u hj
    match j, hj with
    | 0, hj => simp at hj; subst hj; simpa [Addr.add] using hc
  · intro u hu; simp at hu; subst hu; rfl
  · unfold maxLen; omega
  · omega
  · intro g' cap' w' h1 h2 h3 _
    exact h g' cap' w' (by simpa [OwnI] using h1) h2 h3

/-- A flood's state in memory. -/
structure FlM (w wr : World) (B0 B1 B2 BR BC : Nat) (mn : Int) (c : Nat → Nat × Nat) (v : Value) (S : Fl) : Prop where
  box : wr.heap[B0]? = some (.cells (warr mn c) 33 (0, 0))
  out : wr.heap[B1]? = some (.cells (cellsI S.out) 2 (0, 0))
  met : wr.heap[B2]? = some (.cells (cellsB S.met) 4 (0, 0))
  tr : wr.heap[BR]? = some (.cells (cellsI [0, 1, 0, -1]) 2 (0, 0))
  tc : wr.heap[BC]? = some (.cells (cellsI [1, 0, -1, 0]) 2 (0, 0))
  q : ∃ g cap, v = .slice (some ⟨g, 0, none⟩) S.q.length cap ∧ OwnI wr w.heap.size v (S.q.map fun a => ((a : Nat) : Int)) ∧ g ≠ B0 ∧ g ≠ B1 ∧ g ≠ B2 ∧ g ≠ BR ∧ g ≠ BC
  below : Below w.heap.size w wr
theorem dir_tr (j : Nat) (h : j < 4) : (cellsI [0, 1, 0, -1])[j]? = some (.int .i64 (flDir j).1) := by
  rcases (by omega : j = 0 ∨ j = 1 ∨ j = 2 ∨ j = 3) with rfl | rfl | rfl | rfl <;> rfl
theorem dir_tc (j : Nat) (h : j < 4) : (cellsI [1, 0, -1, 0])[j]? = some (.int .i64 (flDir j).2) := by
  rcases (by omega : j = 0 ∨ j = 1 ∨ j = 2 ∨ j = 3) with rfl | rfl | rfl | rfl <;> rfl
theorem dir_bd (j : Nat) : -1 ≤ (flDir j).1 ∧ (flDir j).1 ≤ 1 ∧ -1 ≤ (flDir j).2 ∧ (flDir j).2 ≤ 1 := by
  unfold flDir
  split
  · simp
  · split
    · simp
    · split <;> simp

theorem make_ints (N : Nat) (h : N ≤ 64) (W : World) : (Instr.makeSlice 24 (.int .i64 (N : Int)) (.int .i64 (N : Int))).run Try.prog W =
    .ok (.slice (some ⟨W.heap.size, 0, none⟩) N N) (W.alloc (.cells (cellsI (List.replicate N 0)) 2)) := by
  obtain ⟨i0, hi, hz0, hz1, hz2⟩ := info_parts info_i64
  rw [run_make (P := Try.prog) W 24 2 i0 (.int .i64 0) Try.underlying24 hi hz0 .i64 .i64 N N (by omega) (by omega) (by rw [hz2]; omega) (by omega)]
  have e : madeCells (Value.int .i64 0).cells ((N : Int).toNat * i0.size) = cellsI (List.replicate N 0) := by
    rw [hz1]
    apply Array.ext_getElem?
    intro j
    simp [madeCells, cellsI, Value.cells]
    by_cases hj : j < N <;> simp [hj, Nat.mod_one]
  rw [e]; simp
theorem info_bool : (Try.prog.info? 4).map (fun i => (i.zero, i.size, i.bytes)) = some (some (.bool false), 1, 1) := by kernel_rfl
theorem make_bools (N : Nat) (h : N ≤ 64) (W : World) : (Instr.makeSlice 57 (.int .i64 (N : Int)) (.int .i64 (N : Int))).run Try.prog W =
    .ok (.slice (some ⟨W.heap.size, 0, none⟩) N N) (W.alloc (.cells (cellsB (List.replicate N false)) 4)) := by
  obtain ⟨i0, hi, hz0, hz1, hz2⟩ := info_parts info_bool
  rw [run_make (P := Try.prog) W 57 4 i0 (.bool false) Try.underlying57 hi hz0 .i64 .i64 N N (by omega) (by omega) (by rw [hz2]; omega) (by omega)]
  have e : madeCells (Value.bool false).cells ((N : Int).toNat * i0.size) = cellsB (List.replicate N false) := by
    rw [hz1]
    apply Array.ext_getElem?
    intro j
    simp [madeCells, cellsB, Value.cells]
    by_cases hj : j < N <;> simp [hj, Nat.mod_one]
  rw [e]; simp

set_option maxRecDepth 100000 in
set_option maxHeartbeats 1500000 in
theorem unwrapFloodS_yes (n : Int) (b off cap : Nat) (zs : List Int) (mn : Int) (c : Nat → Nat × Nat) (y x : Int) (w : World) (hi : IntsIn w b off zs) (hl : zs.length ≤ 1000000) (hcode : flCode n zs mn c y x = 0) :
    Calls Try.prog 15 #[.int .i64 n, .slice (some ⟨b, off, none⟩) zs.length cap, .agg (warr mn c), .int .i64 y, .int .i64 x] w (ResI w (flOut n.toNat zs (fun i => !zC (c i)) (flAt n y x)) 0) := by
  obtain ⟨hw0, hmk, rfl, ⟨y0, y1⟩, ⟨x0, x1⟩, hz⟩ := flCode_none hcode
  have hbox := heap_alloc_new w (.cells (warr mn c) 33)
  have hb0 : Below w.heap.size w (w.alloc (.cells (warr mn c) 33)) := (Below.refl _ _).alloc (Nat.le_refl _) _
  obtain ⟨k1, k2, k3⟩ := cells_of hbox
  have s0 := (k1 0).trans (warr_zero mn c)
  have hcl := fun k h => (k1 (1 + k)).trans (warr_cell mn c k h)
  have Hcl := Lib.hid hcl
  have Hbox := Lib.hid hbox
  have hi0 : IntsIn (w.alloc (.cells (warr mn c) 33)) b off zs := hi.same (S := fun _ => False) ((Same.refl _ _).alloc _) (fun f => f)
  have HW := l07Code_any mn b off cap zs _ hi0 hl
  rw [hw0] at HW
  have HM := fun W => l03Is_any mn c W
  rw [hmk] at HM
  have HM := Lib.hid HM
  have hms := mask_side hmk
  have hn1 : 1 ≤ mn ∧ mn ≤ 8 := by rcases sideB_iff.1 hms with h | h | h | h <;> rw [h] <;> omega
  have w1 : IntKind.i64.wrap (mn - 1) = mn - 1 := IntWalk.i64_in _ (by omega)
  have e3 : (mn != mn) = false := by simp
  have Hy := Lib.hid (fun W => (l01In_any y 0 (mn - 1) W))
  rw [inR_iff.2 ⟨y0, y1⟩] at Hy
  have Hx := Lib.hid (fun W => (l01In_any x 0 (mn - 1) W))
  rw [inR_iff.2 ⟨x0, x1⟩] at Hx
  obtain ⟨-, hlen, hzs⟩ := wcode_zero hw0
  clear hbox k1 k2 k3 hcl hms hmk hw0
  obtain ⟨m, rfl⟩ : ∃ m : Nat, mn = (m : Int) := ⟨mn.toNat, by omega⟩
  obtain ⟨yn, rfl⟩ : ∃ m : Nat, y = (m : Int) := ⟨y.toNat, by omega⟩
  obtain ⟨xn, rfl⟩ : ∃ m : Nat, x = (m : Int) := ⟨x.toNat, by omega⟩
  have hmm : m * m ≤ 64 := (by have := Nat.mul_le_mul (show m ≤ 8 by omega) (show m ≤ 8 by omega); omega)
  have hlen' : zs.length = m * m := by have : ((m * m : Nat) : Int) = (m : Int) * m := by simp
                                       omega
  have hk : m * yn + xn < m * m := by
    have h5 : yn + 1 ≤ m := by omega
    have h6 := Nat.mul_le_mul_left m h5
    rw [Nat.mul_add] at h6
    omega
  have hca := Hcl.out (m * yn + xn) (by omega)
  have hfl : flAt (m : Int) yn xn = m * yn + xn := by unfold flAt; rw [show (m : Int) * yn + xn = ((m * yn + xn : Nat) : Int) by simp, Int.toNat_natCast]
  rw [hfl] at hz ⊢
  have hmul : (m : Int) * yn = ((m * yn : Nat) : Int) := by simp
  have hmul2 : (m : Int) * m = ((m * m : Nat) : Int) := by simp
  have Hok := Lib.hid (flOk_all m zs (fun i => !zC (c i)) (m * yn + xn) hk hzs)
  generalize m * yn = p at hk hca hz hmul Hok ⊢
  simp only [cx] at hca
  have Hca := Lib.hid hca
  have Hz := Lib.hid hz
  have Hzs := Lib.hid hzs
  have Hlen := Lib.hid hlen'
  simp only [zC, zF] at hz
  obtain ⟨N, hN⟩ : ∃ N, m * m = N := ⟨_, rfl⟩
  rw [hN] at hmul2 hmm hk
  have HN := Lib.hid hN
  have hmk1 := make_ints N hmm
  have hmk2 := make_bools N hmm
  clear hN
  clear hca hcode hfl hzs hlen hlen'
  go_enter Try.func15, Try.ntmps15
  go_wp2_with (first
    | (go_at_call 30; refine HW.mono ?_; rintro e w' ⟨rfl, rfl⟩)
    | (refine wpList_load_wave_g rfl (.tmp 7) (by with_reducible rfl) _ rfl _ _ _ _ Hbox.out ?_)
    | (go_at_call 45; refine (HM.out _).mono ?_; rintro e w1 ⟨rfl, hb1⟩; have s1 := (hb1.cell (p := ⟨w.heap.size, 0, none⟩) (by simp)).trans s0; have ca := (hb1.cell (p := ⟨w.heap.size, 1 + (p + xn), none⟩) (by simp)).trans Hca.out)
    | (go_at_call_of 46 (Value.int IntKind.i64 (yn : Int)); refine (Hy.out _).mono ?_; rintro e w2 ⟨rfl, rfl⟩)
    | (go_at_call_of 46 (Value.int IntKind.i64 (xn : Int)); refine (Hx.out _).mono ?_; rintro e w2 ⟨rfl, rfl⟩))
  go_cut [13, 14, 15] (fun a b q wx => ∃ B1 B2 g, a = .slice (some ⟨B1, 0, none⟩) N N ∧ b = .slice (some ⟨B2, 0, none⟩) N N ∧ q = .slice (some ⟨g, 0, none⟩) 1 1 ∧
    wx.heap[B1]? = some (.cells (cellsI (List.replicate N 0)) 2 (0, 0)) ∧ wx.heap[B2]? = some (.cells (cellsB (List.replicate N false)) 4 (0, 0)) ∧ wx.heap[g]? = some (.cells #[.int .i64 ((p + xn : Nat) : Int)] 2 (0, 0)) ∧
    B1 ≠ B2 ∧ B1 ≠ g ∧ B2 ≠ g ∧ w1.heap.size ≤ B1 ∧ w1.heap.size ≤ B2 ∧ w1.heap.size ≤ g ∧ Below w1.heap.size w1 wx)
  case first =>

    go_region
    all_goals
      go_wp2_with fail
      go_meet
      exact ⟨_, _, _, rfl, rfl, rfl, by first | exact (heap3 w1.drew _ _ _).1 | exact (heap3 w1.drew _ _ _).2.1 | exact (heap3 w1.drew _ _ _).2.2, by first | exact (heap3 w1.drew _ _ _).1 | exact (heap3 w1.drew _ _ _).2.1 | exact (heap3 w1.drew _ _ _).2.2,
        by first | exact (heap3 w1.drew _ _ _).1 | exact (heap3 w1.drew _ _ _).2.1 | exact (heap3 w1.drew _ _ _).2.2, by omega, by omega, by omega, by omega, by omega, by omega, (Below.refl _ _).drew.trans (below3 w1.drew _ _ _)⟩
  case rest =>
    obtain ⟨B1, B2, g, rfl, rfl, rfl, hB1, hB2, hg, n1, n2, n3, l1, l2, l3, hbx⟩ := hcut
    have hbl : Below w.heap.size w wc := (hb0.trans (hb1.mono hb0.size)).trans (hbx.mono (by have := hb0.size; have := hb1.size; omega))
    have hw1 : w.heap.size < w1.heap.size := by have := hb1.size; simp at this; omega
    have hboxc : wc.heap[w.heap.size]? = some (.cells (warr (m : Int) c) 33 (0, 0)) := (hbx.block _ hw1).trans ((hb1.block _ (by simp)).trans Hbox.out)
    have hic : IntsIn wc b off zs := hi.below hbl hi.lt
    have hzk := hic.cell (p + xn) (by rw [Hlen.out, HN.out]; exact hk)
    obtain ⟨q1, q2, q3⟩ := cells_of hB1
    have o1 := (q1 (p + xn)).trans (cellsI_at _ _ (by simpa using hk))
    have of1 := q2 (p + xn)
    obtain ⟨r1, r2, r3⟩ := cells_of hB2
    have m1 := (r1 (p + xn)).trans (cellsB_at _ _ (by simpa using hk))
    have mf1 := r2 (p + xn)
    have i1 : (p : Int) + xn < N := by omega
    have i2 : (p : Int) + xn < zs.length := by have := Hlen.out; have := HN.out; omega
    have ne12 : B1 ≠ B2 := n1
    have bz := getD_bd Hzs.out (p + xn)
    generalize hzv : zs.getD (p + xn) 0 = zv at hzk bz
    generalize (List.replicate N (0 : Int)).getD (p + xn) 0 = ov at o1
    generalize (List.replicate N false).getD (p + xn) false = mv at m1
    have hne : ¬ B2 = b ∧ ¬ B1 = b := by have := hi.lt; omega
    have HB1 := Lib.hid hB1
    have HB2 := Lib.hid hB2
    have Hg := Lib.hid hg
    have Hboxc := Lib.hid hboxc
    have Hic := Lib.hid hic
    clear hB1 hB2 hg hboxc hic q1 q2 r1 r2 hbx s1 ca hb1 Hcl hi0 HW s0 hmk1 hmk2
    go_wp2_with fail
    go_loopw [15, 18] (fun v i wr => ∃ k : Nat, k ≤ (flN m zs (fun i => !zC (c i)) (p + xn) k).q.length ∧ i = .int .i64 k ∧ FlM w wr w.heap.size B1 B2 wc.heap.size (wc.heap.size + 1) m c v (flN m zs (fun i => !zC (c i)) (p + xn) k))
      (fun _ i _ => N - (intOf i).toNat)
    case atStart =>
      have hsm : Same (fun k => k = B2 ∨ k = B1) wc ((wc.setCell ⟨B2, p + xn, none⟩ (.bool true)).setCell ⟨B1, p + xn, none⟩ (.int .i64 zv)) :=
        ((Same.refl _ _).setCell (p := ⟨B2, p + xn, none⟩) (.inr (.inl rfl)) _).setCell (p := ⟨B1, p + xn, none⟩) (.inr (.inr rfl)) _
      have hsz : ((wc.setCell ⟨B2, p + xn, none⟩ (.bool true)).setCell ⟨B1, p + xn, none⟩ (.int .i64 zv)).heap.size = wc.heap.size := by simp
      have hbig : ∀ (W : World) (X Y : Obj), W.heap.size = wc.heap.size → ((W.alloc X).alloc Y).heap[wc.heap.size]? = some X ∧ ((W.alloc X).alloc Y).heap[wc.heap.size + 1]? = some Y ∧ ∀ k, k < wc.heap.size → ((W.alloc X).alloc Y).heap[k]? = W.heap[k]? := by
        intro W X Y h
        rw [← h]
        exact ⟨heap_alloc2_old W X Y, heap_alloc2_new W X Y, fun k hk => by rw [heap_alloc_old _ _ (by simp; omega), heap_alloc_old _ _ hk]⟩
      obtain ⟨t1, t2, t3⟩ := hbig _ (Obj.cells #[Value.int IntKind.i64 0, Value.int IntKind.i64 1, Value.int IntKind.i64 0, Value.int IntKind.i64 (-1)] 2) (Obj.cells #[Value.int IntKind.i64 1, Value.int IntKind.i64 0, Value.int IntKind.i64 (-1), Value.int IntKind.i64 0] 2) hsz
      refine ⟨0, by omega, rfl, ⟨(t3 _ (by omega)).trans ((hsm.block _ (by omega) (by omega)).trans Hboxc.out), (t3 _ q3).trans ?_, (t3 _ r3).trans ?_, t1, t2, ⟨g, 1, rfl, ?_, by omega, by omega, by omega, by have := lt_of_block Hg.out; omega, by have := lt_of_block Hg.out; omega⟩, ?_⟩⟩
      · rw [heap_setCell_same _ _ _ _ _ _ (by rw [heap_setCell_other _ _ _ _ (by simpa using n1)]; exact HB1.out), cellsI_set, ← HN.out, ← hzv]; rfl
      · rw [heap_setCell_other _ _ _ _ (by simpa using fun h => n1 h.symm), heap_setCell_same _ _ _ _ _ _ HB2.out, cellsB_set, ← HN.out]; rfl
      · refine ⟨by simp [flN, flInit], .inr ⟨g, 1, #[.int .i64 ((p + xn : Nat) : Int)], by simp [flN, flInit], by omega, (t3 _ (lt_of_block Hg.out)).trans ((hsm.block _ (by have := lt_of_block Hg.out; exact this) (by omega)).trans Hg.out), by simp [flN, flInit], by simp [maxLen], by simp, by simp [flN, flInit]⟩⟩
      · exact ((hbl.trans (hsm.below (by exact hbl.size) (fun k hk e => by omega))).alloc (by rw [hsz]; exact hbl.size) _).alloc (by have := hbl.size; simp; omega) _
    case round =>
      obtain ⟨k, hk2, rfl, hM⟩ := hrel
      have hOk := Hok.out k
      have hqN := hOk.qle
      rw [HN.out] at hqN
      have HSn := Lib.hid (show flN m zs (fun i => !zC (c i)) (p + xn) (k + 1) = if k < (flN m zs (fun i => !zC (c i)) (p + xn) k).q.length then flPart m zs (fun i => !zC (c i)) ((flN m zs (fun i => !zC (c i)) (p + xn) k).q.getD k 0) (flN m zs (fun i => !zC (c i)) (p + xn) k) 4 else flN m zs (fun i => !zC (c i)) (p + xn) k from rfl)
      have Hfin := Lib.hid (fun h => flOut_at m zs (fun i => !zC (c i)) (p + xn) (by have := HN.out; omega) Hzs.out k (by have := HN.out; omega) h)
      generalize flN m zs (fun i => !zC (c i)) (p + xn) k = S at hk2 hM hOk hqN HSn Hfin
      obtain ⟨hbo, hou, hme, htr, htc, ⟨g2, cap2, rfl, hO, e0, e1, e2, e3, e4⟩, hbr⟩ := hM
      have HOk := Lib.hid hOk
      by_cases hlt : k < S.q.length
      · have hd : decide ((k : Int) < S.q.length) = true := by simp; omega
        have ha : S.q.getD k 0 < N := by rw [← HN.out]; exact hOk.qlt _ (getD_memN _ _ hlt)
        have Ha := Lib.hid (getD_memN _ _ hlt)
        obtain ⟨g3, cap3, hv3, hg3, -, hin3, hfr3⟩ := hO.reads (by simp; omega)
        have ck := hin3.cell k (by simpa using hlt)
        have hgg : g2 = g3 := by simp at hv3; exact hv3.1
        subst hgg
        clear hv3
        have eqk : (S.q.map fun a => ((a : Nat) : Int)).getD k 0 = ((S.q.getD k 0 : Nat) : Int) := by simp [List.getD_eq_getElem?_getD, hlt]
        rw [eqk] at ck
        simp only [Nat.zero_add] at ck
        rw [if_pos hlt] at HSn
        generalize S.q.getD k 0 = a at ha ck HSn Ha
        have hM0 : FlM w wr w.heap.size B1 B2 wc.heap.size (wc.heap.size + 1) m c (.slice (some ⟨g2, 0, none⟩) S.q.length cap2) (flPart m zs (fun i => !zC (c i)) a S 0) := ⟨hbo, hou, hme, htr, htc, ⟨g2, cap2, rfl, hO, e0, e1, e2, e3, e4⟩, hbr⟩
        have HM0 := Lib.hid hM0
        have hlen3 : (k : Int) < S.q.length := by omega
        clear hbo hou hme htr htc hO hOk hM0 hin3 eqk hbr hfr3
        go_wp2_with fail
        go_loopw [15, 20] (fun v i wr => ∃ j : Nat, j ≤ 4 ∧ i = .int .i64 j ∧ FlM w wr w.heap.size B1 B2 wc.heap.size (wc.heap.size + 1) m c v (flPart m zs (fun i => !zC (c i)) a S j))
          (fun _ i _ => 4 - (intOf i).toNat)
        case atStart => exact ⟨0, by omega, rfl, HM0.out⟩
        case round =>
          clear ck HM0
          obtain ⟨j, hj, rfl, hM⟩ := hrel
          have Hst := Lib.hid (show flPart m zs (fun i => !zC (c i)) a S (j + 1) = flStep m zs (fun i => !zC (c i)) a j (flPart m zs (fun i => !zC (c i)) a S j) from rfl)
          have HOk2 := Lib.hid (flOk_part m zs (fun i => !zC (c i)) a S HOk.out Ha.out j hj)
          obtain ⟨hbo, hou, hme, htr, htc, ⟨g2, cap2, rfl, hO, e0, e1, e2, e3, e4⟩, hbr⟩ := hM
          by_cases hj4 : j < 4
          · have hd2 : decide ((j : Int) < 4) = true := by simp; omega
            have hj4' : (j : Int) < 4 := by omega
            have tr1 := ((cells_of htr).1 j).trans (dir_tr j hj4)
            have tc1 := ((cells_of htc).1 j).trans (dir_tc j hj4)
            obtain ⟨b1, b2, b3, b4⟩ := dir_bd j
            have hne0 : ¬ (m : Int) = 0 := by omega
            have hVd : flV m a j = ((a / m : Nat) : Int) + (flDir j).1 := rfl
            have hUd : flU m a j = ((a % m : Nat) : Int) + (flDir j).2 := rfl
            have hq1 : (a : Int) / (m : Int) = ((a / m : Nat) : Int) := by simp
            have hr1 : (a : Int) % (m : Int) = ((a % m : Nat) : Int) := by simp
            have hq2 : a / m ≤ 64 := Nat.le_trans (Nat.div_le_self _ _) (by omega)
            have hr2 : a % m < m := Nat.mod_lt _ (by omega)
            generalize (flDir j).1 = dv at tr1 b1 b2 hVd
            generalize (flDir j).2 = du at tc1 b3 b4 hUd
            generalize a / m = qn at hq1 hq2 hVd
            generalize a % m = rn at hr1 hr2 hUd
            have HV := Lib.hid hVd
            have HU := Lib.hid hUd
            have wq : IntKind.i64.wrap (qn : Int) = qn := IntWalk.i64_in _ (by omega)
            have wr1 : IntKind.i64.wrap (rn : Int) = rn := IntWalk.i64_in _ (by omega)
            have wv : IntKind.i64.wrap ((qn : Int) + dv) = flV m a j := by rw [hVd]; exact IntWalk.i64_in _ (by omega)
            have wu : IntKind.i64.wrap ((rn : Int) + du) = flU m a j := by rw [hUd]; exact IntWalk.i64_in _ (by omega)
            have bV : -1 ≤ flV m a j ∧ flV m a j ≤ 65 := by omega
            have bU : -1 ≤ flU m a j ∧ flU m a j ≤ 65 := by omega
            have Hin := Lib.hid (show flIn m a j = (inR (flV m a j) 0 ((m : Int) - 1) && inR (flU m a j) 0 ((m : Int) - 1)) from rfl)
            have HT := Lib.hid (flT_lt m a j)
            have Hcv := Lib.hid (fun W => l01In_any (flV m a j) 0 ((m : Int) - 1) W)
            have Hcu := Lib.hid (fun W => l01In_any (flU m a j) 0 ((m : Int) - 1) W)
            generalize flV m a j = V at wv bV Hin HT Hcv HV
            generalize flU m a j = U at wu bU Hin HT Hcu HU
            have Hbo := Lib.hid hbo
            have Hou := Lib.hid hou
            have Hme := Lib.hid hme
            have Htr := Lib.hid htr
            have Htc := Lib.hid htc
            have HO := Lib.hid hO
            have Hbr := Lib.hid hbr
            have hcont : flStep m zs (fun i => !zC (c i)) a j (flPart m zs (fun i => !zC (c i)) a S j) = flPart m zs (fun i => !zC (c i)) a S j → ∀ wq, Same (fun _ => False) wr wq → FlM w wq w.heap.size B1 B2 wc.heap.size (wc.heap.size + 1) m c (.slice (some ⟨g2, 0, none⟩) (flPart m zs (fun i => !zC (c i)) a S j).q.length cap2) (flPart m zs (fun i => !zC (c i)) a S (j + 1)) := by
              intro h wq hs
              rw [Hst.out, h]
              exact ⟨(hs.block _ (lt_of_block hbo) (fun f => f)).trans hbo, (hs.block _ (lt_of_block hou) (fun f => f)).trans hou, (hs.block _ (lt_of_block hme) (fun f => f)).trans hme, (hs.block _ (lt_of_block htr) (fun f => f)).trans htr, (hs.block _ (lt_of_block htc) (fun f => f)).trans htc, ⟨g2, cap2, rfl, hO.same hs (fun _ _ f => f), e0, e1, e2, e3, e4⟩, hbr.trans (hs.below (by exact hbr.size) (fun _ _ f => f))⟩
            have Hcont := Lib.hid hcont
            clear hbo hou hme htr htc hO hbr hVd hUd b1 b2 b3 b4 hcont
            cases hbv : inR V 0 ((m : Int) - 1) with
            | false =>
              rw [hbv] at Hcv Hin
              have Hbv := Lib.hid hbv
              clear hbv
              go_wp2_with fail
              go_region
              all_goals
                go_wp2_with (first | (go_at_call_of 46 (Value.int IntKind.i64 V); refine (Hcv.out _).mono ?_; rintro e w2 ⟨rfl, rfl⟩))
                exact ⟨⟨j + 1, hj4, by simp, Hcont.out (by unfold flStep; rw [Hin.out]; rfl) _ (Same.refl _ _).drew⟩, by simp [intOf]; omega⟩
            | true =>
              rw [hbv] at Hcv Hin
              have hb1 := inR_iff.1 hbv
              cases hbu : inR U 0 ((m : Int) - 1) with
              | false =>
                rw [hbu] at Hcu Hin
                have Hbv := Lib.hid hbv
                have Hbu := Lib.hid hbu
                clear hbv hbu
                go_wp2_with fail
                go_region
                all_goals
                  go_wp2_with (first | (go_at_call_of 46 (Value.int IntKind.i64 V); refine (Hcv.out _).mono ?_; rintro e w2 ⟨rfl, rfl⟩) | (go_at_call_of 46 (Value.int IntKind.i64 U); refine (Hcu.out _).mono ?_; rintro e w2 ⟨rfl, rfl⟩))
                  exact ⟨⟨j + 1, hj4, by simp, Hcont.out (by unfold flStep; rw [Hin.out]; rfl) _ (Same.refl _ _).drew⟩, by simp [intOf]; omega⟩
              | true =>
                rw [hbu] at Hcu Hin
                have hb2 := inR_iff.1 hbu
                have Hbv := Lib.hid hbv
                have Hbu := Lib.hid hbu
                clear hbv hbu
                obtain ⟨ht1, ht2⟩ := HT.out (by rw [Hin.out]; rfl)
                have hstep : ∀ S2 : Fl, flStep m zs (fun i => !zC (c i)) a j S2 = if (S2.met.getD (flT m a j) false || zC (c (flT m a j))) = true then S2 else flPush zs a (flT m a j) S2 := by
                  intro S2
                  unfold flStep
                  rw [Hin.out]
                  simp
                have Hstep := Lib.hid hstep
                clear hstep
                generalize flT m a j = t at ht1 ht2 Hstep
                generalize flPart m zs (fun i => !zC (c i)) a S j = S2 at HOk2 Hst Hcont Hou Hme HO ⊢
                obtain ⟨P, hP⟩ : ∃ P, (m : Int) * V = P := ⟨_, rfl⟩
                rw [hP] at ht2
                rw [HN.out] at ht1
                have wP : IntKind.i64.wrap P = P := IntWalk.i64_in _ (by omega)
                have wT : IntKind.i64.wrap (P + U) = (t : Int) := by rw [ht2]; exact IntWalk.i64_in _ (by omega)
                have wt : IntKind.i64.wrap (t : Int) = t := IntWalk.i64_in _ (by omega)
                have hPU : P + U = (t : Int) := ht2.symm
                clear ht2
                have htN : (t : Int) < N := by omega
                have ht64 : (t : Int) < 64 := by omega
                have mc := ((cells_of Hme.out).1 t).trans (cellsB_at _ _ (by rw [HOk2.out.metL, HN.out]; exact ht1))
                have mf := (cells_of Hme.out).2.1 t
                have wc1 := ((cells_of Hbo.out).1 (1 + t)).trans (warr_cell _ _ t (by omega))
                simp only [cx] at wc1
                cases hmt : S2.met.getD t false with
                | true =>
                  rw [hmt] at mc
                  have Hmt := Lib.hid hmt
                  clear hmt
                  go_wp2_with fail
                  go_region
                  all_goals
                    go_wp2_with (first | (go_at_call_of 46 (Value.int IntKind.i64 V); refine (Hcv.out _).mono ?_; rintro e w2 ⟨rfl, rfl⟩) | (go_at_call_of 46 (Value.int IntKind.i64 U); refine (Hcu.out _).mono ?_; rintro e w2 ⟨rfl, rfl⟩))
                    exact ⟨⟨j + 1, hj4, by simp, Hcont.out (by rw [Hstep.out, Hmt.out]; simp) _ (Same.refl _ _).drew⟩, by simp [intOf]; omega⟩
                | false =>
                  rw [hmt] at mc
                  have Hmt := Lib.hid hmt
                  clear hmt
                  cases hzt : zC (c t) with
                  | true =>
                    have Hzt := Lib.hid hzt
                    simp only [zC, zF, Bool.and_eq_true] at hzt
                    obtain ⟨z1, z2⟩ := hzt
                    go_wp2_with fail
                    go_region
                    all_goals
                      go_wp2_with (first | (go_at_call_of 46 (Value.int IntKind.i64 V); refine (Hcv.out _).mono ?_; rintro e w2 ⟨rfl, rfl⟩) | (go_at_call_of 46 (Value.int IntKind.i64 U); refine (Hcu.out _).mono ?_; rintro e w2 ⟨rfl, rfl⟩))
                      exact ⟨⟨j + 1, hj4, by simp, Hcont.out (by rw [Hstep.out, Hzt.out]; simp) _ (Same.refl _ _).drew⟩, by simp [intOf]; omega⟩
                  | false =>
                    have Hzt := Lib.hid hzt
                    simp only [zC, zF] at hzt
                    have haN : (a : Int) < N := by omega
                    have hza : (a : Int) < zs.length := by have := Hlen.out; have := HN.out; omega
                    have hzt2 : (t : Int) < zs.length := by have := Hlen.out; have := HN.out; omega
                    have hiw := hi.below Hbr.out hi.lt
                    have ca := hiw.cell a (by omega)
                    have ct := hiw.cell t (by omega)
                    have oa := ((cells_of Hou.out).1 a).trans (cellsI_at _ _ (by rw [HOk2.out.outL, HN.out]; omega))
                    have ot := ((cells_of Hou.out).1 t).trans (cellsI_at _ _ (by rw [HOk2.out.outL, HN.out]; omega))
                    have otf := (cells_of Hou.out).2.1 t
                    have bda := HOk2.out.bd a
                    have bdl := HOk2.out.qle
                    rw [HN.out] at bdl
                    have bza := getD_bd Hzs.out a
                    have bzt := getD_bd Hzs.out t
                    have bl := lessH_bd (zs.getD a 0) (zs.getD t 0)
                    have Hpu := Lib.hid (show flPush zs a t S2 = ⟨S2.out.set t (S2.out.getD a 0 + lessH (zs.getD a 0) (zs.getD t 0)), S2.met.set t true, S2.q ++ [t]⟩ from rfl)
                    generalize zs.getD a 0 = za at ca bza bl Hpu
                    generalize zs.getD t 0 = zt at ct bzt bl Hpu
                    generalize S2.out.getD a 0 = xa at oa bda Hpu
                    generalize S2.out.getD t 0 = xt at ot
                    have hcall := fun W => (l07Less_any za zt W (by omega) (by omega) (by omega) (by omega)).mono fun e w' h => And.intro h.1 h.2.symm
                    generalize lessH za zt = ll at bl Hpu hcall
                    have wx : IntKind.i64.wrap (xa + ll) = xa + ll := IntWalk.i64_in _ (by omega)
                    have hcall := Lib.hid hcall
                    clear hiw
                    go_wp2_with fail
                    go_region
                    all_goals
                      go_wp2_with (first | (go_at_call_of 46 (Value.int IntKind.i64 V); refine (Hcv.out _).mono ?_; rintro e w2 ⟨rfl, rfl⟩) | (go_at_call_of 46 (Value.int IntKind.i64 U); refine (Hcu.out _).mono ?_; rintro e w2 ⟨rfl, rfl⟩))
                      obtain ⟨wy, hwy⟩ : ∃ wy, (wr.setCell ⟨B2, t, none⟩ (.bool true)).drew = wy := ⟨_, rfl⟩
                      have hsy : Same (fun k => k = B2 ∨ k = B1) wr wy := by rw [← hwy]; exact ((Same.refl _ _).setCell (p := ⟨B2, t, none⟩) (.inr (.inl rfl)) _).drew
                      have hsy0 : Same (fun k => k = B2) wr wy := by rw [← hwy]; exact ((Same.refl (fun k => k = B2) _).setCell (p := ⟨B2, t, none⟩) (.inr rfl) _).drew
                      have hmy : wy.heap[B2]? = some (.cells (cellsB (S2.met.set t true)) 4 (0, 0)) := by
                        rw [← hwy]
                        show (World.setCell _ _ _).heap[_]? = _
                        rw [heap_setCell_same _ _ _ _ _ _ Hme.out, cellsB_set]
                      have Hmy := Lib.hid hmy
                      have Hsy := Lib.hid hsy
                      have hlt1 := lt_of_block Hou.out
                      have hbw : b < wr.heap.size := Nat.lt_of_lt_of_le hi.lt Hbr.out.size
                      have ya := (hsy.cell (p := ⟨b, off + a, none⟩) hbw (fun e => e.elim (fun e => hne.1 e.symm) (fun e => hne.2 e.symm))).trans ca
                      have yt := (hsy.cell (p := ⟨b, off + t, none⟩) hbw (fun e => e.elim (fun e => hne.1 e.symm) (fun e => hne.2 e.symm))).trans ct
                      have za1 := (hsy0.cell (p := ⟨B1, a, none⟩) hlt1 n1).trans oa
                      have zt1 := (hsy0.cell (p := ⟨B1, t, none⟩) hlt1 n1).trans ot
                      have zf1 := (hsy0.frozen (p := ⟨B1, t, none⟩) hlt1 n1).trans otf
                      rw [hwy]
                      have Hho := Lib.hid (show ∀ W, Same (fun k => k = B2 ∨ k = B1) wr W → OwnI W w.heap.size (.slice (some ⟨g2, 0, none⟩) S2.q.length cap2) (S2.q.map fun a => ((a : Nat) : Int)) from fun W h => ownsRow_same HO.out h (fun k hk e => by simp [Value.ownBlock] at hk; omega))
                      have hql : (S2.q.map fun a => ((a : Nat) : Int)).length ≤ 1000000 := by simp; omega
                      have hbs := Hbr.out.size
                      have hys := hsy.size
                      have hou1 : wy.heap[B1]? = some (.cells (cellsI S2.out) 2 (0, 0)) := (hsy0.block _ hlt1 n1).trans Hou.out
                      have Hou1 := Lib.hid hou1
                      clear ca ct oa ot otf hwy hmy hsy hsy0 mc mf wc1 hou1
                      go_still_tail 17, (by kernel_rfl)
                      still_call (hcall.out _)
                      repeat still_step
                      refine wpStill_nil ?_
                      change wpList _ _ _ _ _ wy.drew
                      go_wp2_with (at_builtin; refine wpList_push_g rfl (.tmp 185) (.tmp 187) rfl w.heap.size _ (S2.q.map fun a => ((a : Nat) : Int)) (t : Int) _ 1 rfl (Hho.out _ (by first | exact ((Hsy.out.setCell (p := ⟨B1, t, none⟩) (.inr (.inr rfl)) _).alloc _).drew | exact ((Hsy.out.setCell (p := ⟨B1, t, none⟩) (.inr (.inr rfl)) _).drew).alloc _ | exact ((Hsy.out.drew).setCell (p := ⟨B1, t, none⟩) (.inr (.inr rfl)) _).alloc _)) rfl (by first | exact World.cell?_alloc_at _ _ _ _ (by simp) | (rw [World.cell?_drew]; exact World.cell?_alloc_at _ _ _ _ (by simp))) hql (by simp; omega) ?_)
                      intro g' cap' w' ho hg hgg
                      have Hho' := Lib.hid ho
                      have Hg' := Lib.hid hg
                      have Hgg := Lib.hid hgg
                      clear ho hg hgg
                      go_wp2_with fail
                      have hyB : B1 < wy.heap.size ∧ B2 < wy.heap.size ∧ w.heap.size < wy.heap.size ∧ wc.heap.size + 1 < wy.heap.size := by
                        have := lt_of_block Hbo.out; have := lt_of_block Hmy.out; have := lt_of_block Hou1.out; have := lt_of_block Htc.out; omega
                      have hW : ∀ k, k < wy.heap.size → k ≠ g2 → w'.heap[k]? = (wy.setCell ⟨B1, t, none⟩ (.int .i64 (xa + ll))).heap[k]? := fun k hk hne' =>
                        (Hg'.out.block k (by simp; omega) (by simp [Value.ownBlock]; omega)).trans (heap_alloc_old _ _ (by simpa using hk))
                      have hWo : ∀ k, k < wr.heap.size → k ≠ g2 → k ≠ B1 → k ≠ B2 → w'.heap[k]? = wr.heap[k]? := fun k hk h1 h2 h3 =>
                        (hW k (by have := Hsy.out.size; omega) h1).trans ((heap_setCell_other _ _ _ _ (by simpa using h2)).trans (Hsy.out.block k hk (by omega)))
                      have hg' : g' = g2 ∨ wy.heap.size ≤ g' := by
                        rcases Hgg.out with h | h
                        · simp [Value.ownBlock] at h; exact .inl h.symm
                        · right; rw [h]; simp
                      refine ⟨⟨j + 1, hj4, by simp, ?_⟩, by simp [intOf]; omega⟩
                      rw [Hst.out, Hstep.out, if_neg (by rw [Hmt.out, Hzt.out]; simp), Hpu.out]
                      refine ⟨(hWo _ (lt_of_block Hbo.out) e0.symm (by omega) (by omega)).trans Hbo.out, (hW _ hyB.1 e1.symm).trans (by rw [heap_setCell_same _ _ _ _ _ _ Hou1.out, cellsI_set]),
                        (hW _ hyB.2.1 e2.symm).trans ((heap_setCell_other _ _ _ _ (by simpa using n1.symm)).trans Hmy.out), (hWo _ (lt_of_block Htr.out) e3.symm (by omega) (by omega)).trans Htr.out, (hWo _ (lt_of_block Htc.out) e4.symm (by omega) (by omega)).trans Htc.out,
                        ⟨g', cap', by simp, by simpa using Hho'.out, by omega, by omega, by omega, by omega, by omega⟩, ?_⟩
                      exact ⟨Hg'.out.os.trans (Hsy.out.os.trans Hbr.out.os), Hg'.out.tape.trans (Hsy.out.tape.trans Hbr.out.tape), Hg'.out.output.trans (Hsy.out.output.trans Hbr.out.output), by have := Hg'.out.size; simp at this; omega,
                        fun k hk => (hWo k (by omega) (by have := (HO.out.lt g2 rfl).1; omega) (by omega) (by omega)).trans (Hbr.out.block k hk)⟩
          · obtain rfl : j = 4 := by omega
            have hd2 : decide ((4 : Int) < 4) = false := by simp
            have HM4 := Lib.hid (show FlM w wr w.heap.size B1 B2 wc.heap.size (wc.heap.size + 1) m c (.slice (some ⟨g2, 0, none⟩) (flPart m zs (fun i => !zC (c i)) a S 4).q.length cap2) (flPart m zs (fun i => !zC (c i)) a S 4) from ⟨hbo, hou, hme, htr, htc, ⟨g2, cap2, rfl, hO, e0, e1, e2, e3, e4⟩, hbr⟩)
            clear hbo hou hme htr htc hO hbr
            go_wp2_with fail
            obtain ⟨r, hr⟩ := flPart_q m zs (fun i => !zC (c i)) a S 4
            refine ⟨⟨k + 1, ?_, by simp, ?_⟩, ?_⟩
            · rw [HSn.out, hr]; simp; omega
            · rw [HSn.out]; exact HM4.out
            · simp [intOf]; omega
      · have hd : decide ((k : Int) < S.q.length) = false := by simp; omega
        have HO := Lib.hid hO
        have Hou := Lib.hid hou
        have Hbr := Lib.hid hbr
        clear hbo hou hme htr htc hO hOk hbr
        go_wp2_with fail
        go_ret2
        have hfin := Hfin.out (by omega)
        have hL : (flOut m zs (fun i => !zC (c i)) (p + xn)).length = N := by rw [← hfin, HOk.out.outL, HN.out]
        rw [hfin] at Hou
        exact ⟨_, rfl, .inr ⟨B1, N, by simp only [Int.toNat_natCast]; rw [hL]; rfl, by omega, cellsI_in Hou.out⟩, Hbr.out⟩
/-- Both, in one form. -/
theorem unwrapFloodS_any (n : Int) (b off cap : Nat) (zs : List Int) (mn : Int) (c : Nat → Nat × Nat) (y x : Int) (w : World) (hi : IntsIn w b off zs) (hl : zs.length ≤ 1000000) :
    Calls Try.prog 15 #[.int .i64 n, .slice (some ⟨b, off, none⟩) zs.length cap, .agg (warr mn c), .int .i64 y, .int .i64 x] w (ResI w (flRes n zs mn c y x) (flCode n zs mn c y x)) := by
  by_cases h : flCode n zs mn c y x = 0
  · have := unwrapFloodS_yes n b off cap zs mn c y x w hi hl h
    simpa [flRes, h] using this
  · have := unwrapFloodS_no n b off cap zs mn c y x w hi hl h
    simpa [flRes, h] using this
end Go.Proofs.Ytlfcgbhjmdmocaa
