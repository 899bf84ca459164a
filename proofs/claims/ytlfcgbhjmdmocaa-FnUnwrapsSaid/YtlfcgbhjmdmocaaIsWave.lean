/- IsWave and its twin in the reference. -/
import Derived.Test.YtlfcgbhjmdmocaaCell
namespace Go.Proofs.Ytlfcgbhjmdmocaa
open Go.RowKit

theorem all_range_succ (p : Nat → Bool) (k : Nat) : (List.range (k + 1)).all p = ((List.range k).all p && p k) := by
  rw [List.range_succ, List.all_append]; simp
theorem all_range_false {p : Nat → Bool} {k n : Nat} (h : p k = false) (hk : k < n) : (List.range n).all p = false := by
  rw [List.all_eq_false]
  exact ⟨k, List.mem_range.2 hk, by simp [h]⟩

/-- A wave boxed: its cells. -/
theorem boxed {w : World} {n : Int} {c : Nat → Nat × Nat} {B : Nat} {w' : World} {t : TypeId} (hb : Below B (w.alloc (.cells (warr n c) t)) w') (hB : w.heap.size < B) :
    w'.heap[w.heap.size]? = some (.cells (warr n c) t (0, 0)) := (hb.block _ hB).trans (heap_alloc_new _ _)

theorem wave_range {w : World} {b : Nat} {n : Int} {c : Nat → Nat × Nat} {t : TypeId} (h : w.heap[b]? = some (.cells (warr n c) t (0, 0))) : w.rangeAt b 1 (wcells c).toList := by
  intro j v hj
  rw [(cells_of h).1]
  have hlt : j < 64 := by
    rcases Nat.lt_or_ge j 64 with h' | h'
    · exact h'
    · rw [List.getElem?_eq_none (by simp [wcells]; exact h')] at hj; cases hj
  rw [warr_cell n c j hlt]
  simpa [wcells, hlt] using hj

theorem size64 : (Try.prog.info? 31).map (·.size) = some 64 := by kernel_rfl
theorem size65 : (Try.prog.info? 33).map (·.size) = some 65 := by kernel_rfl

theorem agg30 (w : World) : (isAgg 30).run Try.prog w = .ok false w := by
  unfold isAgg
  rw [Sem.run_bind, run_underlying Try.underlying30 w]
  rfl
theorem info30 : (Try.prog.info? 30).map (·.size) = some 1 := by kernel_rfl
theorem run_index_cells (c : Nat → Nat × Nat) (k : Nat) (h : k < 64) (w : World) :
    (Instr.index 31 (.agg (wcells c)) (.int .i64 k)).run Try.prog w = .ok (cx (c k)) w := by
  have hs : ∀ W, (sizeOf 30).run Try.prog W = .ok 1 W := fun W => by
    have := info30
    cases hq : Try.prog.info? 30 with
    | none => simp [hq] at this
    | some i => simp [hq] at this; simp [sizeOf, typeInfo, hq, this]
  have hcell := wcells_cell c k h
  have hk : (k : Int) < 64 := by omega
  simp [Instr.index, asIntOf, run_underlying Try.underlying31, part, agg30, hs, hcell, hk]
  intro h'; omega

set_option maxRecDepth 100000 in
set_option maxHeartbeats 2000000 in
theorem isWave_any (n : Int) (c : Nat → Nat × Nat) (w : World) :
    Calls Try.prog 68 #[.agg (warr n c)] w fun e w' => e = .returned (.bool (waveB n c)) ∧ Below w.heap.size w w' := by
  have hbox := heap_alloc_new w (.cells (warr n c) 33)
  obtain ⟨k1, k2, k3⟩ := cells_of hbox
  have c0 := (k1 0).trans (warr_zero n c)
  have hb0 : Below w.heap.size w (w.alloc (.cells (warr n c) 33)) := (Below.refl _ _).alloc (Nat.le_refl _) _
  cases hs : sideB n with
  | false =>
    have hv : waveB n c = false := by simp [waveB, hs]
    rw [hv]
    have Hs := Lib.hid hs
    clear hs hv hbox k1 k2
    go_enter Try.func68, Try.ntmps68
    go_wp2_with (go_at_call 56; refine (isSide_any _ _).mono ?_; rintro e w' ⟨rfl, rfl⟩; rw [Hs.out])
    go_ret
    exact ⟨rfl, hb0⟩
  | true =>
    have hv : waveB n c = (List.range 64).all (cellOk n c) := by simp [waveB, hs]
    rw [hv]
    obtain ⟨g3, g4, g1, g2⟩ : 1 ≤ n ∧ n ≤ 8 ∧ 1 ≤ n * n ∧ n * n ≤ 64 := by rcases sideB_iff.1 hs with rfl | rfl | rfl | rfl <;> omega
    have Hs := Lib.hid hs
    have Hrange := Lib.hid (wave_range hbox)
    have Hbox := Lib.hid hbox
    have hsz64 : (Try.prog.info? 31).map (·.size) = some (wcells c).toList.length := by rw [Array.length_toList, wcells_size]; exact size64
    clear hs hv hbox k1 k2
    go_enter Try.func68, Try.ntmps68
    go_wp2_with (first
      | (go_at_call 56; refine (isSide_any _ _).mono ?_; rintro e w' ⟨rfl, rfl⟩; rw [Hs.out])
      | (with_reducible refine wpList_load_mid rfl 31 (.tmp 9) rfl w.heap.size 1 rfl (wcells c).toList _ Hrange.out Try.underlying31 rfl hsz64 ?_; rw [Array.toArray_toList]))
    go_loopw [11] (fun i wr => ∃ k : Nat, k ≤ 64 ∧ i = .int .i64 k ∧ (List.range k).all (cellOk n c) = true ∧ Below (w.heap.size + 1) (w.alloc (.cells (warr n c) 33)) wr)
      (fun i _ => 64 - (intOf i).toNat)
    case atStart => exact ⟨0, Nat.zero_le _, rfl, by simp, Below.refl _ _⟩
    case round =>
      obtain ⟨k, hk, rfl, hall, hbl⟩ := hrel
      have Hall := Lib.hid hall
      have hbl0 : Below w.heap.size w wr := hb0.trans (hbl.mono (by omega))
      have c0r : wr.cell? ⟨w.heap.size, 0, none⟩ = some (.int .i64 n) := (hbl.cell (p := ⟨w.heap.size, 0, none⟩) (by simp)).trans c0
      clear hall c0
      by_cases hlt : k < 64
      · have hcell := run_index_cells c k hlt
        have hd1 : decide ((k : Int) < 64) = true := by simp; omega
        have Hstep := Lib.hid (all_range_succ (cellOk n c) k)
        cases hf : finC (c k) with
        | false =>
          have hco : cellOk n c k = false := by simp [cellOk, hf]
          have Hco := Lib.hid hco
          have Hf := Lib.hid hf
          clear hco hf
          go_wp2_with fail
          refine (isComplex_any (c k) _).mono ?_
          rintro e w1 ⟨rfl, hb1⟩
          rw [Hf.out]
          go_wp2_with fail
          go_ret
          exact ⟨ret_bool (all_range_false Hco.out hlt).symm, hbl0.trans (hb1.mono hbl0.size)⟩
        | true =>
          have Hf := Lib.hid hf
          go_wp2_with fail
          refine (isComplex_any (c k) _).mono ?_
          rintro e w1 ⟨rfl, hb1⟩
          rw [Hf.out]
          have c0s : w1.cell? ⟨w.heap.size, 0, none⟩ = some (.int .i64 n) := (hb1.cell (p := ⟨w.heap.size, 0, none⟩) (by have := hbl.size; simp at this ⊢; omega)).trans c0r
          have hbl1 : Below w.heap.size w w1 := hbl0.trans (hb1.mono hbl0.size)
          have hbl2 : Below (w.heap.size + 1) (w.alloc (.cells (warr n c) 33)) w1 := hbl.trans (hb1.mono (by have := hbl.size; simp at this; omega))
          clear hf c0r hbl hb1
          by_cases hge : (k : Int) < n * n
          · have hco : cellOk n c k = true := by simp [cellOk, Hf.out, hge]
            have hd2 : decide (n * n ≤ (k : Int)) = false := by simpa using hge
            have Hco := Lib.hid hco
            clear hco
            go_wp2_with fail
            go_roundw
            case rel => exact ⟨k + 1, by omega, by go_num, by rw [Hstep.out, Hall.out, Hco.out]; rfl, hbl2⟩
            case measure => simp [intOf]; omega
          · have hd2 : decide (n * n ≤ (k : Int)) = true := by simp; omega
            cases hz : zC (c k) with
            | true =>
              have hco : cellOk n c k = true := by simp [cellOk, Hf.out, hz]
              have Hco := Lib.hid hco
              clear hco
              unfold zC zF at hz
              simp only [Bool.and_eq_true] at hz
              obtain ⟨z1, z2⟩ := hz
              go_wp2_with fail
              go_roundw
              case rel => exact ⟨k + 1, by omega, by go_num, by rw [Hstep.out, Hall.out, Hco.out]; rfl, hbl2⟩
              case measure => simp [intOf]; omega
            | false =>
              have hco : cellOk n c k = false := by simp [cellOk, hz, hge]
              have Hco := Lib.hid hco
              clear hco
              unfold zC zF at hz
              go_wp2_with fail
              go_ret
              exact ⟨ret_bool (all_range_false Hco.out hlt).symm, hbl1⟩
      · have hke : k = 64 := by omega
        have Hke := Lib.hid hke
        have hd1 : decide ((k : Int) < 64) = false := by simp; omega
        clear hke
        go_wp2_with fail
        go_ret
        exact ⟨ret_bool (by rw [← Hke.out, Hall.out]), hbl0⟩

set_option maxRecDepth 100000 in
set_option maxHeartbeats 2000000 in
theorem l01Is_any (n : Int) (c : Nat → Nat × Nat) (w : World) :
    Calls Try.prog 71 #[.agg (warr n c)] w fun e w' => e = .returned (.bool (waveB n c)) ∧ Below w.heap.size w w' := by
  have hbox := heap_alloc_new w (.cells (warr n c) 33)
  obtain ⟨k1, k2, k3⟩ := cells_of hbox
  have c0 := (k1 0).trans (warr_zero n c)
  have hb0 : Below w.heap.size w (w.alloc (.cells (warr n c) 33)) := (Below.refl _ _).alloc (Nat.le_refl _) _
  cases hs : sideB n with
  | false =>
    have hv : waveB n c = false := by simp [waveB, hs]
    rw [hv]
    have Hs := Lib.hid hs
    clear hs hv hbox k1 k2
    go_enter Try.func71, Try.ntmps71
    go_wp2_with (go_at_call 38; refine (l01Side_any _ _).mono ?_; rintro e w' ⟨rfl, rfl⟩; rw [Hs.out])
    go_ret
    exact ⟨rfl, hb0⟩
  | true =>
    have hv : waveB n c = (List.range 64).all (cellOk n c) := by simp [waveB, hs]
    rw [hv]
    obtain ⟨g3, g4, g1, g2⟩ : 1 ≤ n ∧ n ≤ 8 ∧ 1 ≤ n * n ∧ n * n ≤ 64 := by rcases sideB_iff.1 hs with rfl | rfl | rfl | rfl <;> omega
    have Hs := Lib.hid hs
    have Hbox := Lib.hid hbox
    clear hs hv hbox k1 k2
    go_enter Try.func71, Try.ntmps71
    go_wp2_with (go_at_call 38; refine (l01Side_any _ _).mono ?_; rintro e w' ⟨rfl, rfl⟩; rw [Hs.out])
    go_loopw [3] (fun i wr => ∃ k : Nat, k ≤ 64 ∧ i = .int .i64 k ∧ (List.range k).all (cellOk n c) = true ∧ Below (w.heap.size + 1) (w.alloc (.cells (warr n c) 33)) wr)
      (fun i _ => 64 - (intOf i).toNat)
    case atStart => exact ⟨0, Nat.zero_le _, rfl, by simp, Below.refl _ _⟩
    case round =>
      obtain ⟨k, hk, rfl, hall, hbl⟩ := hrel
      have Hall := Lib.hid hall
      have hbl0 : Below w.heap.size w wr := hb0.trans (hbl.mono (by omega))
      have c0r : wr.cell? ⟨w.heap.size, 0, none⟩ = some (.int .i64 n) := (hbl.cell (p := ⟨w.heap.size, 0, none⟩) (by simp)).trans c0
      clear hall c0
      by_cases hlt : k < 64
      · have hcr : wr.cell? ⟨w.heap.size, 1 + k, none⟩ = some (cx (c k)) := by
          rw [hbl.cell (p := ⟨w.heap.size, 1 + k, none⟩) (by simp), (cells_of Hbox.out).1]; exact warr_cell n c k hlt
        have hd1 : decide ((k : Int) < 64) = true := by simp; omega
        have Hstep := Lib.hid (all_range_succ (cellOk n c) k)
        cases hf : finC (c k) with
        | false =>
          have hco : cellOk n c k = false := by simp [cellOk, hf]
          have Hco := Lib.hid hco
          have Hf := Lib.hid hf
          clear hco hf
          go_wp2_with fail
          refine (l01Whole_any (c k) _).mono ?_
          rintro e w1 ⟨rfl, hb1⟩
          rw [Hf.out]
          go_wp2_with fail
          go_ret
          exact ⟨ret_bool (all_range_false Hco.out hlt).symm, hbl0.trans (hb1.mono hbl0.size)⟩
        | true =>
          have Hf := Lib.hid hf
          go_wp2_with fail
          refine (l01Whole_any (c k) _).mono ?_
          rintro e w1 ⟨rfl, hb1⟩
          rw [Hf.out]
          have c0s : w1.cell? ⟨w.heap.size, 0, none⟩ = some (.int .i64 n) := (hb1.cell (p := ⟨w.heap.size, 0, none⟩) (by have := hbl.size; simp at this ⊢; omega)).trans c0r
          have hcs : w1.cell? ⟨w.heap.size, 1 + k, none⟩ = some (cx (c k)) := (hb1.cell (p := ⟨w.heap.size, 1 + k, none⟩) (by have := hbl.size; simp at this ⊢; omega)).trans hcr
          have hbl1 : Below w.heap.size w w1 := hbl0.trans (hb1.mono hbl0.size)
          have hbl2 : Below (w.heap.size + 1) (w.alloc (.cells (warr n c) 33)) w1 := hbl.trans (hb1.mono (by have := hbl.size; simp at this; omega))
          clear hf c0r hbl hb1 hcr
          by_cases hge : (k : Int) < n * n
          · have hco : cellOk n c k = true := by simp [cellOk, Hf.out, hge]
            have hd2 : decide (n * n ≤ (k : Int)) = false := by simpa using hge
            have Hco := Lib.hid hco
            clear hco
            go_wp2_with fail
            go_roundw
            case rel => exact ⟨k + 1, by omega, by go_num, by rw [Hstep.out, Hall.out, Hco.out]; rfl, hbl2⟩
            case measure => simp [intOf]; omega
          · have hd2 : decide (n * n ≤ (k : Int)) = true := by simp; omega
            cases hz : zC (c k) with
            | true =>
              have hco : cellOk n c k = true := by simp [cellOk, Hf.out, hz]
              have Hco := Lib.hid hco
              clear hco
              unfold zC zF at hz
              simp only [Bool.and_eq_true] at hz
              obtain ⟨z1, z2⟩ := hz
              go_wp2_with fail
              go_roundw
              case rel => exact ⟨k + 1, by omega, by go_num, by rw [Hstep.out, Hall.out, Hco.out]; rfl, hbl2⟩
              case measure => simp [intOf]; omega
            | false =>
              have hco : cellOk n c k = false := by simp [cellOk, hz, hge]
              have Hco := Lib.hid hco
              clear hco
              unfold zC zF at hz
              go_wp2_with fail
              go_ret
              exact ⟨ret_bool (all_range_false Hco.out hlt).symm, hbl1⟩
      · have hke : k = 64 := by omega
        have Hke := Lib.hid hke
        have hd1 : decide ((k : Int) < 64) = false := by simp; omega
        clear hke
        go_wp2_with fail
        go_ret
        exact ⟨ret_bool (by rw [← Hke.out, Hall.out]), hbl0⟩

end Go.Proofs.Ytlfcgbhjmdmocaa
