/- Waves in memory; waveBy. -/
import Derived.Test.YtlfcgbhjmdmocaaIsMask
import Derived.Deep.RegionWith
namespace Go.Proofs.Ytlfcgbhjmdmocaa
open Go.RowKit

@[go_sem] theorem run_store_complex (P : Program) (w : World) (a : Addr) (m : Mode) (k : FloatKind) (x y : Nat) : (store a (.complex k x y) m).run P w = stored P w a (.complex k x y) m := run_store P w a _ m rfl
@[go_sem] theorem run_store_float (P : Program) (w : World) (a : Addr) (m : Mode) (k : FloatKind) (x : Nat) : (store a (.float k x) m).run P w = stored P w a (.float k x) m := run_store P w a _ m rfl

/-- The zero numbers. -/
def zc : Nat → Nat × Nat := fun _ => (0, 0)

theorem zero_wave : Try.zeroCells33 = warr 0 zc := by kernel_rfl
theorem zero_set (n : Int) : Try.zeroCells33.setIfInBounds 0 (.int .i64 n) = warr n zc := by
  rw [zero_wave]; unfold warr; simp

theorem Same.setRow {w : World} (g : Nat) (cs : Array Value) : Same (· = g) w (w.setRow g cs) :=
  ⟨rfl, rfl, rfl, by simp, fun k _ hs => setRow_other w g k cs hs⟩

/-- A whole wave stored into a variable. -/
theorem wpList_store_wave {ops : Array Oper} {rest : List Oper} {o : Oper} {a : Act} {w : World} {Q : Exit → Act → World → Prop} (hgd : o.guard = none) (x y : Operand) (ho : o.op = .store 33 x y)
    (g : Nat) (hx : a.eval x = .pointer (some ⟨g, 0, none⟩)) (n : Int) (c : Nat → Nat × Nat) (cs : Array Value) (hy : a.eval y = .agg cs) (hcs : cs = warr n c) (old : Array Value) (t : TypeId) (hg : w.heap[g]? = some (.cells old t (0, 0))) (hold : old.size = 65)
    (h : ∀ w', w'.heap[g]? = some (.cells (warr n c) t (0, 0)) → Same (· = g) w w' → wpList Try.prog ops Q rest (a.put o.dst undef) w') : wpList Try.prog ops Q (o :: rest) a w := by
  subst hcs
  refine wpList_plain hgd fun _ hK => ?_
  unfold Oper.wp execOp
  simp only [ho, hx, hy, Instr.storeAt, Instr.sureAddr, Sem.run_bind, Sem.run_pure, Result.andThen_ok,
    run_storeVar_row (P := Try.prog) w g t 33 old (warr n c) hg (by rw [warr_size]; exact size65) (by rw [warr_size]; exact hold) (warr_one n c)]
  exact hK _ _ (h _ (setRow_heap w g old _ t _ hg) (Same.setRow g _))

/-- A whole wave loaded. -/
theorem wpList_load_wave {ops : Array Oper} {rest : List Oper} {o : Oper} {a : Act} {w : World} {Q : Exit → Act → World → Prop} (hgd : o.guard = none) (x : Operand) (ho : o.op = .load 33 x)
    (g : Nat) (hx : a.eval x = .pointer (some ⟨g, 0, none⟩)) (n : Int) (c : Nat → Nat × Nat) (t : TypeId) (fr : Nat × Nat) (hg : w.heap[g]? = some (.cells (warr n c) t fr))
    (h : wpList Try.prog ops Q rest (a.put o.dst (.agg (warr n c))) w) : wpList Try.prog ops Q (o :: rest) a w :=
  wpList_load_row hgd 33 x ho g hx t (warr n c) fr _ hg Try.underlying33 rfl (by rw [warr_size]; exact size65) h

/-- A function value that tells the cells, with what it captured. -/
structure Tells (fid : Nat) (caps : Array Value) (n : Nat) (G : Nat → Nat × Nat) (w : World) : Prop where
  enter : ∀ (args : Array Value) (W : World), (callFunc fid args).run Try.prog W = .ok (.enter fid args) W
  says : ∀ (i : Nat) (y x : Int) (W : World), i < n * n → y = ((i / n : Nat) : Int) → x = ((i % n : Nat) : Int) → Below w.heap.size w W →
    Calls Try.prog fid (#[.int .i64 y, .int .i64 x, .int .i64 (i : Int)] ++ caps) W fun e W' => e = .returned (.complex .f32 (G i).1 (G i).2) ∧ Below W.heap.size W W'

/-- The first k cells. -/
def upto (k : Nat) (G : Nat → Nat × Nat) : Nat → Nat × Nat := fun i => if i < k then G i else (0, 0)
theorem upto_succ (k : Nat) (G : Nat → Nat × Nat) : upd (upto k G) k (G k) = upto (k + 1) G := by
  funext i
  simp only [upd, upto]
  by_cases h : i = k
  · subst h; simp
  · by_cases h2 : i < k
    · rw [if_neg h, if_pos h2, if_pos (by omega)]
    · rw [if_neg h, if_neg h2, if_neg (by omega)]
theorem upto_zero (G : Nat → Nat × Nat) : upto 0 G = zc := by funext i; simp [upto, zc]

def WavePost (w : World) (n : Int) (c : Nat → Nat × Nat) (e : Ending) (w' : World) : Prop := e = .returned (.agg (warr n c)) ∧ Below w.heap.size w w'

set_option maxRecDepth 100000 in
set_option maxHeartbeats 2000000 in
theorem waveBy_any (m : Nat) (hm : sideB (m : Int) = true) (fid : Nat) (caps : Array Value) (G : Nat → Nat × Nat) (w : World) (hf : Tells fid caps m G w) :
    Calls Try.prog 59 #[.int .i64 (m : Int), .func (.func fid) #[] caps] w (WavePost w (m : Int) (upto (m * m) G)) := by
  obtain ⟨g3, g4, g1, g2⟩ : 1 ≤ (m : Int) ∧ (m : Int) ≤ 8 ∧ 1 ≤ (m : Int) * m ∧ (m : Int) * m ≤ 64 := by rcases sideB_iff.1 hm with h | h | h | h <;> rw [h] <;> omega
  clear hm
  have hent := hf.enter
  have hz0 := heap_alloc2_old w (.cells Try.zeroCells33 33) (.cells Try.zeroCells33 33)
  have hz1 := heap_alloc2_new w (.cells Try.zeroCells33 33) (.cells Try.zeroCells33 33)
  have hzs : Try.zeroCells33.size = 65 := by rw [zero_wave, warr_size]
  have Hz0 := Lib.hid hz0
  have Hz1 := Lib.hid hz1
  have Hzs := Lib.hid hzs
  clear hz0 hz1 hzs
  go_enter Try.func59, Try.ntmps59
  go_wp2_with (with_reducible refine wpList_store_wave rfl (.tmp 5) (.tmp 8) rfl (w.heap.size + 1) rfl (m : Int) zc _ rfl (zero_set _) _ _ Hz1.out Hzs.out ?_)
  intro w2 hh2 hsm2
  have hh1 : w2.heap[w.heap.size]? = some (.cells Try.zeroCells33 33 (0, 0)) := (hsm2.block _ (by simp; omega) (by omega)).trans Hz0.out
  have hbl2 : Below w.heap.size w w2 := ((Below.refl _ _).alloc (Nat.le_refl _) _ |>.alloc (by simp) _).trans (hsm2.below (by simp; omega) (fun k hk e => by omega))
  clear hsm2
  have Hh2 := Lib.hid hh2
  have Hh1 := Lib.hid hh1
  clear hh2 hh1
  go_wp2_with fail
  go_loopw [12] (fun i wr => ∃ k : Nat, k ≤ m * m ∧ i = .int .i64 k ∧ wr.heap[w.heap.size + 1]? = some (.cells (warr (m : Int) (upto k G)) 33 (0, 0)) ∧
      wr.heap[w.heap.size]? = some (.cells Try.zeroCells33 33 (0, 0)) ∧ Below w.heap.size w wr)
    (fun i _ => m * m - (intOf i).toNat)
  case atStart => exact ⟨0, Nat.zero_le _, rfl, by rw [upto_zero]; exact Hh2.out, Hh1.out, hbl2⟩
  case round =>
    clear hbl2
    obtain ⟨k, hk, rfl, h2, h1, hbl⟩ := hrel
    have H2 := Lib.hid h2
    have H1 := Lib.hid h1
    have hlt2 := lt_of_block h2
    have hmm : ((m * m : Nat) : Int) = (m : Int) * m := by simp
    have hk' : (k : Int) ≤ (m : Int) * m := by omega
    have hm64 : m * m ≤ 64 := by omega
    by_cases hlt : k < m * m
    · have hd : decide ((k : Int) < (m : Int) * m) = true := by simp; omega
      obtain ⟨q1, q2, q3⟩ := cells_of h2
      have c1 := (q1 (1 + k)).trans (warr_cell _ _ k (by omega))
      simp only [cx] at c1
      have f1 := q2 (1 + k)
      clear q1 q2 q3 h2 h1 hmm
      have hm0 : 0 < m := by omega
      have j0 : (k : Int).tdiv m = ((k / m : Nat) : Int) := by rw [Int.tdiv_eq_ediv_of_nonneg (by omega)]; simp
      have j1 : (k : Int).tmod m = ((k % m : Nat) : Int) := by rw [Int.tmod_eq_emod_of_nonneg (by omega)]; simp
      have j2 : k / m ≤ 64 := Nat.le_trans (Nat.div_le_self _ _) (by omega)
      have j3 : k % m < m := Nat.mod_lt _ hm0
      have hk64 : (k : Int) < 64 := by omega
      have hne0 : ¬ (m : Int) = 0 := by omega
      have J5 : wrap64 ((k : Int) / (m : Int)) = ((k / m : Nat) : Int) := by
        have e : (k : Int) / (m : Int) = ((k / m : Nat) : Int) := by simp
        rw [e]; generalize hz : k / m = z at j2; clear e hz; unfold wrap64; omega
      have j6 : IntKind.i64.wrap ((k : Int) / (m : Int)) = (k : Int) / (m : Int) := by
        have e : (k : Int) / (m : Int) = ((k / m : Nat) : Int) := by simp
        rw [e]; generalize hz : k / m = z at j2; clear e hz; exact IntWalk.i64_in _ (by omega)
      have J5 := Lib.hid J5
      go_wp2_with fail
      go_region_with (refine (hf.says k _ _ _ hlt (by first | exact j0 | exact J5.out | simp [*]) (by first | exact j1 | simp [*]) (hbl.drew)).mono ?_; rintro e w1 ⟨rfl, hb1⟩; have c1b := (hb1.cell (p := ⟨w.heap.size + 1, 1 + k, none⟩) hlt2).trans c1; have f1b := (hb1.frozen (p := ⟨w.heap.size + 1, 1 + k, none⟩) hlt2).trans f1)
      all_goals (
        have H2b := (hb1.block _ (by exact hlt2)).trans H2.out
        have H1b := (hb1.block _ (by exact lt_of_block H1.out)).trans H1.out
        go_wp2_with fail
        refine ⟨?_, ?_⟩
        · refine ⟨k + 1, hlt, by simp, ?_, ?_, (hbl.drew.trans (hb1.mono (by exact hbl.size))).setCell (by simp) _⟩
          · rw [heap_setCell_same _ _ _ _ _ _ H2b, show Value.complex FloatKind.f32 (G k).fst (G k).snd = cx (G k) from rfl, warr_set _ _ _ _ (by omega), upto_succ]
          · rw [heap_setCell_other _ _ _ _ (by simp)]; exact H1b
        · simp [intOf]; omega)
    · obtain rfl : k = m * m := by omega
      have hd : decide (((m * m : Nat) : Int) < (m : Int) * m) = false := by simp
      go_wp2_with (first | (with_reducible refine wpList_load_wave rfl (.tmp 5) rfl _ rfl _ _ _ _ H2.out ?_) | (with_reducible refine wpList_store_wave rfl (.tmp 4) (.tmp 28) rfl (w.heap.size) rfl (m : Int) (upto (m * m) G) _ rfl rfl _ _ H1.out Hzs.out ?_))
      intro w3 hh3 hsm3
      go_wp2_with fail
      refine bodyPost_ret (results_cell_row rfl _ _ w.heap.size _ _ _ _ rfl hh3 Try.underlying33 rfl (by rw [warr_size]; exact size65)) rfl ⟨rfl, ?_⟩
      exact hbl.trans (hsm3.below (by exact hbl.size) (fun k hk e => by omega))

end Go.Proofs.Ytlfcgbhjmdmocaa
