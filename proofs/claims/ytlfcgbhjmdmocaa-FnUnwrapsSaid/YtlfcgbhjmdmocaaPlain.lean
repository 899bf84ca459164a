/- plainNumber, plainComplex, plain of waves; flat waves. -/
import Derived.Test.YtlfcgbhjmdmocaaWaveBy
namespace Go.Proofs.Ytlfcgbhjmdmocaa
open Go.RowKit

/-- Zero without its sign. -/
def plainF (x : Nat) : Nat := if zF x then 0 else x
def plainC (z : Nat × Nat) : Nat × Nat := (plainF z.1, plainF z.2)

theorem plainNumber_any (x : Nat) (w : World) :
    Calls Try.prog 61 #[.float .f32 x] w fun e w' => e = .returned (.float .f32 (plainF x)) ∧ w = w' := by
  go_enter Try.func61, Try.ntmps61
  go_wp2
  all_goals go_ret
  · rename_i h
    exact ⟨by simp [plainF, zF, h], rfl⟩
  · rename_i h
    exact ⟨by simp [plainF, zF, h], rfl⟩

theorem plainComplex_any (z : Nat × Nat) (w : World) :
    Calls Try.prog 62 #[cx z] w fun e w' => e = .returned (cx (plainC z)) ∧ w = w' := by
  obtain ⟨x, y⟩ := z
  unfold cx plainC
  go_enter Try.func62, Try.ntmps62
  go_wp2_with (go_at_call 61; refine (plainNumber_any _ _).mono ?_; rintro e w' ⟨rfl, rfl⟩)
  go_ret
  exact ⟨rfl, rfl⟩

/-- The first k cells plain. -/
def mixed (k : Nat) (F : Nat × Nat → Nat × Nat) (c : Nat → Nat × Nat) : Nat → Nat × Nat := fun i => if i < k then F (c i) else c i
theorem mixed_succ (k : Nat) (F : Nat × Nat → Nat × Nat) (c : Nat → Nat × Nat) : upd (mixed k F c) k (F (c k)) = mixed (k + 1) F c := by
  funext i
  simp only [upd, mixed]
  by_cases h : i = k
  · subst h; simp
  · by_cases h2 : i < k
    · rw [if_neg h, if_pos h2, if_pos (by omega)]
    · rw [if_neg h, if_neg h2, if_neg (by omega)]
theorem mixed_zero (F : Nat × Nat → Nat × Nat) (c : Nat → Nat × Nat) : mixed 0 F c = c := by funext i; simp [mixed]
theorem mixed_all (n : Int) (F : Nat × Nat → Nat × Nat) (c : Nat → Nat × Nat) : warr n (mixed 64 F c) = warr n fun i => F (c i) :=
  warr_ext fun i hi => by simp [mixed, hi]

theorem as_wave_f (v : Value) (w : World) : (Instr.typeAssert (.iface 77 v) 20 78 true).run Try.prog w = .ok (.tuple #[.pointer none, .bool false]) w := by kernel_rfl
theorem as_wave_c (v : Value) (w : World) : (Instr.typeAssert (.iface 77 v) 20 81 true).run Try.prog w = .ok (.tuple #[.pointer none, .bool false]) w := by kernel_rfl
theorem as_wave_w (v : Value) (w : World) : (Instr.typeAssert (.iface 77 v) 20 77 true).run Try.prog w = .ok (.tuple #[v, .bool true]) w := by kernel_rfl

set_option maxRecDepth 100000 in
set_option maxHeartbeats 2000000 in
theorem plainWave_any (n : Int) (c : Nat → Nat × Nat) (w : World) :
    Calls Try.prog 35 #[.agg (warr n c)] w (WavePost w n fun i => plainC (c i)) := by
  have hz0 := heap_alloc2_old w (.cells (warr n c) 33) (.cells Try.zeroCells33 33)
  have hz1 := heap_alloc2_new w (.cells (warr n c) 33) (.cells Try.zeroCells33 33)
  have hzs : Try.zeroCells33.size = 65 := by rw [zero_wave, warr_size]
  have Hz0 := Lib.hid hz0
  have Hz1 := Lib.hid hz1
  have Hzs := Lib.hid hzs
  have Hrange := Lib.hid (wave_range hz0)
  have hsz64 : (Try.prog.info? 31).map (·.size) = some (wcells c).toList.length := by rw [Array.length_toList, wcells_size]; exact size64
  clear hz0 hz1 hzs
  have a1 := as_wave_f
  have a2 := as_wave_c
  have a3 := as_wave_w
  go_enter Try.func35, Try.ntmps35
  go_wp2_with (with_reducible refine wpList_load_mid rfl 31 (.tmp 41) rfl w.heap.size 1 rfl (wcells c).toList _ Hrange.out Try.underlying31 rfl hsz64 ?_; rw [Array.toArray_toList])
  go_loopw [43] (fun i wr => ∃ k : Nat, k ≤ 64 ∧ i = .int .i64 k ∧ wr.heap[w.heap.size]? = some (.cells (warr n (mixed k plainC c)) 33 (0, 0)) ∧
      wr.heap[w.heap.size + 1]? = some (.cells Try.zeroCells33 33 (0, 0)) ∧ Below w.heap.size w wr)
    (fun i _ => 64 - (intOf i).toNat)
  case atStart => exact ⟨0, Nat.zero_le _, rfl, by rw [mixed_zero]; exact Hz0.out, Hz1.out, ((Below.refl _ _).alloc (Nat.le_refl _) _).alloc (by simp) _⟩
  case round =>
    obtain ⟨k, hk, rfl, h2, h1, hbl⟩ := hrel
    have H2 := Lib.hid h2
    have H1 := Lib.hid h1
    have hlt2 := lt_of_block h2
    by_cases hlt : k < 64
    · have hd : decide ((k : Int) < 64) = true := by simp; omega
      have hk64 : (k : Int) < 64 := by omega
      obtain ⟨q1, q2, q3⟩ := cells_of h2
      have c1 := (q1 (1 + k)).trans (warr_cell _ _ k (by omega))
      simp only [cx] at c1
      have f1 := q2 (1 + k)
      have hcell := run_index_cells c k hlt
      clear q1 q2 q3 h2 h1 a1 a2 a3
      go_wp2_with fail
      go_region_with (refine (plainComplex_any (c k) _).mono ?_; rintro e w1 ⟨rfl, rfl⟩)
      go_wp2_with fail
      refine ⟨?_, ?_⟩
      · refine ⟨k + 1, hlt, by simp, ?_, ?_, (hbl.setCell (by simp) _).drew⟩
        · show (World.setCell _ _ _).heap[_]? = _
          rw [heap_setCell_same _ _ _ _ _ _ (by exact H2.out), show Value.complex FloatKind.f32 (plainC (c k)).fst (plainC (c k)).snd = cx (plainC (c k)) from rfl, warr_set _ _ _ _ (by omega), mixed_succ]
        · show (World.setCell _ _ _).heap[_]? = _
          rw [heap_setCell_other _ _ _ _ (by simp)]; exact H1.out
      · simp [intOf]; omega
    · obtain rfl : k = 64 := by omega
      go_wp2_with (first | (with_reducible refine wpList_load_wave rfl (.tmp 1) rfl _ rfl _ _ _ _ H2.out ?_) | (with_reducible refine wpList_store_wave rfl (.tmp 2) (.tmp 124) rfl (w.heap.size + 1) rfl n (mixed 64 plainC c) _ rfl rfl _ _ H1.out Hzs.out ?_))
      intro w3 hh3 hsm3
      go_wp2_with fail
      refine bodyPost_ret (results_cell_row rfl _ _ (w.heap.size + 1) _ _ _ _ rfl hh3 Try.underlying33 rfl (by rw [warr_size]; exact size65)) rfl ⟨by rw [mixed_all], ?_⟩
      exact hbl.trans (hsm3.below (by exact hbl.size) (fun k hk e => by omega))

theorem flat1_any (z : Nat × Nat) (g : Nat) (a b c : Value) (w : World) (t : TypeId) (hg : w.heap[g]? = some (.cells #[cx z] t (0, 0))) :
    Calls Try.prog 60 #[a, b, c, .pointer (some ⟨g, 0, none⟩)] w fun e w' => e = .returned (cx z) ∧ w = w' := by
  obtain ⟨k1, k2, k3⟩ := cells_of hg
  have c0 := k1 0
  unfold cx at c0 ⊢
  simp at c0
  clear k1 k2 hg
  go_enter Try.func60, Try.ntmps60
  go_wp2_with fail
  go_ret
  exact ⟨rfl, rfl⟩

theorem results_row_tmp {P : Program} {fn : Func} {p u : Tmp} {ty : TypeId} (h : fn.results = #[.cell p ty, .tmp u]) (tmps : Array Value) (w : World) (g : Nat) (t : TypeId) (cs : Array Value) (fr : Nat × Nat) (d : TypeDesc)
    (hp : tmps.getD p undef = .pointer (some ⟨g, 0, none⟩)) (hg : w.heap[g]? = some (.cells cs t fr))
    (hu : P.underlying ty = some d) (hd : (match d with | .struct _ | .array _ _ => true | _ => false) = true) (hi : (P.info? ty).map (·.size) = some cs.size) :
    (results fn tmps).run P w = .ok (.tuple #[.agg cs, tmps.getD u undef]) w := by
  have hp' : tmps[p]?.getD undef = .pointer (some ⟨g, 0, none⟩) := by simpa using hp
  simp [results, h, hp', asAddr, run_loadVar_row w g t ty cs fr d hg hu hd hi]

theorem wave_info (n : Int) (c : Nat → Nat × Nat) : (Try.prog.info? 33).map (·.size) = some (warr n c).size := by rw [warr_size]; exact size65

theorem flat1_tells (m : Nat) (z : Nat × Nat) (g : Nat) (t : TypeId) (w : World) (hg : w.heap[g]? = some (.cells #[cx z] t (0, 0))) :
    Tells 60 #[.pointer (some ⟨g, 0, none⟩)] m (fun _ => z) w where
  enter := enters Try.func60 (by kernel_rfl) rfl
  says := fun i y x W hi hy hx hb => by
    refine (flat1_any z g _ _ _ W t ((hb.block _ (lt_of_block hg)).trans hg)).mono ?_
    rintro e w' ⟨rfl, rfl⟩
    exact ⟨rfl, Below.refl _ _⟩

set_option maxRecDepth 100000 in
set_option maxHeartbeats 2000000 in
theorem signedFlatWave_any (m : Nat) (hm : sideB (m : Int) = true) (z : Nat × Nat) (hz : finC z = true) (w : World) :
    Calls Try.prog 34 #[.int .i64 (m : Int), cx z] w fun e w' => e = .returned (.tuple #[.agg (warr (m : Int) (upto (m * m) fun _ => z)), .int .i64 0]) ∧ Below w.heap.size w w' := by
  have Hm := Lib.hid hm
  have Hz := Lib.hid hz
  have hz0 := heap_alloc2_old w (.cells #[cx z] 30) (.cells Try.zeroCells33 33)
  have hz1 := heap_alloc2_new w (.cells #[cx z] 30) (.cells Try.zeroCells33 33)
  obtain ⟨k1, k2, k3⟩ := cells_of hz0
  have c0 := k1 0
  unfold cx at c0 ⊢
  simp at c0
  have Hz0 := Lib.hid hz0
  have Hz1 := Lib.hid hz1
  clear hz hm k1 k2 hz0 hz1
  go_enter Try.func34, Try.ntmps34
  go_wp2_with (first
    | (go_at_call 56; refine (isSide_any _ _).mono ?_; rintro e w' ⟨rfl, rfl⟩; rw [Hm.out])
    | (go_at_call 58; refine (isComplex_any z _).mono ?_; rintro e w1 ⟨rfl, hb1⟩; rw [Hz.out]))
  have H0 := Lib.hid ((hb1.block _ (by simp; omega)).trans Hz0.out)
  have H1 := Lib.hid ((hb1.block _ (by simp)).trans Hz1.out)
  have hbl1 : Below w.heap.size w w1 := (((Below.refl _ _).alloc (Nat.le_refl _) _).alloc (by simp) _).trans (hb1.mono (by simp; omega))
  refine (waveBy_any m Hm.out _ _ (fun _ => z) w1 (flat1_tells m z _ _ w1 H0.out)).mono ?_
  rintro e w2 ⟨rfl, hb2⟩
  have hzs : Try.zeroCells33.size = 65 := by rw [zero_wave, warr_size]
  have hbl2 := hbl1.trans (hb2.mono hbl1.size)
  go_wp2_with (with_reducible refine wpList_store_wave rfl (.tmp 4) (.tmp 18) rfl (w.heap.size + 1) rfl (m : Int) (upto (m * m) fun _ => z) _ rfl rfl _ _ ((hb2.block _ (lt_of_block H1.out)).trans H1.out) hzs ?_)
  intro w3 hh3 hsm3
  go_wp2_with fail
  refine bodyPost_ret (results_row_tmp rfl _ _ (w.heap.size + 1) _ _ _ _ rfl hh3 Try.underlying33 rfl (wave_info _ _)) rfl ⟨rfl, ?_⟩
  exact hbl2.trans (hsm3.below hbl2.size (fun k hk e => by omega))

set_option maxRecDepth 100000 in
set_option maxHeartbeats 2000000 in
theorem flatWave_any (m : Nat) (hm : sideB (m : Int) = true) (z : Nat × Nat) (hz : finC z = true) (w : World) :
    Calls Try.prog 12 #[.int .i64 (m : Int), cx z] w fun e w' => e = .returned (.tuple #[.agg (warr (m : Int) fun i => plainC (upto (m * m) (fun _ => z) i)), .int .i64 0]) ∧ Below w.heap.size w w' := by
  have Hm := Lib.hid hm
  have Hz := Lib.hid hz
  have h0 := heap_alloc_new w (.cells Try.zeroCells33 33)
  have H0 := Lib.hid h0
  clear hz hm h0
  go_enter Try.func12, Try.ntmps12
  go_wp2_with (first
    | (go_at_call 34; refine (signedFlatWave_any m Hm.out z Hz.out _).mono ?_; rintro e w1 ⟨rfl, hb1⟩; generalize hW : upto (m * m) (fun _ => z) = cc)
    | (with_reducible refine wpList_store_wave rfl (.tmp 6) (.tmp 12) rfl _ rfl (m : Int) _ _ rfl rfl _ _ (heap_alloc_new _ _) (by rw [zero_wave, warr_size]) ?_))
  intro w2 hh2 hsm2
  have hbl1 : Below w.heap.size w w1 := ((Below.refl _ _).alloc (Nat.le_refl _) _).trans (hb1.mono (by simp))
  have hlt1 : w.heap.size < w1.heap.size := by have := hb1.size; simp at this; omega
  have hbl2 : Below w.heap.size w w2 := (hbl1.alloc (by omega) _).trans (hsm2.below (by simp; omega) (fun k hk e => by omega))
  have hold : w2.heap[w.heap.size]? = some (.cells Try.zeroCells33 33 (0, 0)) :=
    (hsm2.block _ (by simp; omega) (by omega)).trans ((heap_alloc_old w1 _ hlt1).trans ((hb1.block _ (by simp)).trans H0.out))
  have Hh2 := Lib.hid hh2
  have Hold := Lib.hid hold
  clear hh2 hold hsm2
  go_wp2_with (with_reducible refine wpList_load_wave rfl (.tmp 6) rfl _ rfl _ _ _ _ Hh2.out ?_)
  refine (plainWave_any _ _ _).mono ?_
  rintro e w3 ⟨rfl, hb3⟩
  have Hold3 := Lib.hid ((hb3.block _ (lt_of_block Hold.out)).trans Hold.out)
  have hbl3 := hbl2.trans (hb3.mono hbl2.size)
  go_wp2_with (with_reducible refine wpList_store_wave rfl (.tmp 4) (.tmp 15) rfl (w.heap.size) rfl (m : Int) (fun i => plainC (cc i)) _ rfl rfl _ _ Hold3.out (by rw [zero_wave, warr_size]) ?_)
  intro w4 hh4 hsm4
  go_wp2_with fail
  refine bodyPost_ret (results_row_tmp rfl _ _ (w.heap.size) _ _ _ _ rfl hh4 Try.underlying33 rfl (wave_info _ _)) rfl ⟨by subst hW; rfl, ?_⟩
  exact hbl3.trans (hsm4.below hbl3.size (fun k hk e => by omega))
end Go.Proofs.Ytlfcgbhjmdmocaa
