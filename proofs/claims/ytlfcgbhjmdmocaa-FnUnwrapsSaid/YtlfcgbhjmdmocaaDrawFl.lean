/- DrawUnwrapFlood. -/
import Derived.Test.YtlfcgbhjmdmocaaSpoil
namespace Go.Proofs.Ytlfcgbhjmdmocaa
open Go.RowKit

theorem results_row_mid {P : Program} {fn : Func} {a b p u v : Tmp} {ty : TypeId} (h : fn.results = #[.tmp a, .tmp b, .cell p ty, .tmp u, .tmp v]) (tmps : Array Value) (w : World) (g : Nat) (t : TypeId) (cs : Array Value) (fr : Nat × Nat) (d : TypeDesc)
    (hp : tmps.getD p undef = .pointer (some ⟨g, 0, none⟩)) (hg : w.heap[g]? = some (.cells cs t fr))
    (hu : P.underlying ty = some d) (hd : (match d with | .struct _ | .array _ _ => true | _ => false) = true) (hi : (P.info? ty).map (·.size) = some cs.size) :
    (results fn tmps).run P w = .ok (.tuple #[tmps.getD a undef, tmps.getD b undef, .agg cs, tmps.getD u undef, tmps.getD v undef]) w := by
  have hp' : tmps[p]?.getD undef = .pointer (some ⟨g, 0, none⟩) := by simpa using hp
  simp [results, h, hp', asAddr, run_loadVar_row w g t ty cs fr d hg hu hd hi]

def FloodDraw (w : World) (e : Ending) (w' : World) : Prop :=
  ∃ n zs g cap mn c y x, e = .returned (.tuple #[.int .i64 n, .slice (some ⟨g, 0, none⟩) (List.length zs) cap, .agg (warr mn c), .int .i64 y, .int .i64 x]) ∧
    -16 ≤ n ∧ n ≤ 16 ∧ 1 ≤ zs.length ∧ zs.length ≤ 65 ∧ w.heap.size ≤ g ∧ IntsIn w' g 0 zs ∧ Below w.heap.size w w'

set_option maxRecDepth 100000 in
set_option maxHeartbeats 2000000 in
theorem drawUnwrapFlood_any (a : Option Addr) (len cap : Nat) (w : World) (hl : len ≤ 4096) (hc : BytesAt w a len) :
    Calls Try.prog 14 #[.slice a len cap] w (FloodDraw w) := by
  have hz0 := Lib.hid (heap_alloc_new w (.cells Try.zeroCells33 33))
  have hb0 : Below w.heap.size w (w.alloc (.cells Try.zeroCells33 33)) := (Below.refl _ _).alloc (Nat.le_refl _) _
  have hc0 : BytesAt (w.alloc (.cells Try.zeroCells33 33)) a len := fun j hj => by
    obtain ⟨b, off, c, e, lt, hcell, h0, h1⟩ := hc j hj
    exact ⟨b, off, c, e, by simp; omega, (hb0.cell (p := ⟨b, off + j, none⟩) lt).trans hcell, h0, h1⟩
  go_enter Try.func14, Try.ntmps14
  go_wp2_with fail
  refine (l01From_any a len cap _ hl hc0).mono ?_
  rintro e w1 ⟨rfl, hs1, hb1⟩
  have hz1 := Lib.hid ((hb1.block _ (by simp)).trans hz0.out)
  have hszb : (w.alloc (.cells Try.zeroCells33 33)).heap.size = w.heap.size + 1 := by simp
  rw [hszb] at hs1 hb1
  go_wp2_with fail
  refine (l07Map_loop _ _ _ hs1).mono ?_
  rintro e w2 ⟨n, zs, g, cap2, rfl, n0, n1, z0, z1, hg, hi, hs2, hsm2⟩
  go_wp2_with fail
  have hlt1 := hs1.lt
  have hg1 : w.heap.size + 2 ≤ g := by omega
  have hz2 := Lib.hid ((hsm2.block _ (lt_of_block hz1.out) (by omega)).trans hz1.out)
  have hlt2 := lt_of_block hz2.out
  have hlt3 := hs2.lt
  have hbw2 : Below w.heap.size w w2 := (hb0.trans (hb1.mono (by omega))).trans (hsm2.below (by omega) (fun k hk e => by omega))
  cases hsn : sideB n with
  | false =>
    go_wp2_with (go_at_call 38; refine (l01Side_any n _).mono ?_; rintro e w' ⟨rfl, rfl⟩; rw [hsn])
    refine (l01DrawSide_any _ _ hs2).mono ?_
    rintro e w3 ⟨sd, rfl, hsd, hs3, hsm3⟩
    go_wp2_with fail
    have hS : Same (· = w.heap.size + 1) w2 w3 := hsm3
    have hB := side_bd hsd
    refine (l01Empty_any sd _).mono ?_
    rintro e v1 ⟨rfl, hbv1⟩
    have hs5 : Src v1 (w.heap.size + 1) := hs3.same (Same.of_below (fun _ => False) (Nat.le_refl _) hbv1) (fun _ _ f => f)
    have hS5 : Same (· = w.heap.size + 1) w2 v1 := hS.trans (Same.of_below _ (Nat.le_refl _) hbv1)
    have hlt5 := hs5.lt
    go_wp2_with (with_reducible refine wpList_store_wave rfl (.tmp 11) (.tmp 33) rfl v1.heap.size rfl sd zc _ rfl rfl _ _ (heap_alloc_new _ _) (by rw [zero_wave, warr_size]) ?_)
    intro v2 hh2 hsmv2
    have hs6 : Src v2 (w.heap.size + 1) := (hs5.same ((Same.refl (fun _ => False) _).alloc _) (fun _ _ f => f)).same hsmv2 (fun k hk e => by omega)
    have hS6 : Same (· = w.heap.size + 1) w2 v2 := (hS5.alloc _).past hsmv2 (fun i hi e => by have := hS5.size; omega)
    have hle5 := hS5.size
    clear hS hS5 hs5 hsmv2 hbv1
    go_wp2_with fail
    go_loopw [12] (fun i wr => ∃ (k : Nat) (c : Nat → Nat × Nat), (k : Int) ≤ sd * sd ∧ i = .int .i64 k ∧ wr.heap[v1.heap.size]? = some (.cells (warr sd c) 33 (0, 0)) ∧ Src wr (w.heap.size + 1) ∧ Same (· = w.heap.size + 1) w2 wr)
      (fun i _ => 64 - (intOf i).toNat)
    case atStart => exact ⟨0, zc, by omega, rfl, hh2, hs6, hS6⟩
    case round =>
      obtain ⟨k, c, hk, rfl, hh, hsr, hSr⟩ := hrel
      by_cases hlt : (k : Int) < sd * sd
      · have hd : decide ((k : Int) < sd * sd) = true := by simpa using hlt
        go_wp2_with fail
        refine (l01Next_any _ 5 _ hsr (by omega)).mono ?_
        rintro e v3 ⟨q, rfl, ⟨q0, -, -⟩, hs7, hsm7⟩
        have hv1 := lt_of_block hh
        have hh7 := (hsm7.block _ hv1 (by omega)).trans hh
        have hk64 : k < 64 := by omega
        have c1 := ((cells_of hh7).1 (1 + k)).trans (warr_cell _ _ k hk64)
        have f1 := (cells_of hh7).2.1 (1 + k)
        simp only [cx] at c1
        have Hh7 := Lib.hid hh7
        have hS7 := hSr.trans hsm7
        clear hh hh7 hsr hSr hsm7
        by_cases hq : 0 < q
        · have hd2 : decide (0 < q) = true := by simpa using hq
          go_wp2_with fail
          refine ⟨⟨k + 1, _, by omega, by simp, stored_wave Hh7.out hk64, hs7.same (S := fun k => k = v1.heap.size) ((Same.refl (fun k => k = v1.heap.size) _).setCell (p := ⟨v1.heap.size, 1 + k, none⟩) (.inr rfl) _) (fun k hk e => by omega), ?_⟩, by simp [intOf]; omega⟩
          exact hS7.past (T := fun k => k = v1.heap.size) ((Same.refl (fun k => k = v1.heap.size) _).setCell (p := ⟨v1.heap.size, 1 + k, none⟩) (.inr rfl) _) (fun i hi e => by omega)
        · have hd2 : decide (0 < q) = false := by simpa using hq
          go_wp2_with fail
          exact ⟨⟨k + 1, c, by omega, by simp, Hh7.out, hs7, hS7⟩, by simp [intOf]; omega⟩
      · have hd : decide ((k : Int) < sd * sd) = false := by simpa using hlt
        have Hh := Lib.hid hh
        clear hh
        go_wp2_with (with_reducible refine wpList_load_wave rfl (.tmp 11) rfl _ rfl _ _ _ _ Hh.out ?_)
        refine (l03Spoil_any _ _ c _ hsr).mono ?_
        rintro e y1 ⟨c', rfl, hs8, hsm8⟩
        go_wp2_with fail
        refine (l01Near_any _ _ _ hs8 (by omega) (by omega)).mono ?_
        rintro e y2 ⟨r1, rfl, -, hs9, hsm9⟩
        go_wp2_with fail
        refine (l01Pick_any (w.heap.size + 1) y2.heap.size 0 2 [0, r1] _ (hs9.same ((Same.refl (fun _ => False) _).alloc _) (fun _ _ f => f)) (ints_new _ [0, r1] _) (by have := hs9.lt; omega) (by simp) (by simp)).mono ?_
        rintro e y3 ⟨yy, rfl, -, hs10, hsm10⟩
        go_wp2_with fail
        refine (l01Next_any _ _ _ hs10 (by omega)).mono ?_
        rintro e y4 ⟨r2, rfl, -, hs11, hsm11⟩
        go_wp2_with fail
        refine (l01Pick_any (w.heap.size + 1) y4.heap.size 0 2 [0, r2] _ (hs11.same ((Same.refl (fun _ => False) _).alloc _) (fun _ _ f => f)) (ints_new _ [0, r2] _) (by have := hs11.lt; omega) (by simp) (by simp)).mono ?_
        rintro e y5 ⟨xx, rfl, -, hs12, hsm12⟩
        have hS12 := ((((((hSr.trans hsm8).trans hsm9).alloc _).trans hsm10).trans hsm11).alloc _).trans hsm12
        have H4 := Lib.hid ((hS12.block _ (by omega) (by omega)).trans hz2.out)
        clear hsm8 hsm9 hsm10 hsm11 hsm12 hSr
        go_wp2_with (with_reducible refine wpList_store_wave rfl (.tmp 4) (.tmp 54) rfl w.heap.size rfl sd c' _ rfl rfl _ _ H4.out (by rw [zero_wave, warr_size]) ?_)
        intro y6 hh6 hsm6
        go_wp2_with fail
        refine bodyPost_ret (results_row_mid rfl _ _ w.heap.size _ _ _ _ rfl hh6 Try.underlying33 rfl (wave_info _ _)) rfl ⟨n, zs, g, cap2, sd, c', yy, xx, rfl, n0, n1, z0, z1, by omega, ?_, ?_⟩
        · exact (hi.same hS12 (by omega)).same hsm6 (by omega)
        · exact hbw2.trans ((hS12.below (by omega) (fun k hk e => by omega)).trans (hsm6.below (by have := hS12.size; omega) (fun k hk e => by omega)))
  | true =>
    go_wp2_with (go_at_call 38; refine (l01Side_any n _).mono ?_; rintro e w' ⟨rfl, rfl⟩; rw [hsn])
    refine (l01Next_any _ 20 _ hs2 (by omega)).mono ?_
    rintro e w3 ⟨r, rfl, ⟨r0, -, -⟩, hs3, hsm3⟩
    by_cases hr : r = 0
    · subst hr
      go_wp2_with fail
      refine (l01DrawSide_any _ _ hs3).mono ?_
      rintro e w4 ⟨sd, rfl, hsd, hs4, hsm4⟩
      go_wp2_with fail
      have hS : Same (· = w.heap.size + 1) w2 w4 := hsm3.trans hsm4
      have hB := side_bd hsd
      refine (l01Empty_any sd _).mono ?_
      rintro e v1 ⟨rfl, hbv1⟩
      have hs5 : Src v1 (w.heap.size + 1) := hs4.same (Same.of_below (fun _ => False) (Nat.le_refl _) hbv1) (fun _ _ f => f)
      have hS5 : Same (· = w.heap.size + 1) w2 v1 := hS.trans (Same.of_below _ (Nat.le_refl _) hbv1)
      have hlt5 := hs5.lt
      go_wp2_with (with_reducible refine wpList_store_wave rfl (.tmp 11) (.tmp 33) rfl v1.heap.size rfl sd zc _ rfl rfl _ _ (heap_alloc_new _ _) (by rw [zero_wave, warr_size]) ?_)
      intro v2 hh2 hsmv2
      have hs6 : Src v2 (w.heap.size + 1) := (hs5.same ((Same.refl (fun _ => False) _).alloc _) (fun _ _ f => f)).same hsmv2 (fun k hk e => by omega)
      have hS6 : Same (· = w.heap.size + 1) w2 v2 := (hS5.alloc _).past hsmv2 (fun i hi e => by have := hS5.size; omega)
      have hle5 := hS5.size
      clear hS hS5 hs5 hsmv2 hbv1
      go_wp2_with fail
      go_loopw [12] (fun i wr => ∃ (k : Nat) (c : Nat → Nat × Nat), (k : Int) ≤ sd * sd ∧ i = .int .i64 k ∧ wr.heap[v1.heap.size]? = some (.cells (warr sd c) 33 (0, 0)) ∧ Src wr (w.heap.size + 1) ∧ Same (· = w.heap.size + 1) w2 wr)
        (fun i _ => 64 - (intOf i).toNat)
      case atStart => exact ⟨0, zc, by omega, rfl, hh2, hs6, hS6⟩
      case round =>
        obtain ⟨k, c, hk, rfl, hh, hsr, hSr⟩ := hrel
        by_cases hlt : (k : Int) < sd * sd
        · have hd : decide ((k : Int) < sd * sd) = true := by simpa using hlt
          go_wp2_with fail
          refine (l01Next_any _ 5 _ hsr (by omega)).mono ?_
          rintro e v3 ⟨q, rfl, ⟨q0, -, -⟩, hs7, hsm7⟩
          have hv1 := lt_of_block hh
          have hh7 := (hsm7.block _ hv1 (by omega)).trans hh
          have hk64 : k < 64 := by omega
          have c1 := ((cells_of hh7).1 (1 + k)).trans (warr_cell _ _ k hk64)
          have f1 := (cells_of hh7).2.1 (1 + k)
          simp only [cx] at c1
          have Hh7 := Lib.hid hh7
          have hS7 := hSr.trans hsm7
          clear hh hh7 hsr hSr hsm7
          by_cases hq : 0 < q
          · have hd2 : decide (0 < q) = true := by simpa using hq
            go_wp2_with fail
            refine ⟨⟨k + 1, _, by omega, by simp, stored_wave Hh7.out hk64, hs7.same (S := fun k => k = v1.heap.size) ((Same.refl (fun k => k = v1.heap.size) _).setCell (p := ⟨v1.heap.size, 1 + k, none⟩) (.inr rfl) _) (fun k hk e => by omega), ?_⟩, by simp [intOf]; omega⟩
            exact hS7.past (T := fun k => k = v1.heap.size) ((Same.refl (fun k => k = v1.heap.size) _).setCell (p := ⟨v1.heap.size, 1 + k, none⟩) (.inr rfl) _) (fun i hi e => by omega)
          · have hd2 : decide (0 < q) = false := by simpa using hq
            go_wp2_with fail
            exact ⟨⟨k + 1, c, by omega, by simp, Hh7.out, hs7, hS7⟩, by simp [intOf]; omega⟩
        · have hd : decide ((k : Int) < sd * sd) = false := by simpa using hlt
          have Hh := Lib.hid hh
          clear hh
          go_wp2_with (with_reducible refine wpList_load_wave rfl (.tmp 11) rfl _ rfl _ _ _ _ Hh.out ?_)
          refine (l03Spoil_any _ _ c _ hsr).mono ?_
          rintro e y1 ⟨c', rfl, hs8, hsm8⟩
          go_wp2_with fail
          refine (l01Near_any _ _ _ hs8 (by omega) (by omega)).mono ?_
          rintro e y2 ⟨r1, rfl, -, hs9, hsm9⟩
          go_wp2_with fail
          refine (l01Pick_any (w.heap.size + 1) y2.heap.size 0 2 [0, r1] _ (hs9.same ((Same.refl (fun _ => False) _).alloc _) (fun _ _ f => f)) (ints_new _ [0, r1] _) (by have := hs9.lt; omega) (by simp) (by simp)).mono ?_
          rintro e y3 ⟨yy, rfl, -, hs10, hsm10⟩
          go_wp2_with fail
          refine (l01Next_any _ _ _ hs10 (by omega)).mono ?_
          rintro e y4 ⟨r2, rfl, -, hs11, hsm11⟩
          go_wp2_with fail
          refine (l01Pick_any (w.heap.size + 1) y4.heap.size 0 2 [0, r2] _ (hs11.same ((Same.refl (fun _ => False) _).alloc _) (fun _ _ f => f)) (ints_new _ [0, r2] _) (by have := hs11.lt; omega) (by simp) (by simp)).mono ?_
          rintro e y5 ⟨xx, rfl, -, hs12, hsm12⟩
          have hS12 := ((((((hSr.trans hsm8).trans hsm9).alloc _).trans hsm10).trans hsm11).alloc _).trans hsm12
          have H4 := Lib.hid ((hS12.block _ (by omega) (by omega)).trans hz2.out)
          clear hsm8 hsm9 hsm10 hsm11 hsm12 hSr
          go_wp2_with (with_reducible refine wpList_store_wave rfl (.tmp 4) (.tmp 54) rfl w.heap.size rfl sd c' _ rfl rfl _ _ H4.out (by rw [zero_wave, warr_size]) ?_)
          intro y6 hh6 hsm6
          go_wp2_with fail
          refine bodyPost_ret (results_row_mid rfl _ _ w.heap.size _ _ _ _ rfl hh6 Try.underlying33 rfl (wave_info _ _)) rfl ⟨n, zs, g, cap2, sd, c', yy, xx, rfl, n0, n1, z0, z1, by omega, ?_, ?_⟩
          · exact (hi.same hS12 (by omega)).same hsm6 (by omega)
          · exact hbw2.trans ((hS12.below (by omega) (fun k hk e => by omega)).trans (hsm6.below (by have := hS12.size; omega) (fun k hk e => by omega)))
    · have t0 : (r == 0) = false := by simpa using hr
      go_wp2_with fail
      have hS : Same (· = w.heap.size + 1) w2 w3 := hsm3
      have hB := side_bd hsn
      refine (l01Empty_any n _).mono ?_
      rintro e v1 ⟨rfl, hbv1⟩
      have hs5 : Src v1 (w.heap.size + 1) := hs3.same (Same.of_below (fun _ => False) (Nat.le_refl _) hbv1) (fun _ _ f => f)
      have hS5 : Same (· = w.heap.size + 1) w2 v1 := hS.trans (Same.of_below _ (Nat.le_refl _) hbv1)
      have hlt5 := hs5.lt
      go_wp2_with (with_reducible refine wpList_store_wave rfl (.tmp 11) (.tmp 33) rfl v1.heap.size rfl n zc _ rfl rfl _ _ (heap_alloc_new _ _) (by rw [zero_wave, warr_size]) ?_)
      intro v2 hh2 hsmv2
      have hs6 : Src v2 (w.heap.size + 1) := (hs5.same ((Same.refl (fun _ => False) _).alloc _) (fun _ _ f => f)).same hsmv2 (fun k hk e => by omega)
      have hS6 : Same (· = w.heap.size + 1) w2 v2 := (hS5.alloc _).past hsmv2 (fun i hi e => by have := hS5.size; omega)
      have hle5 := hS5.size
      clear hS hS5 hs5 hsmv2 hbv1
      go_wp2_with fail
      go_loopw [12] (fun i wr => ∃ (k : Nat) (c : Nat → Nat × Nat), (k : Int) ≤ n * n ∧ i = .int .i64 k ∧ wr.heap[v1.heap.size]? = some (.cells (warr n c) 33 (0, 0)) ∧ Src wr (w.heap.size + 1) ∧ Same (· = w.heap.size + 1) w2 wr)
        (fun i _ => 64 - (intOf i).toNat)
      case atStart => exact ⟨0, zc, by omega, rfl, hh2, hs6, hS6⟩
      case round =>
        obtain ⟨k, c, hk, rfl, hh, hsr, hSr⟩ := hrel
        by_cases hlt : (k : Int) < n * n
        · have hd : decide ((k : Int) < n * n) = true := by simpa using hlt
          go_wp2_with fail
          refine (l01Next_any _ 5 _ hsr (by omega)).mono ?_
          rintro e v3 ⟨q, rfl, ⟨q0, -, -⟩, hs7, hsm7⟩
          have hv1 := lt_of_block hh
          have hh7 := (hsm7.block _ hv1 (by omega)).trans hh
          have hk64 : k < 64 := by omega
          have c1 := ((cells_of hh7).1 (1 + k)).trans (warr_cell _ _ k hk64)
          have f1 := (cells_of hh7).2.1 (1 + k)
          simp only [cx] at c1
          have Hh7 := Lib.hid hh7
          have hS7 := hSr.trans hsm7
          clear hh hh7 hsr hSr hsm7
          by_cases hq : 0 < q
          · have hd2 : decide (0 < q) = true := by simpa using hq
            go_wp2_with fail
            refine ⟨⟨k + 1, _, by omega, by simp, stored_wave Hh7.out hk64, hs7.same (S := fun k => k = v1.heap.size) ((Same.refl (fun k => k = v1.heap.size) _).setCell (p := ⟨v1.heap.size, 1 + k, none⟩) (.inr rfl) _) (fun k hk e => by omega), ?_⟩, by simp [intOf]; omega⟩
            exact hS7.past (T := fun k => k = v1.heap.size) ((Same.refl (fun k => k = v1.heap.size) _).setCell (p := ⟨v1.heap.size, 1 + k, none⟩) (.inr rfl) _) (fun i hi e => by omega)
          · have hd2 : decide (0 < q) = false := by simpa using hq
            go_wp2_with fail
            exact ⟨⟨k + 1, c, by omega, by simp, Hh7.out, hs7, hS7⟩, by simp [intOf]; omega⟩
        · have hd : decide ((k : Int) < n * n) = false := by simpa using hlt
          have Hh := Lib.hid hh
          clear hh
          go_wp2_with (with_reducible refine wpList_load_wave rfl (.tmp 11) rfl _ rfl _ _ _ _ Hh.out ?_)
          refine (l03Spoil_any _ _ c _ hsr).mono ?_
          rintro e y1 ⟨c', rfl, hs8, hsm8⟩
          go_wp2_with fail
          refine (l01Near_any _ _ _ hs8 (by omega) (by omega)).mono ?_
          rintro e y2 ⟨r1, rfl, -, hs9, hsm9⟩
          go_wp2_with fail
          refine (l01Pick_any (w.heap.size + 1) y2.heap.size 0 2 [0, r1] _ (hs9.same ((Same.refl (fun _ => False) _).alloc _) (fun _ _ f => f)) (ints_new _ [0, r1] _) (by have := hs9.lt; omega) (by simp) (by simp)).mono ?_
          rintro e y3 ⟨yy, rfl, -, hs10, hsm10⟩
          go_wp2_with fail
          refine (l01Next_any _ _ _ hs10 (by omega)).mono ?_
          rintro e y4 ⟨r2, rfl, -, hs11, hsm11⟩
          go_wp2_with fail
          refine (l01Pick_any (w.heap.size + 1) y4.heap.size 0 2 [0, r2] _ (hs11.same ((Same.refl (fun _ => False) _).alloc _) (fun _ _ f => f)) (ints_new _ [0, r2] _) (by have := hs11.lt; omega) (by simp) (by simp)).mono ?_
          rintro e y5 ⟨xx, rfl, -, hs12, hsm12⟩
          have hS12 := ((((((hSr.trans hsm8).trans hsm9).alloc _).trans hsm10).trans hsm11).alloc _).trans hsm12
          have H4 := Lib.hid ((hS12.block _ (by omega) (by omega)).trans hz2.out)
          clear hsm8 hsm9 hsm10 hsm11 hsm12 hSr
          go_wp2_with (with_reducible refine wpList_store_wave rfl (.tmp 4) (.tmp 54) rfl w.heap.size rfl n c' _ rfl rfl _ _ H4.out (by rw [zero_wave, warr_size]) ?_)
          intro y6 hh6 hsm6
          go_wp2_with fail
          refine bodyPost_ret (results_row_mid rfl _ _ w.heap.size _ _ _ _ rfl hh6 Try.underlying33 rfl (wave_info _ _)) rfl ⟨n, zs, g, cap2, n, c', yy, xx, rfl, n0, n1, z0, z1, by omega, ?_, ?_⟩
          · exact (hi.same hS12 (by omega)).same hsm6 (by omega)
          · exact hbw2.trans ((hS12.below (by omega) (fun k hk e => by omega)).trans (hsm6.below (by have := hS12.size; omega) (fun k hk e => by omega)))
end Go.Proofs.Ytlfcgbhjmdmocaa
