/- l03Spoil; DrawUnwrapFlood. -/
import Derived.Test.YtlfcgbhjmdmocaaDrawsU
import Derived.Laws.Cover2
namespace Go.Proofs.Ytlfcgbhjmdmocaa
open Go.RowKit

theorem Same.past {S T : Nat → Prop} {a w w' : World} (h : Same S a w) (k : Same T w w') (hT : ∀ i, i < a.heap.size → T i → S i) : Same S a w' :=
  ⟨k.os.trans h.os, k.tape.trans h.tape, k.output.trans h.output, Nat.le_trans h.size k.size, fun i hi hs => (k.block i (Nat.lt_of_lt_of_le hi h.size) (fun t => hs (hT i hi t))).trans (h.block i hi hs)⟩

theorem stored_wave {w : World} {g i : Nat} {n : Int} {c : Nat → Nat × Nat} {t : TypeId} {x y : Nat} (h : w.heap[g]? = some (.cells (warr n c) t (0, 0))) (hi : i < 64) :
    (w.setCell ⟨g, 1 + i, none⟩ (.complex .f32 x y)).heap[g]? = some (.cells (warr n (upd c i (x, y))) t (0, 0)) := by
  rw [heap_setCell_same _ _ _ _ _ _ h, show Value.complex FloatKind.f32 x y = cx (x, y) from rfl, warr_set _ _ _ _ hi]

def SpoilPost (b : Nat) (w : World) (n : Int) (e : Ending) (w' : World) : Prop := ∃ c, e = .returned (.agg (warr n c)) ∧ Src w' b ∧ Same (· = b) w w'

set_option maxRecDepth 100000 in
set_option maxHeartbeats 2000000 in
theorem l03Spoil_any (b : Nat) (n : Int) (c : Nat → Nat × Nat) (w : World) (hs : Src w b) :
    Calls Try.prog 42 #[.pointer (some ⟨b, 0, none⟩), .agg (warr n c)] w (SpoilPost b w n) := by
  have hlt := hs.lt
  have hz0 := heap_alloc2_old w (.cells (warr n c) 33) (.cells Try.zeroCells33 33)
  have hz1 := heap_alloc2_new w (.cells (warr n c) 33) (.cells Try.zeroCells33 33)
  have hsm0 : Same (· = b) w ((w.alloc (.cells (warr n c) 33)).alloc (.cells Try.zeroCells33 33)) := ((Same.refl _ _).alloc _).alloc _
  have hs0 : Src ((w.alloc (.cells (warr n c) 33)).alloc (.cells Try.zeroCells33 33)) b := hs.same (((Same.refl (fun _ => False) _).alloc _).alloc _) (fun _ _ f => f)
  have Hz0 := Lib.hid hz0
  have Hz1 := Lib.hid hz1
  clear hz0 hz1
  go_enter Try.func42, Try.ntmps42
  go_wp2_with fail
  refine (l01Next_any b 20 _ hs0 (by omega)).mono ?_
  rintro e w1 ⟨r, rfl, ⟨r0, -, r1⟩, hs1, hsm1⟩
  have H0 := Lib.hid ((hsm1.block _ (by simp; omega) (by omega)).trans Hz0.out)
  have H1 := Lib.hid ((hsm1.block _ (by simp) (by omega)).trans Hz1.out)
  have hS1 := hsm0.trans hsm1
  clear r1
  by_cases hr : r = 0
  · subst hr
    go_wp2_with fail
    refine (l01Next_any b 64 _ hs1 (by omega)).mono ?_
    rintro e w2 ⟨i, rfl, ⟨i0, -, i1⟩, hs2, hsm2⟩
    have i1 := i1 (by omega)
    go_wp2_with fail
    refine (l01Pick_any b w2.heap.size 0 3 [2, -1, 1] _ (hs2.same ((Same.refl (fun _ => False) _).alloc _) (fun _ _ f => f)) (ints_new _ [2, -1, 1] _) (by have := hs2.lt; omega) (by simp) (by simp)).mono ?_
    rintro e w3 ⟨v, rfl, hv, hs3, hsm3⟩
    clear hv
    go_wp2_with fail
    refine (l01Next_any b 2 _ hs3 (by omega)).mono ?_
    rintro e w4 ⟨u, rfl, -, hs4, hsm4⟩
    have h24 := ((hsm2.alloc _).trans hsm3).trans hsm4
    have H0' := Lib.hid ((h24.block _ (lt_of_block H0.out) (by omega)).trans H0.out)
    have H1' := Lib.hid ((h24.block _ (lt_of_block H1.out) (by omega)).trans H1.out)
    obtain ⟨i', rfl⟩ : ∃ i' : Nat, i = (i' : Int) := ⟨i.toNat, by omega⟩
    have hi64 : i' < 64 := by omega
    have c1 := ((cells_of H0'.out).1 (1 + i')).trans (warr_cell n c i' hi64)
    have f1 := (cells_of H0'.out).2.1 (1 + i')
    simp only [cx] at c1
    have hS4 := hS1.trans h24
    clear h24 hsm2 hsm3 hsm4 hS1 hsm1 hsm0 hs0 hs1 hs2 hs3
    have hd1 : w.heap.size ≠ w.heap.size + 1 := by omega
    go_wp2_with (first
      | (with_reducible refine wpList_load_wave rfl (.tmp 3) rfl _ rfl _ _ _ _ (stored_wave H0'.out hi64) ?_)
      | (with_reducible refine wpList_store_wave rfl (.tmp 4) (.tmp 20) rfl (w.heap.size + 1) rfl n _ _ rfl rfl _ _ ((heap_setCell_other _ _ _ _ (by simp)).trans H1'.out) (by rw [zero_wave, warr_size]) ?_))
    intro w5 hh5 hsm5
    go_wp2_with fail
    refine bodyPost_ret (results_cell_row rfl _ _ (w.heap.size + 1) _ _ _ _ rfl hh5 Try.underlying33 rfl (wave_info _ _)) rfl ⟨_, rfl, ?_, ?_⟩
    · exact (hs4.same (S := fun k => k = w.heap.size) ((Same.refl (fun k => k = w.heap.size) _).setCell (p := ⟨w.heap.size, 1 + i', none⟩) (.inr rfl) _) (fun k hk e => by omega)).same hsm5 (fun k hk e => by omega)
    · exact (hS4.past (T := fun k => k = w.heap.size) ((Same.refl (fun k => k = w.heap.size) _).setCell (p := ⟨w.heap.size, 1 + i', none⟩) (.inr rfl) _) (fun i hi e => by omega)).past hsm5 (fun i hi e => by omega)
  · have t0 : (r == 0) = false := by simpa using hr
    go_wp2_with (first | (with_reducible refine wpList_load_wave rfl (.tmp 3) rfl _ rfl _ _ _ _ H0.out ?_) | (with_reducible refine wpList_store_wave rfl (.tmp 4) (.tmp 20) rfl (w.heap.size + 1) rfl n c _ rfl rfl _ _ H1.out (by rw [zero_wave, warr_size]) ?_))
    intro w3 hh3 hsm3
    go_wp2_with fail
    refine bodyPost_ret (results_cell_row rfl _ _ (w.heap.size + 1) _ _ _ _ rfl hh3 Try.underlying33 rfl (wave_info _ _)) rfl ⟨c, rfl, ?_, ?_⟩
    · exact hs1.same hsm3 (fun k hk e => by omega)
    · exact hS1.past hsm3 (fun i hi e => by omega)
end Go.Proofs.Ytlfcgbhjmdmocaa
