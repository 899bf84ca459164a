/- The draws of FnUnwraps. -/
import Derived.Test.YtlfcgbhjmdmocaaMap
import Derived.Test.YtlfcgbhjmdmocaaPlain
namespace Go.Proofs.Ytlfcgbhjmdmocaa
open Go.RowKit

def MapRes (w : World) (e : Ending) (w' : World) : Prop :=
  ∃ n zs g cap, e = .returned (.tuple #[.int .i64 n, .slice (some ⟨g, 0, none⟩) (List.length zs) cap]) ∧ -16 ≤ n ∧ n ≤ 16 ∧ 1 ≤ zs.length ∧ zs.length ≤ 65 ∧ w.heap.size ≤ g ∧ IntsIn w' g 0 zs ∧ Below w.heap.size w w'

theorem drawUnwrapRows_any (a : Option Addr) (len cap : Nat) (w : World) (hl : len ≤ 4096) (hc : BytesAt w a len) :
    Calls Try.prog 5 #[.slice a len cap] w (MapRes w) := by
  go_enter Try.func5, Try.ntmps5
  go_wp2_with fail
  refine (l01From_any a len cap _ hl hc).mono ?_
  rintro e w1 ⟨rfl, hs1, hb1⟩
  go_wp2_with fail
  refine (l07Map_loop _ _ _ hs1).mono ?_
  rintro e w2 ⟨n, zs, g, cap2, rfl, n0, n1, z0, z1, hg, hi, hs2, hsm⟩
  go_wp2_with fail
  go_ret2
  exact ⟨n, zs, g, cap2, rfl, n0, n1, z0, z1, by have := hb1.size; omega, hi, hb1.trans (hsm.below hb1.size (fun k hk e => by omega))⟩

theorem drawSlopesOf_any (a : Option Addr) (len cap : Nat) (w : World) (hl : len ≤ 4096) (hc : BytesAt w a len) :
    Calls Try.prog 19 #[.slice a len cap] w (MapRes w) := by
  go_enter Try.func19, Try.ntmps19
  go_wp2_with fail
  refine (l01From_any a len cap _ hl hc).mono ?_
  rintro e w1 ⟨rfl, hs1, hb1⟩
  go_wp2_with fail
  refine (l07Map_loop _ _ _ hs1).mono ?_
  rintro e w2 ⟨n, zs, g, cap2, rfl, n0, n1, z0, z1, hg, hi, hs2, hsm⟩
  go_wp2_with fail
  go_ret2
  exact ⟨n, zs, g, cap2, rfl, n0, n1, z0, z1, by have := hb1.size; omega, hi, hb1.trans (hsm.below hb1.size (fun k hk e => by omega))⟩

theorem l01Empty_any (n : Int) (w : World) : Calls Try.prog 41 #[.int .i64 n] w (WavePost w n zc) := by
  have hz0 := Lib.hid (heap_alloc_new w (.cells Try.zeroCells33 33))
  go_enter Try.func41, Try.ntmps41
  go_wp2_with (with_reducible refine wpList_store_wave rfl (.tmp 2) (.tmp 4) rfl w.heap.size rfl n zc _ rfl (zero_set _) _ _ hz0.out (by rw [zero_wave, warr_size]) ?_)
  intro w2 hh2 hsm2
  go_wp2_with fail
  refine bodyPost_ret (results_cell_row rfl _ _ w.heap.size _ _ _ _ rfl hh2 Try.underlying33 rfl (wave_info _ _)) rfl ⟨rfl, ?_⟩
  exact ((Below.refl _ _).alloc (Nat.le_refl _) _).trans (hsm2.below (by simp) (fun k hk e => by omega))

/-- Two numbers. -/
def TwoRes (w : World) (e : Ending) (w' : World) : Prop :=
  ∃ h k : Int, e = .returned (.tuple #[.int .i64 h, .int .i64 k]) ∧ -100001 ≤ h ∧ h ≤ 100001 ∧ -100001 ≤ k ∧ k ≤ 100001 ∧ Below w.heap.size w w'

set_option maxHeartbeats 1000000 in
theorem drawWrappedDifference_any (a : Option Addr) (len cap : Nat) (w : World) (hl : len ≤ 4096) (hc : BytesAt w a len) :
    Calls Try.prog 16 #[.slice a len cap] w (TwoRes w) := by
  go_enter Try.func16, Try.ntmps16
  go_wp2_with fail
  refine (l01From_any a len cap _ hl hc).mono ?_
  rintro e w1 ⟨rfl, hs1, hb1⟩
  go_wp2_with fail
  refine (l01Next_any _ 64 _ hs1 (by omega)).mono ?_
  rintro e w2 ⟨r1, rfl, ⟨p0, -, p1⟩, hs2, hsm2⟩
  have p1 := p1 (by omega)
  go_wp2_with fail
  refine (l01Next_any _ 400 _ hs2 (by omega)).mono ?_
  rintro e w3 ⟨r2, rfl, ⟨q0, -, q1⟩, hs3, hsm3⟩
  have q1 := q1 (by omega)
  go_wp2_with fail
  refine (l01Pick_any w.heap.size w3.heap.size 0 4 [r1, r2 - 200, 100000, 100001] _ (hs3.same ((Same.refl (fun _ => False) _).alloc _) (fun _ _ f => f)) (ints_new _ [r1, r2 - 200, 100000, 100001] _) (by have := hs3.lt; omega) (by simp) (by simp)).mono ?_
  rintro e w4 ⟨r3, rfl, hr3, hs4, hsm4⟩
  have b3 : -100001 ≤ r3 ∧ r3 ≤ 100001 := by simp at hr3; omega
  clear hr3
  go_wp2_with fail
  refine (l01Next_any _ 64 _ hs4 (by omega)).mono ?_
  rintro e w5 ⟨r4, rfl, ⟨u0, -, u1⟩, hs5, hsm5⟩
  have u1 := u1 (by omega)
  go_wp2_with fail
  refine (l01Next_any _ 400 _ hs5 (by omega)).mono ?_
  rintro e w6 ⟨r5, rfl, ⟨v0, -, v1⟩, hs6, hsm6⟩
  have v1 := v1 (by omega)
  go_wp2_with fail
  refine (l01Pick_any w.heap.size w6.heap.size 0 4 [r4, r5 - 200, -100000, -100001] _ (hs6.same ((Same.refl (fun _ => False) _).alloc _) (fun _ _ f => f)) (ints_new _ [r4, r5 - 200, -100000, -100001] _) (by have := hs6.lt; omega) (by simp) (by simp)).mono ?_
  rintro e w7 ⟨r6, rfl, hr6, hs7, hsm7⟩
  have b6 : -100001 ≤ r6 ∧ r6 ≤ 100001 := by simp at hr6; omega
  clear hr6
  go_wp2_with fail
  go_ret2
  have hA := (((hsm2.trans hsm3).alloc _).trans hsm4).trans hsm5
  exact ⟨_, _, rfl, b3.1, b3.2, b6.1, b6.2, hb1.trans ((((hA.trans hsm6).alloc _).trans hsm7).below hb1.size (fun k hk e => by omega))⟩

end Go.Proofs.Ytlfcgbhjmdmocaa
