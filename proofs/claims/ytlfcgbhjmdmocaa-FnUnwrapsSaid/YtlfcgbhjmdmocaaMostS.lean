/- spec.l07Most. -/
import Derived.Test.YtlfcgbhjmdmocaaMostPure
namespace Go.Proofs.Ytlfcgbhjmdmocaa
open Go.RowKit

theorem count_take_succ (zs : List Int) (j : Nat) (h : j < zs.length) (x : Int) : (zs.take (j + 1)).count x = (zs.take j).count x + (if zs.getD j 0 = x then 1 else 0) := by
  rw [List.take_succ_eq_append_getElem h, List.count_append, List.getD_eq_getElem?_getD, List.getElem?_eq_getElem h]
  simp only [Option.getD_some]
  split
  · rename_i e; subst e; simp
  · rename_i e; simp [e]

set_option maxRecDepth 100000 in
set_option maxHeartbeats 1000000 in
theorem l07Most_any (b off cap : Nat) (zs : List Int) (w : World) (hi : IntsIn w b off zs) (hl : zs.length ≤ 1000000) :
    Calls Try.prog 50 #[.slice (some ⟨b, off, none⟩) zs.length cap] w fun e w' => e = .returned (.int .i64 (mostOf zs)) ∧ Below w.heap.size w w' := by
  go_enter Try.func50, Try.ntmps50
  go_wp2_with fail
  go_loopw [3, 4, 5] (fun p q i wr => ∃ k : Nat, k ≤ zs.length ∧ i = .int .i64 k ∧ p = .int .i64 (mostTo zs (zs.take k)).1 ∧ q = .int .i64 ((mostTo zs (zs.take k)).2 : Int) ∧ Below w.heap.size w wr)
    (fun _ _ i _ => zs.length - (intOf i).toNat)
  case atStart => exact ⟨0, Nat.zero_le _, rfl, rfl, rfl, Below.refl _ _⟩
  case round =>
    obtain ⟨k, hk, rfl, rfl, rfl, hbl⟩ := hrel
    by_cases hlt : k < zs.length
    · have hd : decide ((k : Int) < zs.length) = true := by simp; omega
      have hstep : mostTo zs (zs.take (k + 1)) = mostStep zs (mostTo zs (zs.take k)) (zs.getD k 0) := by
        rw [List.take_succ_eq_append_getElem hlt, mostTo_snoc, List.getD_eq_getElem?_getD, List.getElem?_eq_getElem hlt]; rfl
      have Hstep := Lib.hid hstep
      generalize mostTo zs (zs.take k) = pm at Hstep ⊢
      obtain ⟨bst, mst⟩ := pm
      clear hstep
      have ck := hi.cell k hlt
      generalize hx : zs.getD k 0 = x at ck Hstep
      have Hx := Lib.hid hx
      clear hx
      have Hcx := Lib.hid (rfl : zs.count x = zs.count x)
      go_wp2_with fail
      have hb0 : b < wr.heap.size := Nat.lt_of_lt_of_le hi.lt hbl.size
      obtain ⟨wo, rfl⟩ : ∃ wo, wo = wr := ⟨_, rfl⟩
      go_loopw [6, 7] (fun q i wr => ∃ j : Nat, j ≤ zs.length ∧ i = .int .i64 j ∧ q = .int .i64 ((zs.take j).count x : Int) ∧ Below w.heap.size w wr)
        (fun _ i _ => zs.length - (intOf i).toNat)
      case atStart => exact ⟨0, Nat.zero_le _, rfl, by simp, hbl⟩
      case round =>
        obtain ⟨j, hj, rfl, rfl, hbl2⟩ := hrel
        by_cases hlt2 : j < zs.length
        · have hd2 : decide ((j : Int) < zs.length) = true := by simp; omega
          have Hct := Lib.hid (count_take_succ zs j hlt2 x)
          have hi2 := hi.below hbl2 hi.lt
          have cj := hi2.cell j hlt2
          have ck2 := hi2.cell k hlt
          rw [Hx.out] at ck2
          have hcl : (zs.take j).count x ≤ 1000000 := Nat.le_trans List.count_le_length (by simp; omega)
          generalize (zs.take j).count x = ct at Hct hcl ⊢
          generalize zs.getD j 0 = z at cj Hct
          have hkz : (k : Int) < zs.length := by omega
          have hjz : (j : Int) < zs.length := by omega
          have wc : IntKind.i64.wrap ((ct : Int) + 1) = ct + 1 := IntWalk.i64_in _ (by omega)
          clear hi2 ck
          by_cases ez : z = x
          · have t0 : (z == x) = true := by simpa using ez
            subst ez
            go_wp2_with fail
            go_region
            all_goals
              go_wp2_with fail
              exact ⟨⟨j + 1, hlt2, by simp, by rw [Hct.out]; simp, hbl2.drew⟩, by simp [intOf]; omega⟩
          · have t0 : (z == x) = false := by simpa using ez
            go_wp2_with fail
            go_region
            all_goals
              go_wp2_with fail
              exact ⟨⟨j + 1, hlt2, by simp, by rw [Hct.out, if_neg ez]; simp, hbl2.drew⟩, by simp [intOf]; omega⟩
        · have hd2 : decide ((j : Int) < zs.length) = false := by simp; omega
          obtain rfl : j = zs.length := by omega
          have hi2 := hi.below hbl2 hi.lt
          have ck2 := hi2.cell k hlt
          rw [Hx.out] at ck2
          rw [List.take_length]
          have hkz : (k : Int) < zs.length := by omega
          unfold mostStep at Hstep
          dsimp only at Hstep
          generalize zs.count x = ct at Hstep ⊢
          clear hi2 ck
          by_cases g1 : mst < ct
          · have t1 : decide ((mst : Int) < ct) = true := by simp; omega
            rw [if_pos (.inl g1)] at Hstep
            go_wp2_with fail
            exact ⟨⟨k + 1, hlt, by simp, by rw [Hstep.out], by rw [Hstep.out], hbl2⟩, by simp [intOf]; omega⟩
          · have t1 : decide ((mst : Int) < ct) = false := by simp; omega
            by_cases g2 : ct = mst
            · subst g2
              have t2 : ((ct : Int) == ct) = true := by simp
              by_cases g3 : x < bst
              · have t3 : decide (x < bst) = true := by simpa using g3
                rw [if_pos (.inr ⟨rfl, g3⟩)] at Hstep
                go_wp2_with fail
                exact ⟨⟨k + 1, hlt, by simp, by rw [Hstep.out], by rw [Hstep.out], hbl2⟩, by simp [intOf]; omega⟩
              · have t3 : decide (x < bst) = false := by simpa using g3
                rw [if_neg (by omega)] at Hstep
                go_wp2_with fail
                exact ⟨⟨k + 1, hlt, by simp, by rw [Hstep.out], by rw [Hstep.out], hbl2⟩, by simp [intOf]; omega⟩
            · have t2 : ((ct : Int) == mst) = false := by rw [beq_eq_false_iff_ne]; omega
              rw [if_neg (by omega)] at Hstep
              go_wp2_with fail
              exact ⟨⟨k + 1, hlt, by simp, by rw [Hstep.out], by rw [Hstep.out], hbl2⟩, by simp [intOf]; omega⟩
    · have hd : decide ((k : Int) < zs.length) = false := by simp; omega
      obtain rfl : k = zs.length := by omega
      go_wp2_with fail
      go_ret
      exact ⟨by simp [mostOf], hbl⟩

/-- The same at a slice of the call's own, an empty one too. -/
theorem l07Most_own (base g cap : Nat) (zs : List Int) (w : World) (hown : OwnI w base (.slice (some ⟨g, 0, none⟩) zs.length cap) zs) (hl : zs.length ≤ 1000000) :
    Calls Try.prog 50 #[.slice (some ⟨g, 0, none⟩) zs.length cap] w fun e w' => e = .returned (.int .i64 (mostOf zs)) ∧ Below w.heap.size w w' :=
  l07Most_any g 0 cap zs w ⟨(hown.lt g rfl).2, fun j hj => by
    obtain ⟨g', cap', hv, _, _, hi, _⟩ := hown.reads (Nat.lt_of_le_of_lt (Nat.zero_le _) hj)
    have e : g = g' := by simp at hv; exact hv.1
    subst e
    exact hi.cell j hj⟩ hl
end Go.Proofs.Ytlfcgbhjmdmocaa
