/- UnwrapRows of the reference. -/
import Derived.Test.YtlfcgbhjmdmocaaRowsI
import Derived.Deep.RegionLaw
namespace Go.Proofs.Ytlfcgbhjmdmocaa
open Go.RowKit

/-- 'append(s, z)' as a step of a region that draws its order. -/
theorem step_push {w : World} {ops : Array Oper} {o : Oper} {a : Act} {K : Act → World → Prop} {Q : Exit → Act → World → Prop} {E : Prop} (hgd : o.guard = none) (s x : Operand)
    (ho : o.op = .call { callee := .builtin .append, args := #[s, x], argTypes := #[24, 24] })
    (base : Nat) (v : Value) (zs : List Int) (z : Int) (g c : Nat) (hs : a.eval s = v) (hown : OwnI w base v zs) (hx : a.eval x = .slice (some ⟨g, 0, none⟩) 1 c)
    (hc : w.cell? ⟨g, 0, none⟩ = some (.int .i64 z)) (hlen : zs.length ≤ 1000000) (hbase : base ≤ w.heap.size)
    (h : ∀ v' w', OwnI w' base v' (zs ++ [z]) → w.grownBy w' v.ownBlock → K (a.put o.dst v') w') :
    if Region.wanted o (yielded ops a.tmps) = true then Oper.wp Try.prog o a w K Q else E := by
  have hw : Region.wanted o (yielded ops a.tmps) = true := by simp [Region.wanted, hgd]
  rw [if_pos hw]
  obtain ⟨i0, hi, hz0, hz1, hz2⟩ := info_parts info_i64
  refine wp_append_own w s x 24 ho base 2 i0 (.int .i64 0) 1 8 Try.underlying24 hi hz0 hz1 hz2 rfl (by decide) v zs.length (zs.map (Value.int .i64)) hs hown
    ⟨g, 0, none⟩ 1 c [.int .i64 z] hx rfl ?_ ?_ ?_ ?_ hbase ?_
  · intro j u hj
    match j, hj with
    | 0, hj => simp at hj; subst hj; simpa [Addr.add] using hc
  · intro u hu; simp at hu; subst hu; rfl
  · unfold maxLen; omega
  · omega
  · intro v' w' h1 h2 _
    exact h v' w' (by simpa [OwnI] using h1) h2

set_option maxRecDepth 100000 in
set_option maxHeartbeats 4000000 in
theorem unwrapRowsS_yes (n : Int) (b off cap : Nat) (zs : List Int) (w : World) (hi : IntsIn w b off zs) (hc : wcode n zs = 0) :
    Calls Try.prog 7 #[.int .i64 n, .slice (some ⟨b, off, none⟩) zs.length cap] w (ResI w (rowsOut n zs) 0) := by
  obtain ⟨hs, hlen, hz⟩ := wcode_zero hc
  have hzb := getD_bd hz
  have hnn : 1 ≤ n * n ∧ n * n ≤ 64 ∧ 1 ≤ n ∧ n ≤ 8 := by rcases sideB_iff.1 hs with rfl | rfl | rfl | rfl <;> omega
  obtain ⟨g1, g2, g3, g4⟩ := hnn
  have hl : zs.length ≤ 64 := by omega
  have hl1 : 1 ≤ zs.length := by omega
  have hbd := rowsTo_bd n.toNat (by omega) zs (hzb 0)
  obtain ⟨m, rfl⟩ : ∃ m : Nat, n = (m : Int) := ⟨n.toNat, by omega⟩
  simp only [Int.toNat_natCast] at hbd
  have Hc := Lib.hid hc
  have Hlen := Lib.hid hlen
  have Hzb := Lib.hid hzb
  have Hbd := Lib.hid hbd
  clear hc hlen hz hzb hbd hs
  have hlt := hi.lt
  have hO := OwnI.made (w := w) (base := w.heap.size) [] (Nat.le_refl _) (by simp)
  go_enter Try.func7, Try.ntmps7
  go_wp2_with (first
    | (go_at_call 30; refine (l07Code_any (m : Int) b off cap zs _ hi (by omega)).mono ?_; rintro e w' ⟨rfl, rfl⟩; rw [Hc.out]))
  go_loopw [7, 8] (fun v i wr => ∃ k : Nat, k ≤ zs.length ∧ i = .int .i64 k ∧ OwnI wr w.heap.size v (rowsTo m zs k) ∧ Below w.heap.size w wr)
    (fun _ i _ => zs.length - (intOf i).toNat)
  case atStart => exact ⟨0, Nat.zero_le _, rfl, hO, (Below.refl _ _).alloc (Nat.le_refl _) _⟩
  case round =>
    clear hO
    obtain ⟨k, hk, rfl, hO, hbl⟩ := hrel
    by_cases hlt2 : k < zs.length
    · have hd : decide ((k : Int) < m * m) = true := by have := Hlen.out; simp; omega
      have hir := hi.below hbl hlt
      have ck := hir.cell k hlt2
      have bk := Hzb.out k
      have hbs := hbl.size
      have hrl : (rowsTo m zs k).length ≤ 1000000 := by rw [rowsTo_length]; omega
      have hob : ∀ j, u7.ownBlock = some j → w.heap.size ≤ j := fun j hj => (hO.lt j hj).1
      have Hst := Lib.hid (show ∀ x, rowsStep m zs (rowsTo m zs k) k = x → rowsTo m zs (k + 1) = rowsTo m zs k ++ [x] from fun x hx => by rw [rowsTo, hx])
      generalize hzk : zs.getD k 0 = zk at ck bk
      have Hzk := Lib.hid hzk
      clear hzk
      by_cases e0 : k = 0
      · subst e0
        have c0 : wr.cell? ⟨b, off, none⟩ = some (.int .i64 zk) := by simpa using ck
        have i0 : (0 : Int) < zs.length := by omega
        clear ck
        go_wp2_with (at_builtin; refine wpList_push rfl (.tmp 45) (.tmp 49) rfl w.heap.size _ (rowsTo m zs 0) _ _ 1 rfl (hO.same (S := fun _ => False) ((Same.refl _ _).alloc _) (fun _ _ f => f)) rfl (World.cell?_alloc_at _ _ _ _ rfl) hrl (by simp; omega) ?_)
        intro v' w' ho hg
        have hb2 : Below w.heap.size w w' := (hbl.alloc hbs _).grown hg (by simp; omega) (fun j hj => hob j hj)
        clear hg hO hob
        go_wp2_with fail
        go_roundw
        case rel => exact ⟨1, by omega, by go_num, by rw [Hst.out zk (by rw [rowsStep, if_pos rfl, Hzk.out])]; exact ho, hb2⟩
        case measure => simp [intOf]; omega
      · by_cases e : k % m = 0
        · have hnk : m ≤ k := by
            rcases Nat.lt_or_ge k m with h | h
            · rw [Nat.mod_eq_of_lt h] at e; omega
            · exact h
          have he : ((k : Int) % m == 0) = true := by have h1 : (k : Int) % m = ((k % m : Nat) : Int) := by simp
                                                      rw [h1, e]; rfl
          have cf := hir.cell (k - m) (by omega)
          have hrd := hO.reads (by rw [rowsTo_length]; omega)
          rw [rowsTo_length] at hrd
          obtain ⟨g, cap1, rfl, hg, -, hin, -⟩ := hrd
          have of := hin.cell (k - m) (by rw [rowsTo_length]; omega)
          have bf := Hzb.out (k - m)
          have bo := Hbd.out k (k - m) (by omega)
          generalize hzf : zs.getD (k - m) 0 = zf at cf bf
          generalize hrf : (rowsTo m zs k).getD (k - m) 0 = rf at of bo
          have Hrs := Lib.hid (show rowsStep m zs (rowsTo m zs k) k = rf + lessH zf zk from by rw [rowsStep, if_neg e0, if_pos e, hrf, hzf, Hzk.out])
          clear hzf hrf e hi hin hir
          have bl := lessH_bd zf zk
          have hcall := fun W => l07Less_any zf zk W (by omega) (by omega) (by omega) (by omega)
          generalize hll : lessH zf zk = ll at bl hcall Hrs
          clear hll
          simp only [Nat.zero_add] at of
          have HO := Lib.hid hO
          clear hO
          have i1 : (k : Int) - m < zs.length := by omega
          have i2 : (0 : Int) ≤ (k : Int) - m := by omega
          have i3 : (k : Int) < zs.length := by omega
          have i4 : (1 : Int) ≤ (k : Int) := by omega
          have i5 : (k : Int) - m < k := by omega
          have j1 : IntKind.i64.wrap ((k : Int) - m) = (k : Int) - m := IntWalk.i64_in _ (by omega)
          have j2 : ((k : Int) - m).toNat = k - m := by omega
          have j3 : IntKind.i64.wrap (rf + ll) = rf + ll := IntWalk.i64_in _ (by omega)
          have e1 : ((k : Int) == 0) = false := by rw [beq_eq_false_iff_ne]; omega
          go_wp2_with fail
          go_region_law (first
            | (refine step_push rfl (.tmp 56) (.tmp 75) rfl w.heap.size (.slice (some ⟨g, 0, none⟩) k cap1) (rowsTo m zs k) (rf + ll) _ 1 rfl (HO.out.same (S := fun _ => False) ((Same.refl _ _).drew.alloc _) (fun _ _ f => f)) rfl (World.cell?_alloc_at _ _ _ _ rfl) hrl (by simp; omega) ?_; intro v' w' ho hg)
            | (go_simp; go_at_call 31; refine (hcall _).mono ?_; rintro e w' ⟨rfl, rfl⟩))
          all_goals
            have hb2 : Below w.heap.size w w' := (hbl.drew.alloc (by simp; omega) _).grown hg (by simp; omega) (fun j hj => by simp [Value.ownBlock] at hj; omega)
            have Ho := Lib.hid ho
            clear hg ho hob
            go_wp2_with fail
            go_roundw
            case rel => exact ⟨k + 1, by omega, by go_num, by rw [Hst.out _ Hrs.out]; exact Ho.out, hb2⟩
            case measure => simp [intOf]; omega
        · have he : ((k : Int) % m == 0) = false := by have h1 : (k : Int) % m = ((k % m : Nat) : Int) := by simp
                                                       rw [h1, beq_eq_false_iff_ne]; omega
          have cf := hir.cell (k - 1) (by omega)
          have hrd := hO.reads (by rw [rowsTo_length]; omega)
          rw [rowsTo_length] at hrd
          obtain ⟨g, cap1, rfl, hg, -, hin, -⟩ := hrd
          have of := hin.cell (k - 1) (by rw [rowsTo_length]; omega)
          have bf := Hzb.out (k - 1)
          have bo := Hbd.out k (k - 1) (by omega)
          generalize hzf : zs.getD (k - 1) 0 = zf at cf bf
          generalize hrf : (rowsTo m zs k).getD (k - 1) 0 = rf at of bo
          have Hrs := Lib.hid (show rowsStep m zs (rowsTo m zs k) k = rf + lessH zf zk from by rw [rowsStep, if_neg e0, if_neg e, hrf, hzf, Hzk.out])
          clear hzf hrf e hi hin hir
          have bl := lessH_bd zf zk
          have hcall := fun W => l07Less_any zf zk W (by omega) (by omega) (by omega) (by omega)
          generalize hll : lessH zf zk = ll at bl hcall Hrs
          clear hll
          simp only [Nat.zero_add] at of
          have HO := Lib.hid hO
          clear hO
          have i1 : (k : Int) - 1 < zs.length := by omega
          have i2 : (0 : Int) ≤ (k : Int) - 1 := by omega
          have i3 : (k : Int) < zs.length := by omega
          have i4 : (1 : Int) ≤ (k : Int) := by omega
          have i5 : (k : Int) - 1 < k := by omega
          have j1 : IntKind.i64.wrap ((k : Int) - 1) = (k : Int) - 1 := IntWalk.i64_in _ (by omega)
          have j2 : ((k : Int) - 1).toNat = k - 1 := by omega
          have j3 : IntKind.i64.wrap (rf + ll) = rf + ll := IntWalk.i64_in _ (by omega)
          have e1 : ((k : Int) == 0) = false := by rw [beq_eq_false_iff_ne]; omega
          go_wp2_with fail
          go_region_law (first
            | (refine step_push rfl (.tmp 23) (.tmp 40) rfl w.heap.size (.slice (some ⟨g, 0, none⟩) k cap1) (rowsTo m zs k) (rf + ll) _ 1 rfl (HO.out.same (S := fun _ => False) ((Same.refl _ _).drew.alloc _) (fun _ _ f => f)) rfl (World.cell?_alloc_at _ _ _ _ rfl) hrl (by simp; omega) ?_; intro v' w' ho hg)
            | (go_simp; go_at_call 31; refine (hcall _).mono ?_; rintro e w' ⟨rfl, rfl⟩))
          all_goals
            have hb2 : Below w.heap.size w w' := (hbl.drew.alloc (by simp; omega) _).grown hg (by simp; omega) (fun j hj => by simp [Value.ownBlock] at hj; omega)
            have Ho := Lib.hid ho
            clear hg ho hob
            go_wp2_with fail
            go_roundw
            case rel => exact ⟨k + 1, by omega, by go_num, by rw [Hst.out _ Hrs.out]; exact Ho.out, hb2⟩
            case measure => simp [intOf]; omega
    · have hd : decide ((k : Int) < m * m) = false := by have := Hlen.out; simp; omega
      have hkl : k = zs.length := by omega
      have Hfr := Lib.hid (show FreshI w.heap.size wr u7 (rowsOut (m : Int) zs) from by
        have h1 := hO.fresh
        rw [hkl] at h1
        simpa [rowsOut] using h1)
      clear hO hkl
      go_wp2_with fail
      go_ret2
      exact ⟨_, rfl, Hfr.out, hbl⟩

theorem unwrapRowsS_no (n : Int) (b off cap : Nat) (zs : List Int) (w : World) (hi : IntsIn w b off zs) (hl : zs.length ≤ 1000000) (hc : wcode n zs ≠ 0) :
    Calls Try.prog 7 #[.int .i64 n, .slice (some ⟨b, off, none⟩) zs.length cap] w (ResI w [] (wcode n zs)) := by
  have hd : (wcode n zs != 0) = true := by simpa using hc
  have HW := l07Code_any n b off cap zs w hi hl
  generalize wcode n zs = c at *
  clear hc
  go_enter Try.func7, Try.ntmps7
  go_wp2_with (first | (go_at_call 30; refine HW.mono ?_; rintro e w' ⟨rfl, rfl⟩))
  go_ret2
  exact ⟨_, rfl, .inl ⟨rfl, rfl⟩, Below.refl _ _⟩

/-- Both, in one form. -/
theorem unwrapRows_any (n : Int) (b off cap : Nat) (zs : List Int) (w : World) (hi : IntsIn w b off zs) (hl : zs.length ≤ 1000000) :
    Calls Try.prog 6 #[.int .i64 n, .slice (some ⟨b, off, none⟩) zs.length cap] w (ResI w (rowsRes n zs) (wcode n zs)) := by
  by_cases h : wcode n zs = 0
  · have := unwrapRows_yes n b off cap zs w hi h
    simpa [rowsRes, h] using this
  · have := unwrapRows_no n b off cap zs w hi hl h
    simpa [rowsRes, h] using this
theorem unwrapRowsS_any (n : Int) (b off cap : Nat) (zs : List Int) (w : World) (hi : IntsIn w b off zs) (hl : zs.length ≤ 1000000) :
    Calls Try.prog 7 #[.int .i64 n, .slice (some ⟨b, off, none⟩) zs.length cap] w (ResI w (rowsRes n zs) (wcode n zs)) := by
  by_cases h : wcode n zs = 0
  · have := unwrapRowsS_yes n b off cap zs w hi h
    simpa [rowsRes, h] using this
  · have := unwrapRowsS_no n b off cap zs w hi hl h
    simpa [rowsRes, h] using this

end Go.Proofs.Ytlfcgbhjmdmocaa
