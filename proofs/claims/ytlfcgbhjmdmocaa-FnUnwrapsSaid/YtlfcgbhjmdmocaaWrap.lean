/- WrapHeights. -/
import Derived.Test.YtlfcgbhjmdmocaaClone
namespace Go.Proofs.Ytlfcgbhjmdmocaa
open Go.RowKit

def wrapRes (n : Int) (zs : List Int) : List Int := if hmB n zs = true then zs.map wrapH else []
def wrapCode (n : Int) (zs : List Int) : Int := if hmB n zs = true then 0 else 1

theorem hmB_true {n : Int} {zs : List Int} (h : hmB n zs = true) : sideB n = true ∧ (zs.length : Int) = n * n ∧ ∀ z ∈ zs, -100000 ≤ z ∧ z ≤ 100000 := by
  simp only [hmB, Bool.and_eq_true, beq_iff_eq, Bool.not_eq_true'] at h
  refine ⟨h.1.1, h.1.2, fun z hz => ?_⟩
  have : ¬ outR (-100000) 100000 z = true := fun hc => by
    have h1 := List.any_eq_true.2 ⟨z, hz, hc⟩
    rw [h.2] at h1
    cases h1
  simp [outR, inR] at this
  omega
theorem getD_bd2 {zs : List Int} (h : ∀ z ∈ zs, -100000 ≤ z ∧ z ≤ 100000) (j : Nat) : -100000 ≤ zs.getD j 0 ∧ zs.getD j 0 ≤ 100000 := by
  rcases Nat.lt_or_ge j zs.length with hj | hj
  · exact h _ (getD_mem' zs j hj)
  · simp [List.getD_eq_getElem?_getD, List.getElem?_eq_none hj]
theorem map_take_succ (zs : List Int) (f : Int → Int) (k : Nat) (h : k < zs.length) : (zs.take (k + 1)).map f = (zs.take k).map f ++ [f (zs.getD k 0)] := by
  rw [List.take_succ_eq_append_getElem h, List.map_append]; simp [List.getD_eq_getElem?_getD, h]

set_option maxRecDepth 100000 in
set_option maxHeartbeats 4000000 in
theorem wrapHeights_any (n : Int) (b off cap : Nat) (zs : List Int) (w : World) (hi : IntsIn w b off zs) (hl : zs.length ≤ 1000000) :
    Calls Try.prog 11 #[.int .i64 n, .slice (some ⟨b, off, none⟩) zs.length cap] w (ResI w (wrapRes n zs) (wrapCode n zs)) := by
  have hlt := hi.lt
  cases hm : hmB n zs with
  | false =>
    have e1 : wrapRes n zs = [] := by simp [wrapRes, hm]
    have e2 : wrapCode n zs = 1 := by simp [wrapCode, hm]
    rw [e1, e2]
    have Hm := Lib.hid hm
    clear hm e1 e2
    go_enter Try.func11, Try.ntmps11
    go_wp2_with (first | (go_at_call 32; refine (isHeightMap_any n b off cap zs _ hi hl).mono ?_; rintro e w' ⟨rfl, rfl⟩; rw [Hm.out]))
    go_ret2
    exact ⟨_, rfl, .inl ⟨rfl, rfl⟩, Below.refl _ _⟩
  | true =>
    have e1 : wrapRes n zs = zs.map wrapH := by simp [wrapRes, hm]
    have e2 : wrapCode n zs = 0 := by simp [wrapCode, hm]
    rw [e1, e2]
    have hzb := getD_bd2 (hmB_true hm).2.2
    have Hm := Lib.hid hm
    have Hzb := Lib.hid hzb
    clear hm e1 e2 hzb
    have hO := OwnI.made (w := w) (base := w.heap.size) [] (Nat.le_refl _) (by simp)
    go_enter Try.func11, Try.ntmps11
    go_wp2_with (first | (go_at_call 32; refine (isHeightMap_any n b off cap zs _ hi hl).mono ?_; rintro e w' ⟨rfl, rfl⟩; rw [Hm.out]))
    go_loopw [6, 16] (fun v i wr => ∃ k : Nat, k ≤ zs.length ∧ i = .int .i64 k ∧ OwnI wr w.heap.size v ((zs.take k).map wrapH) ∧ Below w.heap.size w wr)
      (fun _ i _ => zs.length - (intOf i).toNat)
    case atStart => exact ⟨0, Nat.zero_le _, rfl, by simpa using hO, (Below.refl _ _).alloc (Nat.le_refl _) _⟩
    case round =>
      clear hO
      obtain ⟨k, hk, rfl, hO, hbl⟩ := hrel
      by_cases hlt2 : k < zs.length
      · have hir := hi.below hbl hlt
        have ck := hir.cell k hlt2
        have bk := Hzb.out k
        have hbs := hbl.size
        have hll : ((zs.take k).map wrapH).length ≤ 1000000 := by simp; omega
        have hob : ∀ j, u6.ownBlock = some j → w.heap.size ≤ j := fun j hj => (hO.lt j hj).1
        have Hst := Lib.hid (map_take_succ zs wrapH k hlt2)
        generalize zs.getD k 0 = zk at ck bk Hst
        clear hir
        go_wp2_with (first
          | (go_at_call 33; refine (modulo_any _ _ _ (by omega) (by omega) (by omega) (by omega)).mono ?_; rintro e w' ⟨rfl, rfl⟩)
          | (at_builtin; refine wpList_push rfl (.tmp 20) (.tmp 23) rfl w.heap.size _ ((zs.take k).map wrapH) _ _ 1 rfl (hO.same (S := fun _ => False) ((Same.refl _ _).alloc _) (fun _ _ f => f)) rfl (World.cell?_alloc_at _ _ _ _ rfl) hll (by simp; omega) ?_))
        intro v' w' ho hg
        have hb2 : Below w.heap.size w w' := (hbl.alloc hbs _).grown hg (by simp; omega) (fun j hj => hob j hj)
        have Ho := Lib.hid ho
        clear hg ho hO hob
        go_wp2_with fail
        go_roundw
        case rel => exact ⟨k + 1, by omega, by go_num, by have h := Ho.out; rw [Hst.out]; simpa [List.map_take, wrapH] using h, hb2⟩
        case measure => simp [intOf]; omega
      · have hxe : k = zs.length := by omega
        have Hfr := Lib.hid (show FreshI w.heap.size wr u6 (zs.map wrapH) from by
          have h1 := hO.fresh
          rw [hxe, List.take_length] at h1
          exact h1)
        clear hO hxe
        go_wp2_with fail
        go_ret2
        exact ⟨_, rfl, Hfr.out, hbl⟩

end Go.Proofs.Ytlfcgbhjmdmocaa
