/- The source of draws: one of some numbers, a side, a number near a range; how a source is made. -/
import Derived.Test.YtlfcgbhjmdmocaaDraws
import Derived.Laws.MakeOwn
namespace Go.Proofs.Ytlfcgbhjmdmocaa
open Go.RowKit

theorem DrawPost.weaken {b : Nat} {w : World} {R R' : Int → Prop} {e : Ending} {w' : World} (h : DrawPost b w R e w') (hr : ∀ r, R r → R' r) : DrawPost b w R' e w' := by
  obtain ⟨r, h1, h2, h3, h4⟩ := h
  exact ⟨r, h1, hr r h2, h3, h4⟩
/-- Behind blocks of the call's own. -/
theorem DrawPost.after {b : Nat} {w w1 : World} {R : Int → Prop} {e : Ending} {w' : World} (h : DrawPost b w1 R e w') (hw : Same (· = b) w w1) : DrawPost b w R e w' := by
  obtain ⟨r, h1, h2, h3, h4⟩ := h
  exact ⟨r, h1, h2, h3, hw.trans h4⟩

theorem getD_mem (zs : List Int) (j : Nat) (h : j < zs.length) : zs.getD j 0 ∈ zs := by
  rw [List.getD_eq_getElem?_getD, List.getElem?_eq_getElem h]; exact List.getElem_mem h

set_option maxHeartbeats 1000000 in
theorem l01Pick_any (b c off cap : Nat) (zs : List Int) (w : World) (hs : Src w b) (hi : IntsIn w c off zs) (hne : ¬ c = b) (h1 : 1 ≤ zs.length) (h2 : zs.length ≤ 1000) :
    Calls Try.prog 43 #[.pointer (some ⟨b, 0, none⟩), .slice (some ⟨c, off, none⟩) zs.length cap] w (DrawPost b w (· ∈ zs)) := by
  go_enter Try.func43, Try.ntmps43
  go_wp2_with fail
  refine (l01Next_any b zs.length _ hs (by omega)).mono ?_
  rintro e w1 ⟨r, rfl, ⟨r0, -, r1⟩, hs1, hsm⟩
  have r1' := r1 (by omega)
  have hcell := (hi.same hsm hne).cell r.toNat (by omega)
  clear r1 hi
  go_wp2
  go_ret
  exact ⟨_, rfl, List.getElem_mem _, hs1, hsm⟩

/-- A list just laid reads as it was written. -/
theorem ints_new (w : World) (zs : List Int) (t : TypeId) : IntsIn (w.alloc (.cells (zs.map (Value.int .i64)).toArray t)) w.heap.size 0 zs :=
  ⟨by simp, fun j hj => by
    rw [World.cell?_alloc_at _ _ _ _ rfl]
    simp [hj, List.getD_eq_getElem?_getD]⟩

set_option maxHeartbeats 1000000 in
theorem l01DrawSide_any (b : Nat) (w : World) (hs : Src w b) :
    Calls Try.prog 40 #[.pointer (some ⟨b, 0, none⟩)] w (DrawPost b w (fun r => sideB r = true)) := by
  have hlt := hs.lt
  have hA : Same (· = b) w (w.alloc (.cells #[.int .i64 1, .int .i64 2, .int .i64 2, .int .i64 4, .int .i64 4, .int .i64 4, .int .i64 8] 2)) := (Same.refl _ _).alloc _
  go_enter Try.func40, Try.ntmps40
  go_wp2_with fail
  refine (l01Pick_any b w.heap.size 0 7 [1, 2, 2, 4, 4, 4, 8] _ (hs.same ((Same.refl (fun _ => False) _).alloc _) (fun _ _ f => f)) (ints_new _ _ _) (by omega) (by simp) (by simp)).mono ?_
  intro e w1 h
  obtain ⟨r, rfl, hr, hs1, hsm⟩ := h.after hA
  go_wp2
  go_ret
  refine ⟨_, rfl, ?_, hs1, hsm⟩
  simp at hr
  exact sideB_iff.2 (by omega)

set_option maxHeartbeats 1000000 in
theorem l01Near_any (b : Nat) (most : Int) (w : World) (hs : Src w b) (h0 : -1000000 ≤ most) (h1 : most ≤ 1000000) :
    Calls Try.prog 44 #[.pointer (some ⟨b, 0, none⟩), .int .i64 most] w (DrawPost b w (fun r => -4611686018427387904 ≤ r ∧ r ≤ 4611686018427387904)) := by
  have hlt := hs.lt
  go_enter Try.func44, Try.ntmps44
  go_wp2_with fail
  refine (l01Next_any b 14 _ hs (by omega)).mono ?_
  rintro e w1 ⟨r, rfl, ⟨r0, -, r1⟩, hs1, hsm⟩
  by_cases hr : r = 0
  · subst hr
    go_wp2_with fail
    refine (l01Pick_any b w1.heap.size 0 4 [-1, most + 1, 1099511627776, -4611686018427387904] _ (hs1.same ((Same.refl (fun _ => False) _).alloc _) (fun _ _ f => f)) (ints_new _ _ _) (by have := hs1.lt; omega) (by simp) (by simp)).mono ?_
    intro e w2 h
    obtain ⟨r, rfl, hr, hs2, hsm2⟩ := h.after ((Same.refl _ _).alloc _)
    go_wp2
    go_ret
    refine ⟨_, rfl, ?_, hs2, hsm.trans hsm2⟩
    simp at hr
    omega
  · go_wp2_with fail
    refine (l01Next_any b (most + 1) _ hs1 (by omega)).mono ?_
    rintro e w2 ⟨r2, rfl, ⟨g0, g1, g2⟩, hs2, hsm2⟩
    go_wp2
    go_ret
    refine ⟨_, rfl, ?_, hs2, hsm.trans hsm2⟩
    omega

/-- What making a source leaves. -/
def FromPost (w : World) (e : Ending) (w' : World) : Prop := e = .returned (.pointer (some ⟨w.heap.size, 0, none⟩)) ∧ Src w' w.heap.size ∧ Below w.heap.size w w'

theorem src_made {w w' : World} {a : Option Addr} {len cap : Nat} {hash : Int} (hl : len ≤ 4096) (hc : BytesAt w a len)
    (hb : w'.heap[w.heap.size]? = some (.cells #[.slice a len cap, .int .i64 0, .int .u64 hash] 72 (0, 0))) (hw : Below w.heap.size w w') : Src w' w.heap.size :=
  ⟨a, len, cap, 0, hash, hb, by omega, by omega, hl, fun j hj => by
    obtain ⟨b, off, c, e, lt, hcell, h0, h1⟩ := hc j hj
    exact ⟨b, off, c, e, lt, (hw.cell (p := ⟨b, off + j, none⟩) lt).trans hcell, h0, h1⟩⟩

set_option maxRecDepth 100000 in
set_option maxHeartbeats 1000000 in
theorem l01From_any (a : Option Addr) (len cap : Nat) (w : World) (hl : len ≤ 4096) (hc : BytesAt w a len) :
    Calls Try.prog 25 #[.slice a len cap] w (FromPost w) := by
  have hc' := hc
  go_enter Try.func25, Try.ntmps25
  go_wp2
  go_loopw [4] (fun i wr => ∃ k : Nat, k ≤ len ∧ i = .int .i64 k ∧ Below w.heap.size w wr ∧ ∃ h, wr.heap[w.heap.size]? = some (.cells #[.slice a len cap, .int .i64 0, .int .u64 h] 72 (0, 0)))
    (fun i _ => len - (intOf i).toNat)
  case atStart => exact ⟨0, Nat.zero_le _, rfl, (Below.refl _ _).alloc (Nat.le_refl _) _, _, heap_alloc_new _ _⟩
  case round =>
    obtain ⟨k, hk, rfl, hbl, h, hb⟩ := hrel
    by_cases hlt : k < len
    · obtain ⟨b, off, u, rfl, lt, hcell, u0, u1⟩ := hc k hlt
      have hcell' : wr.cell? ⟨b, off + k, none⟩ = some (.int .u8 u) := (hbl.cell (p := ⟨b, off + k, none⟩) lt).trans hcell
      have hne : ¬ b = w.heap.size := by omega
      obtain ⟨k1, k2, k3⟩ := cells_of hb
      have c2 := k1 2
      have f2 := k2 2
      simp at c2
      have Hb := Lib.hid hb
      clear hb hcell k1 k2 hc hc'
      go_wp2
      go_region
      go_wp2
      go_roundw
      case rel =>
        refine ⟨k + 1, by omega, by go_num, ?_, IntKind.u64.wrap (IntKind.u64.wrap (IntKind.u64.wrap (h * 1099511628211) + u) + 41), ?_⟩
        · first | exact (hbl.drew).setCell (Nat.le_refl _) _ | exact (hbl.setCell (Nat.le_refl _) _).drew
        · exact src_set2 (w := wr) Hb.out
      case measure => simp [intOf]; omega
    · have Hb := Lib.hid hb
      clear hb
      go_wp2
      go_ret
      exact ⟨rfl, src_made hl hc' Hb.out hbl, hbl⟩

end Go.Proofs.Ytlfcgbhjmdmocaa
