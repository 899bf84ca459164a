/- The source of draws: it stays a source, and its numbers lie in their range. -/
import Derived.Test.YtlfcgbhjmdmocaaFrame
import Derived.Test.YtlfcgbhjmdmocaaInts
namespace Go.Proofs.Ytlfcgbhjmdmocaa
open Go.RowKit

/-- Readable bytes. -/
def BytesAt (w : World) (a : Option Addr) (len : Nat) : Prop :=
  ∀ j, j < len → ∃ b off c, a = some ⟨b, off, none⟩ ∧ b < w.heap.size ∧ w.cell? ⟨b, off + j, none⟩ = some (.int .u8 c) ∧ 0 ≤ c ∧ c ≤ 255

theorem BytesAt.below {B : Nat} {w w' : World} {a : Option Addr} {len : Nat} (h : BytesAt w a len) (hs : Below B w w') (hB : w.heap.size ≤ B) : BytesAt w' a len := fun j hj => by
  obtain ⟨b, off, c, e, lt, hc, h0, h1⟩ := h j hj
  exact ⟨b, off, c, e, Nat.lt_of_lt_of_le lt hs.size, (hs.cell (p := ⟨b, off + j, none⟩) (by simp; omega)).trans hc, h0, h1⟩

/-- A source: its block's cells. -/
structure Src (w : World) (b : Nat) : Prop where
  cells : ∃ a len cap at' hash, w.heap[b]? = some (.cells #[.slice a len cap, .int .i64 at', .int .u64 hash] 72 (0, 0)) ∧ 0 ≤ at' ∧ at' ≤ 100000 ∧ len ≤ 4096 ∧
    ∀ j, j < len → ∃ c off u, a = some ⟨c, off, none⟩ ∧ c < b ∧ w.cell? ⟨c, off + j, none⟩ = some (.int .u8 u) ∧ 0 ≤ u ∧ u ≤ 255

theorem Src.lt {w : World} {b : Nat} (h : Src w b) : b < w.heap.size := by
  obtain ⟨_, _, _, _, _, hb, _⟩ := h
  exact lt_of_block hb

theorem Src.same {S : Nat → Prop} {w w' : World} {b : Nat} (h : Src w b) (hs : Same S w w') (hS : ∀ k, k ≤ b → ¬ S k) : Src w' b := by
  have hlt := h.lt
  obtain ⟨a, len, cap, at', hash, hb, h1, h2, h5, h6⟩ := h
  refine ⟨a, len, cap, at', hash, (hs.block b hlt (hS b (Nat.le_refl _))).trans hb, h1, h2, h5, fun j hj => ?_⟩
  obtain ⟨c, off, u, e, lt, hc, g0, g1⟩ := h6 j hj
  exact ⟨c, off, u, e, lt, (hs.cell (p := ⟨c, off + j, none⟩) (by simp; omega) (hS c (by omega))).trans hc, g0, g1⟩

theorem Src.below {w w' : World} {b : Nat} (h : Src w b) (hs : Below w.heap.size w w') : Src w' b :=
  h.same (Same.of_below (fun _ => False) (Nat.le_refl _) hs) (fun _ _ f => f)

/-- What is drawn: from 0 to n - 1, or 0. -/
def InDraw (n r : Int) : Prop := 0 ≤ r ∧ (n < 1 → r = 0) ∧ (1 ≤ n → r < n)

/-- What a draw leaves. -/
def DrawPost (b : Nat) (w : World) (R : Int → Prop) (e : Ending) (w' : World) : Prop := ∃ r, e = .returned (.int .i64 r) ∧ R r ∧ Src w' b ∧ Same (· = b) w w'

theorem mask31 (y : Int) (h : 0 ≤ y) (h' : y < 18446744073709551616) : 0 ≤ wrap64 (bits .and .u64 y 2147483647) ∧ wrap64 (bits .and .u64 y 2147483647) ≤ 2147483647 := by
  rw [u64_and y 2147483647 h h' (by omega) (by omega)]
  have hle : y.toNat &&& (2147483647 : Int).toNat ≤ 2147483647 := Nat.and_le_right
  have : wrap64 ((y.toNat &&& (2147483647 : Int).toNat : Nat) : Int) = ((y.toNat &&& (2147483647 : Int).toNat : Nat) : Int) := by
    unfold wrap64; omega
  rw [this]; omega
theorem u64_bd (x : Int) : 0 ≤ IntKind.u64.wrap x / 8589934592 ∧ IntKind.u64.wrap x / 8589934592 < 18446744073709551616 := by
  have : IntKind.u64.wrap x = x % 18446744073709551616 := by simp [IntKind.wrap, IntKind.signed, IntKind.bits]
  rw [this]; omega

/-- The source's block behind a draw. -/
theorem Src.drawn {b : Nat} {w w' : World} (hs : Src w b) (hsm : Same (· = b) w w')
    (h : ∀ a len cap at' hash, w.heap[b]? = some (.cells #[.slice a len cap, .int .i64 at', .int .u64 hash] 72 (0, 0)) → 0 ≤ at' → at' ≤ 100000 → len ≤ 4096 →
      ∃ at2 hash2, w'.heap[b]? = some (.cells #[.slice a len cap, .int .i64 at2, .int .u64 hash2] 72 (0, 0)) ∧ 0 ≤ at2 ∧ at2 ≤ 100000) : Src w' b := by
  have hlt := hs.lt
  obtain ⟨a, len, cap, at', hash, hb, h1, h2, h5, h6⟩ := hs
  obtain ⟨at2, hash2, hb2, g1, g2⟩ := h a len cap at' hash hb h1 h2 h5
  refine ⟨a, len, cap, at2, hash2, hb2, g1, g2, h5, fun j hj => ?_⟩
  obtain ⟨c, off, u, e, lt, hc, g0, g1⟩ := h6 j hj
  exact ⟨c, off, u, e, lt, (hsm.cell (p := ⟨c, off + j, none⟩) (by simp; omega) (by simp; omega)).trans hc, g0, g1⟩

theorem src_set2 {w : World} {b : Nat} {v0 v1 v2 u : Value} {t : TypeId} (h : w.heap[b]? = some (.cells #[v0, v1, v2] t (0, 0))) :
    (w.setCell ⟨b, 2, none⟩ u).heap[b]? = some (.cells #[v0, v1, u] t (0, 0)) := by
  rw [heap_setCell_same w b 2 _ t u h]; rfl
theorem src_set1 {w : World} {b : Nat} {v0 v1 v2 u : Value} {t : TypeId} (h : w.heap[b]? = some (.cells #[v0, v1, v2] t (0, 0))) :
    (w.setCell ⟨b, 1, none⟩ u).heap[b]? = some (.cells #[v0, u, v2] t (0, 0)) := by
  rw [heap_setCell_same w b 1 _ t u h]; rfl

theorem Same.setAt {b : Nat} {a w : World} (h : Same (· = b) a w) (o : Nat) (u : Value) : Same (· = b) a (w.setCell ⟨b, o, none⟩ u) := h.setCell (.inr rfl) u

theorem draw_range (x n : Int) (h0 : 0 ≤ x) (hn : 1 ≤ n) : InDraw n (x % n) :=
  ⟨Int.emod_nonneg _ (by omega), fun h => by omega, fun h => Int.emod_lt_of_pos _ (by omega)⟩

set_option maxHeartbeats 1000000 in
theorem l01Next_any (b : Nat) (n : Int) (w : World) (hs : Src w b) (hn : n ≤ 9223372036854775807) :
    Calls Try.prog 39 #[.pointer (some ⟨b, 0, none⟩), .int .i64 n] w (DrawPost b w (InDraw n)) := by
  have hs' := hs
  obtain ⟨a, len, cap, at', hash, hb, a0, a1, hl, hc⟩ := hs
  by_cases hn1 : n < 1
  · go_enter Try.func39, Try.ntmps39
    go_wp2
    go_ret
    exact ⟨0, rfl, ⟨by omega, fun _ => rfl, fun h => by omega⟩, hs', Same.refl _ _⟩
  · obtain ⟨k1, k2, k3⟩ := cells_of hb
    have c0 := k1 0
    have c1 := k1 1
    have c2 := k1 2
    have f1 := k2 1
    have f2 := k2 2
    simp at c0 c1 c2
    have hu := u64_bd (IntKind.u64.wrap (hash * 6364136223846793005) + 1442695040888963407)
    have hx := mask31 _ hu.1 hu.2
    clear hu k1 k2
    by_cases hlt : at' < (len : Int)
    · obtain ⟨c, off, u, rfl, lt, hcc, u0, u1⟩ := hc at'.toNat (by omega)
      have hne : ¬ c = b := by omega
      clear hc
      go_enter Try.func39, Try.ntmps39
      go_wp2
      generalize hH : IntKind.u64.wrap (IntKind.u64.wrap (hash * 6364136223846793005) + 1442695040888963407) = H at hx ⊢
      clear hH
      generalize hX : wrap64 (bits BinOp.and IntKind.u64 (H / 8589934592) 2147483647) = x at hx ⊢
      clear hX
      go_region
      go_wp2
      go_region
      go_wp2
      go_ret
      refine ⟨_, rfl, draw_range _ _ (by omega) hn1, ?_, ?_⟩
      · refine Src.drawn hs' ?_ ?_
        · repeat (first | exact Same.refl _ _ | refine Same.setAt ?_ _ _ | refine Same.drew ?_)
        · intro a2 l2 c2 at2 h2 hb2 b0 b1 _
          rw [hb] at hb2
          simp only [Option.some.injEq, Obj.cells.injEq, Array.mk.injEq, List.cons.injEq, Value.slice.injEq, Value.int.injEq] at hb2
          obtain ⟨⟨⟨rfl, rfl, rfl⟩, ⟨_, rfl⟩, _⟩, _⟩ := hb2
          exact ⟨_, _, src_set1 (src_set2 hb), by omega, by omega⟩
      · repeat (first | exact Same.refl _ _ | refine Same.setAt ?_ _ _ | refine Same.drew ?_)
    · clear hc
      go_enter Try.func39, Try.ntmps39
      go_wp2
      generalize hH : IntKind.u64.wrap (IntKind.u64.wrap (hash * 6364136223846793005) + 1442695040888963407) = H at hx ⊢
      clear hH
      generalize hX : wrap64 (bits BinOp.and IntKind.u64 (H / 8589934592) 2147483647) = x at hx ⊢
      clear hX
      go_region
      go_wp2
      go_ret
      refine ⟨_, rfl, draw_range _ _ (by omega) hn1, ?_, ?_⟩
      · refine Src.drawn hs' ?_ ?_
        · repeat (first | exact Same.refl _ _ | refine Same.setAt ?_ _ _ | refine Same.drew ?_)
        · intro a2 l2 c2 at2 h2 hb2 b0 b1 _
          rw [hb] at hb2
          simp only [Option.some.injEq, Obj.cells.injEq, Array.mk.injEq, List.cons.injEq, Value.slice.injEq, Value.int.injEq] at hb2
          obtain ⟨⟨⟨rfl, rfl, rfl⟩, ⟨_, rfl⟩, _⟩, _⟩ := hb2
          exact ⟨_, _, src_set2 hb, by omega, by omega⟩
      · repeat (first | exact Same.refl _ _ | refine Same.setAt ?_ _ _ | refine Same.drew ?_)

end Go.Proofs.Ytlfcgbhjmdmocaa
