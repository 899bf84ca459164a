/- The dice of the laws: the same as the source of draws. -/
import Derived.Test.YtlfcgbhjmdmocaaPick
namespace Go.Proofs.Ytlfcgbhjmdmocaa
open Go.RowKit

/-- A source: its block's cells. -/
structure Dice (w : World) (b : Nat) : Prop where
  cells : ∃ a len cap at' hash, w.heap[b]? = some (.cells #[.slice a len cap, .int .i64 at', .int .u64 hash] 69 (0, 0)) ∧ 0 ≤ at' ∧ at' ≤ 100000 ∧ len ≤ 4096 ∧
    ∀ j, j < len → ∃ c off u, a = some ⟨c, off, none⟩ ∧ c < b ∧ w.cell? ⟨c, off + j, none⟩ = some (.int .u8 u) ∧ 0 ≤ u ∧ u ≤ 255

theorem Dice.lt {w : World} {b : Nat} (h : Dice w b) : b < w.heap.size := by
  obtain ⟨_, _, _, _, _, hb, _⟩ := h
  exact lt_of_block hb

theorem Dice.same {S : Nat → Prop} {w w' : World} {b : Nat} (h : Dice w b) (hs : Same S w w') (hS : ∀ k, k ≤ b → ¬ S k) : Dice w' b := by
  have hlt := h.lt
  obtain ⟨a, len, cap, at', hash, hb, h1, h2, h5, h6⟩ := h
  refine ⟨a, len, cap, at', hash, (hs.block b hlt (hS b (Nat.le_refl _))).trans hb, h1, h2, h5, fun j hj => ?_⟩
  obtain ⟨c, off, u, e, lt, hc, g0, g1⟩ := h6 j hj
  exact ⟨c, off, u, e, lt, (hs.cell (p := ⟨c, off + j, none⟩) (by simp; omega) (hS c (by omega))).trans hc, g0, g1⟩

theorem Dice.below {w w' : World} {b : Nat} (h : Dice w b) (hs : Below w.heap.size w w') : Dice w' b :=
  h.same (Same.of_below (fun _ => False) (Nat.le_refl _) hs) (fun _ _ f => f)

/-- What a throw leaves. -/
def ThrowPost (b : Nat) (w : World) (R : Int → Prop) (e : Ending) (w' : World) : Prop := ∃ r, e = .returned (.int .i64 r) ∧ R r ∧ Dice w' b ∧ Same (· = b) w w'

theorem mask24 (y : Int) (h : 0 ≤ y) (h' : y < 18446744073709551616) : 0 ≤ wrap64 (bits .and .u64 y 16777215) ∧ wrap64 (bits .and .u64 y 16777215) ≤ 16777215 := by
  rw [u64_and y 16777215 h h' (by omega) (by omega)]
  have hle : y.toNat &&& (16777215 : Int).toNat ≤ 16777215 := Nat.and_le_right
  have : wrap64 ((y.toNat &&& (16777215 : Int).toNat : Nat) : Int) = ((y.toNat &&& (16777215 : Int).toNat : Nat) : Int) := by
    unfold wrap64; omega
  rw [this]; omega
/-- The dice's block behind a throw. -/
theorem Dice.drawn {b : Nat} {w w' : World} (hs : Dice w b) (hsm : Same (· = b) w w')
    (h : ∀ a len cap at' hash, w.heap[b]? = some (.cells #[.slice a len cap, .int .i64 at', .int .u64 hash] 69 (0, 0)) → 0 ≤ at' → at' ≤ 100000 → len ≤ 4096 →
      ∃ at2 hash2, w'.heap[b]? = some (.cells #[.slice a len cap, .int .i64 at2, .int .u64 hash2] 69 (0, 0)) ∧ 0 ≤ at2 ∧ at2 ≤ 100000) : Dice w' b := by
  have hlt := hs.lt
  obtain ⟨a, len, cap, at', hash, hb, h1, h2, h5, h6⟩ := hs
  obtain ⟨at2, hash2, hb2, g1, g2⟩ := h a len cap at' hash hb h1 h2 h5
  refine ⟨a, len, cap, at2, hash2, hb2, g1, g2, h5, fun j hj => ?_⟩
  obtain ⟨c, off, u, e, lt, hc, g0, g1⟩ := h6 j hj
  exact ⟨c, off, u, e, lt, (hsm.cell (p := ⟨c, off + j, none⟩) (by simp; omega) (by simp; omega)).trans hc, g0, g1⟩

set_option maxHeartbeats 1000000 in
theorem below_any (b : Nat) (n : Int) (w : World) (hs : Dice w b) (hn : n ≤ 9223372036854775807) :
    Calls Try.prog 23 #[.pointer (some ⟨b, 0, none⟩), .int .i64 n] w (ThrowPost b w (InDraw n)) := by
  have hs' := hs
  obtain ⟨a, len, cap, at', hash, hb, a0, a1, hl, hc⟩ := hs
  by_cases hn1 : n < 1
  · go_enter Try.func23, Try.ntmps23
    go_wp2
    go_ret
    exact ⟨0, rfl, ⟨by omega, fun _ => rfl, fun h => by omega⟩, hs', Same.refl _ _⟩
  · obtain ⟨k1, k2, k3⟩ := cells_of hb
    have c0 := k1 0
    have c1 := k1 1
    have c2 := k1 2
    have f1 := k2 1
    have f2 := k2 2
    simp at c0 c1 c2
    have hu := u64_bd (IntKind.u64.wrap (hash * 6364136223846793005) + 1442695040888963407)
    have hx := mask24 _ hu.1 hu.2
    clear hu k1 k2
    by_cases hlt : at' < (len : Int)
    · obtain ⟨c, off, u, rfl, lt, hcc, u0, u1⟩ := hc at'.toNat (by omega)
      have hne : ¬ c = b := by omega
      clear hc
      go_enter Try.func23, Try.ntmps23
      go_wp2
      generalize hH : IntKind.u64.wrap (IntKind.u64.wrap (hash * 6364136223846793005) + 1442695040888963407) = H at hx ⊢
      clear hH
      generalize hX : wrap64 (bits BinOp.and IntKind.u64 (H / 8589934592) 16777215) = x at hx ⊢
      clear hX
      go_region
      go_wp2
      go_region
      go_wp2
      go_ret
      refine ⟨_, rfl, draw_range _ _ (by omega) hn1, ?_, ?_⟩
      · refine Dice.drawn hs' ?_ ?_
        · repeat (first | exact Same.refl _ _ | refine Same.setAt ?_ _ _ | refine Same.drew ?_)
        · intro a2 l2 c2 at2 h2 hb2 b0 b1 _
          rw [hb] at hb2
          simp only [Option.some.injEq, Obj.cells.injEq, Array.mk.injEq, List.cons.injEq, Value.slice.injEq, Value.int.injEq] at hb2
          obtain ⟨⟨⟨rfl, rfl, rfl⟩, ⟨_, rfl⟩, _⟩, _⟩ := hb2
          exact ⟨_, _, src_set1 (src_set2 hb), by omega, by omega⟩
      · repeat (first | exact Same.refl _ _ | refine Same.setAt ?_ _ _ | refine Same.drew ?_)
    · clear hc
      go_enter Try.func23, Try.ntmps23
      go_wp2
      generalize hH : IntKind.u64.wrap (IntKind.u64.wrap (hash * 6364136223846793005) + 1442695040888963407) = H at hx ⊢
      clear hH
      generalize hX : wrap64 (bits BinOp.and IntKind.u64 (H / 8589934592) 16777215) = x at hx ⊢
      clear hX
      go_region
      go_wp2
      go_ret
      refine ⟨_, rfl, draw_range _ _ (by omega) hn1, ?_, ?_⟩
      · refine Dice.drawn hs' ?_ ?_
        · repeat (first | exact Same.refl _ _ | refine Same.setAt ?_ _ _ | refine Same.drew ?_)
        · intro a2 l2 c2 at2 h2 hb2 b0 b1 _
          rw [hb] at hb2
          simp only [Option.some.injEq, Obj.cells.injEq, Array.mk.injEq, List.cons.injEq, Value.slice.injEq, Value.int.injEq] at hb2
          obtain ⟨⟨⟨rfl, rfl, rfl⟩, ⟨_, rfl⟩, _⟩, _⟩ := hb2
          exact ⟨_, _, src_set2 hb, by omega, by omega⟩
      · repeat (first | exact Same.refl _ _ | refine Same.setAt ?_ _ _ | refine Same.drew ?_)

def RollPost (w : World) (e : Ending) (w' : World) : Prop := e = .returned (.pointer (some ⟨w.heap.size, 0, none⟩)) ∧ Dice w' w.heap.size ∧ Below w.heap.size w w'

theorem dice_made {w w' : World} {a : Option Addr} {len cap : Nat} {hash : Int} (hl : len ≤ 4096) (hc : BytesAt w a len)
    (hb : w'.heap[w.heap.size]? = some (.cells #[.slice a len cap, .int .i64 0, .int .u64 hash] 69 (0, 0))) (hw : Below w.heap.size w w') : Dice w' w.heap.size :=
  ⟨a, len, cap, 0, hash, hb, by omega, by omega, hl, fun j hj => by
    obtain ⟨b, off, c, e, lt, hcell, h0, h1⟩ := hc j hj
    exact ⟨b, off, c, e, lt, (hw.cell (p := ⟨b, off + j, none⟩) lt).trans hcell, h0, h1⟩⟩

set_option maxRecDepth 100000 in
set_option maxHeartbeats 1000000 in
theorem roll_any (a : Option Addr) (len cap : Nat) (salt : Int) (w : World) (hl : len ≤ 4096) (hc : BytesAt w a len) :
    Calls Try.prog 22 #[.slice a len cap, .int .u64 salt] w (RollPost w) := by
  have hc' := hc
  go_enter Try.func22, Try.ntmps22
  go_wp2
  go_loopw [6] (fun i wr => ∃ k : Nat, k ≤ len ∧ i = .int .i64 k ∧ Below w.heap.size w wr ∧ ∃ h, wr.heap[w.heap.size]? = some (.cells #[.slice a len cap, .int .i64 0, .int .u64 h] 69 (0, 0)))
    (fun i _ => len - (intOf i).toNat)
  case atStart => exact ⟨0, Nat.zero_le _, rfl, (Below.refl _ _).alloc (Nat.le_refl _) _, _, heap_alloc_new _ _⟩
  case round =>
    obtain ⟨k, hk, rfl, hbl, h, hb⟩ := hrel
    by_cases hlt : k < len
    · obtain ⟨b, off, u, rfl, lt, hcell, u0, u1⟩ := hc k hlt
      have hcell' : wr.cell? ⟨b, off + k, none⟩ = some (.int .u8 u) := (hbl.cell (p := ⟨b, off + k, none⟩) lt).trans hcell
      have hne : ¬ b = w.heap.size := by omega
      obtain ⟨k1, k2, k3⟩ := cells_of hb
      have c2 := k1 2
      have f2 := k2 2
      simp at c2
      have Hb := Lib.hid hb
      clear hb hcell k1 k2 hc hc'
      go_wp2
      go_region
      go_wp2
      go_roundw
      case rel =>
        refine ⟨k + 1, by omega, by go_num, ?_, IntKind.u64.wrap (IntKind.u64.wrap (IntKind.u64.wrap (h * 1099511628211) + u) + 5), ?_⟩
        · first | exact (hbl.drew).setCell (Nat.le_refl _) _ | exact (hbl.setCell (Nat.le_refl _) _).drew
        · exact src_set2 (w := wr) Hb.out
      case measure => simp [intOf]; omega
    · have Hb := Lib.hid hb
      clear hb
      go_wp2
      go_ret
      exact ⟨rfl, dice_made hl hc' Hb.out hbl, hbl⟩

end Go.Proofs.Ytlfcgbhjmdmocaa
