/- What a call leaves as it was: all blocks that were there, but for those of a set. -/
import Derived.Test.YtlfcgbhjmdmocaaProg
import Derived.WalkKit
import Derived.WalkLawsBesides
import Derived.WalkSpells
import Derived.Lib.Hide
namespace Go.Proofs.Ytlfcgbhjmdmocaa
open Go.RowKit

/-- All blocks that were there are as they were, but for those of S. -/
structure Same (S : Nat → Prop) (w w' : World) : Prop where
  os : w'.os = w.os
  tape : w'.tape = w.tape
  output : w'.output = w.output
  size : w.heap.size ≤ w'.heap.size
  block : ∀ k, k < w.heap.size → ¬ S k → w'.heap[k]? = w.heap[k]?

theorem Same.refl (S : Nat → Prop) (w : World) : Same S w w := ⟨rfl, rfl, rfl, Nat.le_refl _, fun _ _ _ => rfl⟩
theorem Same.trans {S : Nat → Prop} {a b c : World} (h : Same S a b) (k : Same S b c) : Same S a c :=
  ⟨k.os.trans h.os, k.tape.trans h.tape, k.output.trans h.output, Nat.le_trans h.size k.size, fun i hi hs => (k.block i (Nat.lt_of_lt_of_le hi h.size) hs).trans (h.block i hi hs)⟩
theorem Same.mono {S T : Nat → Prop} {w w' : World} (h : Same S w w') (hST : ∀ k, S k → T k) : Same T w w' :=
  ⟨h.os, h.tape, h.output, h.size, fun k hk ht => h.block k hk (fun s => ht (hST k s))⟩
theorem Same.drew {S : Nat → Prop} {a w : World} (h : Same S a w) : Same S a w.drew := ⟨h.os, h.tape, h.output, h.size, h.block⟩
theorem Same.drewN {S : Nat → Prop} {a w : World} (h : Same S a w) (n : Nat) : Same S a (w.drewN n) := by
  induction n with
  | zero => exact h
  | succ n ih => exact ih.drew
theorem Same.alloc {S : Nat → Prop} {a w : World} (h : Same S a w) (o : Obj) : Same S a (w.alloc o) :=
  h.trans ⟨rfl, rfl, rfl, by simp, fun k hk _ => Below.heap_alloc _ _ _ hk⟩
theorem Same.setCell {S : Nat → Prop} {a w : World} (h : Same S a w) {p : Addr} (hp : a.heap.size ≤ p.block ∨ S p.block) (u : Value) : Same S a (w.setCell p u) :=
  ⟨h.os, h.tape, h.output, Nat.le_trans h.size (by simp [World.setCell]), fun k hk hs => by
    rw [Below.heap_setCell _ _ _ _ (by rcases hp with hp | hp; · omega
                                       · exact fun e => hs (e ▸ hp))]
    exact h.block k hk hs⟩
theorem Same.of_below {w w' : World} (S : Nat → Prop) {B : Nat} (hB : w.heap.size ≤ B) (h : Below B w w') : Same S w w' :=
  ⟨h.os, h.tape, h.output, h.size, fun k hk _ => h.block k (by omega)⟩
theorem Same.below {w w' : World} {S : Nat → Prop} {B : Nat} (h : Same S w w') (hB : B ≤ w.heap.size) (hS : ∀ k, k < B → ¬ S k) : Below B w w' :=
  ⟨h.os, h.tape, h.output, h.size, fun k hk => h.block k (by omega) (hS k hk)⟩
theorem Same.cell {S : Nat → Prop} {w w' : World} (h : Same S w w') {p : Addr} (hp : p.block < w.heap.size) (hs : ¬ S p.block) : w'.cell? p = w.cell? p := World.cell?_of_block (w := w) (h.block p.block hp hs)
theorem Same.frozen {S : Nat → Prop} {w w' : World} (h : Same S w w') {p : Addr} (hp : p.block < w.heap.size) (hs : ¬ S p.block) : w'.frozen? p = w.frozen? p := World.frozen?_of_block (w := w) (h.block p.block hp hs)

theorem Below.of_same {w w' : World} (h : Same (fun _ => False) w w') : Below w.heap.size w w' := h.below (Nat.le_refl _) (fun _ _ f => f)

/-- What a block holds, as cells and marks. -/
theorem cells_of {w : World} {b : Nat} {cs : Array Value} {t : TypeId} (h : w.heap[b]? = some (.cells cs t (0, 0))) :
    (∀ o, w.cell? ⟨b, o, none⟩ = cs[o]?) ∧ (∀ o, w.frozen? ⟨b, o, none⟩ = false) ∧ b < w.heap.size :=
  ⟨fun o => by simp [World.cell?, h], fun o => by simp [World.frozen?, h], lt_of_block h⟩

/-- Old cells and marks behind a call that left them. -/
theorem bcell {W w1 : World} (hb : Below W.heap.size W w1) : (∀ b o, b < W.heap.size → w1.cell? ⟨b, o, none⟩ = W.cell? ⟨b, o, none⟩) ∧ (∀ b o, b < W.heap.size → w1.frozen? ⟨b, o, none⟩ = W.frozen? ⟨b, o, none⟩) :=
  ⟨fun b o h => hb.cell (p := ⟨b, o, none⟩) h, fun b o h => hb.frozen (p := ⟨b, o, none⟩) h⟩

/-- A readable row of int64. -/
structure IntsIn (w : World) (b off : Nat) (zs : List Int) : Prop where
  lt : b < w.heap.size
  cell : ∀ j, j < zs.length → w.cell? ⟨b, off + j, none⟩ = some (.int .i64 (zs.getD j 0))

theorem IntsIn.same {S : Nat → Prop} {w w' : World} {b off : Nat} {zs : List Int} (h : IntsIn w b off zs) (hs : Same S w w') (hb : ¬ S b) : IntsIn w' b off zs :=
  ⟨Nat.lt_of_lt_of_le h.lt hs.size, fun j hj => (hs.cell (p := ⟨b, off + j, none⟩) h.lt hb).trans (h.cell j hj)⟩
theorem IntsIn.below {B : Nat} {w w' : World} {b off : Nat} {zs : List Int} (h : IntsIn w b off zs) (hs : Below B w w') (hb : b < B) : IntsIn w' b off zs :=
  ⟨Nat.lt_of_lt_of_le h.lt hs.size, fun j hj => (hs.cell (p := ⟨b, off + j, none⟩) hb).trans (h.cell j hj)⟩

end Go.Proofs.Ytlfcgbhjmdmocaa
