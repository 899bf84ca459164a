/- Slices of int64 that a call has made itself: appending one number, and what stays owned. -/
import Derived.Test.YtlfcgbhjmdmocaaFrame
namespace Go.Proofs.Ytlfcgbhjmdmocaa
open Go.RowKit

/-- A slice of int64 of the call's own (blocks from base on) that reads zs. -/
def OwnI (w : World) (base : Nat) (v : Value) (zs : List Int) : Prop := w.ownsRow base 2 1 v zs.length (zs.map (Value.int .i64))

theorem ownsRow_same {S : Nat → Prop} {w w' : World} {base : Nat} {e : TypeId} {size : Nat} {v : Value} {n : Nat} {xs : List Value} (h : w.ownsRow base e size v n xs) (hs : Same S w w') (hS : ∀ k, v.ownBlock = some k → ¬ S k) : w'.ownsRow base e size v n xs := by
  refine ⟨h.1, ?_⟩
  rcases h.2 with hn | ⟨g, cap, cur, rfl, hb, hgg, rest⟩
  · exact .inl hn
  · exact .inr ⟨g, cap, cur, rfl, hb, by rw [hs.block g (lt_of_block hgg) (hS g rfl)]; exact hgg, rest⟩

theorem OwnI.same {S : Nat → Prop} {w w' : World} {base : Nat} {v : Value} {zs : List Int} (h : OwnI w base v zs) (hs : Same S w w') (hS : ∀ k, base ≤ k → ¬ S k) : OwnI w' base v zs :=
  ownsRow_same h hs (fun k hk => hS k (h.lt k hk).1)
theorem OwnI.below {w w' : World} {base : Nat} {v : Value} {zs : List Int} (h : OwnI w base v zs) (hs : Below w.heap.size w w') : OwnI w' base v zs :=
  h.same (Same.of_below (fun _ => False) (Nat.le_refl _) hs) (fun _ _ f => f)

/-- A slice just laid that bears the numbers zs. -/
theorem OwnI.made {w : World} {base : Nat} (zs : List Int) (hb : base ≤ w.heap.size) (hm : zs.length ≤ maxLen) :
    OwnI (w.alloc (.cells (zs.map (Value.int .i64)).toArray 2)) base (.slice (some ⟨w.heap.size, 0, none⟩) zs.length zs.length) zs :=
  ⟨by simp, .inr ⟨w.heap.size, zs.length, _, rfl, hb, heap_alloc_new w _, Nat.le_refl _, hm, by simp, by simp [List.take_of_length_le]⟩⟩

theorem Same.grown {S : Nat → Prop} {a w w' : World} {row : Option Nat} (h : Same S a w) (hg : w.grownBy w' row) (hr : ∀ k, row = some k → a.heap.size ≤ k ∨ S k) : Same S a w' :=
  ⟨hg.os.trans h.os, hg.tape.trans h.tape, hg.output.trans h.output, Nat.le_trans h.size hg.size, fun k hk hs =>
    (hg.block k (Nat.lt_of_lt_of_le hk h.size) (fun e => by rcases hr k e.symm with g | g; · omega
                                                            · exact hs g)).trans (h.block k hk hs)⟩

/-- What is owned and is not nil, as a slice that reads. -/
theorem OwnI.reads {w : World} {base : Nat} {v : Value} {zs : List Int} (h : OwnI w base v zs) (hz : 0 < zs.length) :
    ∃ g cap, v = .slice (some ⟨g, 0, none⟩) zs.length cap ∧ base ≤ g ∧ zs.length ≤ cap ∧ IntsIn w g 0 zs ∧ (∀ j, w.frozen? ⟨g, j, none⟩ = false) := by
  rcases h.2 with ⟨_, h0⟩ | ⟨g, cap, cur, rfl, hb, hg, hnc, hcm, hcs, htake⟩
  · omega
  · refine ⟨g, cap, rfl, hb, hnc, ⟨lt_of_block hg, fun j hj => ?_⟩, (cells_of hg).2.1⟩
    rw [(cells_of hg).1]
    have h1 : (cur.toList.take (zs.length * 1))[j]? = (zs.map (Value.int .i64))[j]? := by rw [htake]
    rw [List.getElem?_take, if_pos (by omega)] at h1
    simp only [Nat.zero_add]
    rw [← Array.getElem?_toList, h1]
    simp [hj, List.getD_eq_getElem?_getD]

theorem info_i64 : (Try.prog.info? 2).map (fun i => (i.zero, i.size, i.bytes)) = some (some (.int .i64 0), 1, 8) := by kernel_rfl

/-- 'append(s, z)' of one number onto a slice of the call's own. -/
theorem wpList_push {w : World} {ops : Array Oper} {rest : List Oper} {o : Oper} {a : Act} {Q : Exit → Act → World → Prop} (hgd : o.guard = none) (s x : Operand)
    (ho : o.op = .call { callee := .builtin .append, args := #[s, x], argTypes := #[24, 24] })
    (base : Nat) (v : Value) (zs : List Int) (z : Int) (g c : Nat) (hs : a.eval s = v) (hown : OwnI w base v zs) (hx : a.eval x = .slice (some ⟨g, 0, none⟩) 1 c)
    (hc : w.cell? ⟨g, 0, none⟩ = some (.int .i64 z)) (hlen : zs.length ≤ 1000000) (hbase : base ≤ w.heap.size)
    (h : ∀ v' w', OwnI w' base v' (zs ++ [z]) → w.grownBy w' v.ownBlock → wpList Try.prog ops Q rest (a.put o.dst v') w') : wpList Try.prog ops Q (o :: rest) a w := by
  obtain ⟨i0, hi, hz0, hz1, hz2⟩ := info_parts info_i64
  refine wpList_append_own w hgd s x 24 ho base 2 i0 (.int .i64 0) 1 8 Try.underlying24 hi hz0 hz1 hz2 rfl (by decide) v zs.length (zs.map (Value.int .i64)) hs hown
    ⟨g, 0, none⟩ 1 c [.int .i64 z] hx rfl ?_ ?_ ?_ ?_ hbase ?_
  · intro j u hj
    match j, hj with
    | 0, hj => simp at hj; subst hj; simpa [Addr.add] using hc
  · intro u hu; simp at hu; subst hu; rfl
  · unfold maxLen; omega
  · omega
  · intro v' w' h1 h2 _
    exact h v' w' (by simpa [OwnI] using h1) h2

end Go.Proofs.Ytlfcgbhjmdmocaa
