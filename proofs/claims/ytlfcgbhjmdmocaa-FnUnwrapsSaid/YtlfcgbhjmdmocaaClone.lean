/- slices.Clone at []int64. -/
import Derived.Test.YtlfcgbhjmdmocaaHeights2
import Derived.StillTailTactics
namespace Go.Proofs.Ytlfcgbhjmdmocaa
open Go.RowKit

/-- 'append(s, t...)' onto a slice of the call's own. -/
theorem wpList_pushAll {w : World} {ops : Array Oper} {rest : List Oper} {o : Oper} {a : Act} {Q : Exit → Act → World → Prop} (hgd : o.guard = none) (s x : Operand)
    (ho : o.op = .call { callee := .builtin .append, args := #[s, x], argTypes := #[24, 24] })
    (base : Nat) (v : Value) (zs ys : List Int) (g off c : Nat) (hs : a.eval s = v) (hown : OwnI w base v zs) (hx : a.eval x = .slice (some ⟨g, off, none⟩) ys.length c)
    (hc : IntsIn w g off ys) (hlen : zs.length + ys.length ≤ 1000000) (hbase : base ≤ w.heap.size)
    (h : ∀ v' w', OwnI w' base v' (zs ++ ys) → w.grownBy w' v.ownBlock → wpList Try.prog ops Q rest (a.put o.dst v') w') : wpList Try.prog ops Q (o :: rest) a w := by
  obtain ⟨i0, hi, hz0, hz1, hz2⟩ := info_parts info_i64
  refine wpList_append_own w hgd s x 24 ho base 2 i0 (.int .i64 0) 1 8 Try.underlying24 hi hz0 hz1 hz2 rfl (by decide) v zs.length (zs.map (Value.int .i64)) hs hown
    ⟨g, off, none⟩ ys.length c (ys.map (Value.int .i64)) hx (by simp) ?_ ?_ ?_ ?_ hbase ?_
  · intro j u hj
    have hlt : j < ys.length := by
      rcases Nat.lt_or_ge j ys.length with h | h
      · exact h
      · simp [List.getElem?_eq_none h] at hj
    have hadd : (⟨g, off, none⟩ : Addr).add j = ⟨g, off + j, none⟩ := by unfold Addr.add; split <;> simp_all
    rw [hadd, hc.cell j hlt, ← hj]
    simp [hlt, List.getD_eq_getElem?_getD]
  · intro u hu; simp at hu; obtain ⟨z, _, rfl⟩ := hu; rfl
  · unfold maxLen; omega
  · omega
  · intro v' w' h1 h2 _
    exact h v' w' (by simpa [OwnI] using h1) h2

def ClonePost (w : World) (zs : List Int) (e : Ending) (w' : World) : Prop := ∃ v, e = .returned v ∧ OwnI w' w.heap.size v zs ∧ Below w.heap.size w w'

set_option maxRecDepth 100000 in
set_option maxHeartbeats 1000000 in
theorem clone_any (b off cap : Nat) (zs : List Int) (w : World) (hi : IntsIn w b off zs) (hl : zs.length ≤ 1000000) :
    Calls Try.prog 27 #[.slice (some ⟨b, off, none⟩) zs.length cap] w (ClonePost w zs) := by
  have hi' := hi.below ((Below.refl w.heap.size w).alloc (Nat.le_refl _) (.cells #[] 2)) hi.lt
  have hO := OwnI.made (w := w) (base := w.heap.size) [] (Nat.le_refl _) (by simp)
  have hlt := hi.lt
  have hnil := fun W => Lib.run_eql_slice_nil (P := Try.prog) W 24 2 (some ⟨b, off, none⟩) zs.length cap 0 0 Try.underlying24
  simp only [Option.isNone_some] at hnil
  go_enter Try.func27, Try.ntmps27
  go_wp2_with (at_builtin; refine wpList_pushAll rfl (.tmp 5) (.tmp 6) rfl w.heap.size _ [] zs b off cap rfl hO rfl hi' (by simpa using hl) (by simp) ?_)
  intro v' w' ho hg
  have hb : Below w.heap.size w w' := ((Below.refl w.heap.size w).alloc (Nat.le_refl _) (.cells #[] 2)).grown hg (by simp) (fun k hk => by simp [Value.ownBlock] at hk; omega)
  clear hg
  go_wp2
  go_ret
  exact ⟨v', rfl, by simpa using ho, hb⟩

end Go.Proofs.Ytlfcgbhjmdmocaa
