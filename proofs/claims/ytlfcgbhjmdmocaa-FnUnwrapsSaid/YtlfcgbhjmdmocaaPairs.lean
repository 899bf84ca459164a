/- A queue of pairs of int64 that is cut at its head and grows at its end. -/
import Derived.Test.YtlfcgbhjmdmocaaFloodI
namespace Go.Proofs.Ytlfcgbhjmdmocaa
open Go.RowKit

def pairOf (n a : Nat) : List Value := [.int .i64 ((a / n : Nat) : Int), .int .i64 ((a % n : Nat) : Int)]
def flatP (n : Nat) : List Nat → List Value
  | [] => []
  | a :: l => pairOf n a ++ flatP n l
theorem flatP_length (n : Nat) (l : List Nat) : (flatP n l).length = l.length * 2 := by
  induction l with
  | nil => rfl
  | cons a l ih => simp [flatP, pairOf, ih]; omega
theorem flatP_append (n : Nat) (l r : List Nat) : flatP n (l ++ r) = flatP n l ++ flatP n r := by
  induction l with
  | nil => rfl
  | cons a l ih => simp [flatP, ih]
/-- The queue. -/
structure QP (w : World) (n g off cap : Nat) (l : List Nat) : Prop where
  le : l.length ≤ cap
  row : ∃ cur, w.heap[g]? = some (.cells cur 58 (0, 0)) ∧ off + 2 * cap ≤ cur.size ∧ ∀ j u, (flatP n l)[j]? = some u → cur[off + j]? = some u

theorem QP.lt {w : World} {n g off cap : Nat} {l : List Nat} (h : QP w n g off cap l) : g < w.heap.size := by
  obtain ⟨cur, hc, _⟩ := h.row
  exact lt_of_block hc
theorem QP.same {S : Nat → Prop} {w w' : World} {n g off cap : Nat} {l : List Nat} (h : QP w n g off cap l) (hs : Same S w w') (hg : ¬ S g) : QP w' n g off cap l := by
  obtain ⟨cur, hc, h1, h2⟩ := h.row
  exact ⟨h.le, cur, (hs.block _ (lt_of_block hc) hg).trans hc, h1, h2⟩
theorem QP.cells {w : World} {n g off cap a : Nat} {l : List Nat} (h : QP w n g off cap (a :: l)) :
    w.cell? ⟨g, off, none⟩ = some (.int .i64 ((a / n : Nat) : Int)) ∧ w.cell? ⟨g, off + 1, none⟩ = some (.int .i64 ((a % n : Nat) : Int)) := by
  obtain ⟨cur, hc, h1, h2⟩ := h.row
  refine ⟨?_, ?_⟩
  · rw [(cells_of hc).1]; exact h2 0 _ rfl
  · rw [(cells_of hc).1]; exact h2 1 _ rfl
/-- Its head cut off. -/
theorem QP.tail {w : World} {n g off cap a : Nat} {l : List Nat} (h : QP w n g off cap (a :: l)) : QP w n g (if cap = 1 then off else off + 2) (cap - 1) l := by
  obtain ⟨cur, hc, h1, h2⟩ := h.row
  have hle := h.le
  simp only [List.length_cons] at hle
  refine ⟨by omega, cur, hc, by split <;> omega, ?_⟩
  intro j u hu
  by_cases hcap : cap = 1
  · have : l = [] := by rw [← List.length_eq_zero_iff]; omega
    subst this
    simp [flatP] at hu
  · rw [if_neg hcap]
    have := h2 (j + 2) u (by simpa [flatP, pairOf] using hu)
    rw [show off + 2 + j = off + (j + 2) by omega]
    exact this

theorem info_pair : (Try.prog.info? 58).map (fun i => (i.zero, i.size, i.bytes)) = some (some (.agg #[.int .i64 0, .int .i64 0]), 2, 16) := by kernel_rfl

theorem wpList_pushP {w : World} {ops : Array Oper} {rest : List Oper} {o : Oper} {a : Act} {Q : Exit → Act → World → Prop} (hgd : o.guard = none) (s x : Operand)
    (ho : o.op = .call { callee := .builtin .append, args := #[s, x], argTypes := #[59, 59] })
    (n g off cap : Nat) (l : List Nat) (t : Nat) (ln : Nat) (hln : ln = l.length) (hs : a.eval s = .slice (some ⟨g, off, none⟩) ln cap) (hq : QP w n g off cap l) (gx c : Nat) (hx : a.eval x = .slice (some ⟨gx, 0, none⟩) 1 c)
    (c0 : w.cell? ⟨gx, 0, none⟩ = some (.int .i64 ((t / n : Nat) : Int))) (c1 : w.cell? ⟨gx, 1, none⟩ = some (.int .i64 ((t % n : Nat) : Int))) (hlen : l.length ≤ 1000000)
    (h : ∀ g' off' cap' w', QP w' n g' off' cap' (l ++ [t]) → (g' = g ∨ w.heap.size ≤ g') → Same (· = g) w w' → wpList Try.prog ops Q rest (a.put o.dst (.slice (some ⟨g', off', none⟩) (ln + 1) cap')) w') : wpList Try.prog ops Q (o :: rest) a w := by
  subst hln
  obtain ⟨i0, hi, hz0, hz1, hz2⟩ := info_parts info_pair
  obtain ⟨cur, hc, h1, h2⟩ := hq.row
  have hle := hq.le
  refine wpList_append_arg w hgd s x 59 ho 58 i0 _ 2 16 Try.underlying59 hi hz0 hz1 hz2 rfl (by decide) g off l.length cap (flatP n l) hs (flatP_length n l) ?_
    ⟨gx, 0, none⟩ 1 c (pairOf n t) hx rfl ?_ ?_ ?_ ?_ ?_ ?_ ?_
  · intro j u hu; rw [(cells_of hc).1]; exact h2 j u hu
  · intro j u hu
    match j, hu with
    | 0, hu => simp [pairOf] at hu; subst hu; simpa [Addr.add] using c0
    | 1, hu => simp [pairOf] at hu; subst hu; simpa [Addr.add] using c1
  · intro u hu; simp [pairOf] at hu; rcases hu with rfl | rfl <;> rfl
  · intro hr j hj
    simp [pairOf] at hj
    refine ⟨?_, (cells_of hc).2.1 _⟩
    rw [(cells_of hc).1]
    simp; omega
  · unfold maxLen; omega
  · omega
  · intro hr
    have hset : w.setCells g (off + l.length * 2) (pairOf n t) = (w.setCell ⟨g, off + l.length * 2, none⟩ (.int .i64 ((t / n : Nat) : Int))).setCell ⟨g, off + l.length * 2 + 1, none⟩ (.int .i64 ((t % n : Nat) : Int)) := by
      rfl
    rw [hset]
    have e1 := heap_setCell_same w g (off + l.length * 2) cur 58 (.int .i64 ((t / n : Nat) : Int)) hc
    have e2 := heap_setCell_same _ g (off + l.length * 2 + 1) _ 58 (.int .i64 ((t % n : Nat) : Int)) e1
    refine h g off cap _ ⟨by simp; omega, _, e2, by simp; omega, ?_⟩ (.inl rfl) (((Same.refl (fun k => k = g) _).setCell (p := ⟨g, _, none⟩) (.inr rfl) _).setCell (p := ⟨g, _, none⟩) (.inr rfl) _)
    intro j u hu
    rw [flatP_append] at hu
    rw [Array.getElem?_setIfInBounds, Array.getElem?_setIfInBounds]
    rcases Nat.lt_or_ge j (l.length * 2) with hj | hj
    · rw [if_neg (by omega), if_neg (by omega)]
      rw [List.getElem?_append_left (by rw [flatP_length]; exact hj)] at hu
      exact h2 j u hu
    · rw [List.getElem?_append_right (by rw [flatP_length]; exact hj), flatP_length] at hu
      simp only [flatP, List.append_nil, pairOf] at hu
      rcases (by
        have : j - l.length * 2 < 2 := by
          rcases Nat.lt_or_ge (j - l.length * 2) 2 with h | h
          · exact h
          · rw [List.getElem?_eq_none (by simpa using h)] at hu; cases hu
        omega : j = l.length * 2 ∨ j = l.length * 2 + 1) with rfl | rfl
      · simp at hu
        subst hu
        rw [if_neg (by omega), if_pos rfl]
        simp; omega
      · simp at hu
        subst hu
        rw [if_pos (by omega)]
        simp; omega
  · intro hfull v' w' hown hgr
    rcases hown.2 with ⟨_, h0⟩ | ⟨g', cap', cur', rfl, hb, hg', hn1, hn2, hn3, htake⟩
    · omega
    · refine h g' 0 cap' w' ⟨by simpa using hn1, cur', hg', by omega, ?_⟩ (.inr hb) ⟨hgr.os, hgr.tape, hgr.output, hgr.size, fun k hk _ => hgr.block k hk (by simp)⟩
      intro j u hu
      rw [flatP_append, show flatP n [t] = pairOf n t by simp [flatP], ← htake] at hu
      rw [List.getElem?_take] at hu
      split at hu
      · simpa using hu
      · cases hu

end Go.Proofs.Ytlfcgbhjmdmocaa
