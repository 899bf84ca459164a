/- laws.FnUnwraps: words that its parts share. -/
import Derived.Test.YtlfcgbhjmdmocaaLawPure
import Derived.Test.YtlfcgbhjmdmocaaSlopesS
import Derived.Test.YtlfcgbhjmdmocaaDrawFl
import Derived.Test.YtlfcgbhjmdmocaaResS
import Derived.Test.YtlfcgbhjmdmocaaDice
import Derived.Deep.CutRange
namespace Go.Proofs.Ytlfcgbhjmdmocaa
open Go.RowKit

/-- The statements of a function from the one that begins with region n. -/
def headIs (n : Nat) : Code → Bool
  | .region k _ _ => k == n
  | .seq a _ => headIs n a
  | .block _ a => headIs n a
  | .loop a => headIs n a
  | .scope a => headIs n a
  | _ => false
def tailFrom (n : Nat) : Code → Code
  | .seq a b => if headIs n a then .seq a b else tailFrom n b
  | c => c
theorem then_normal {P : Program} {C : Code} {Q0 Q : Exit → Act → World → Prop} {K : Act → World → Prop} {a : Act} {w : World} (hK : ∀ a w, Code.wp P C Q0 a w → K a w) (h : Code.wp P C Q0 a w) : Exit.then K Q .normal a w := hK a w h

theorem big_any (a : Option Addr) (len cap : Nat) (w : World) (hl : len ≤ 9223372036854775807) :
    Calls Try.prog 4 #[.slice a len cap] w fun e w' => e = .returned (.bool (decide (4096 < (len : Int)))) ∧ w = w' := by
  go_enter Try.func4, Try.ntmps4
  go_wp2
  go_ret
  exact ⟨rfl, rfl⟩

theorem FreshI.reads {B : Nat} {w : World} {v : Value} {zs : List Int} (h : FreshI B w v zs) (hz : 1 ≤ zs.length) : ∃ g cap, v = .slice (some ⟨g, 0, none⟩) zs.length cap ∧ B ≤ g ∧ IntsIn w g 0 zs := by
  rcases h with ⟨_, rfl⟩ | ⟨g, cap, rfl, hg, hi⟩
  · simp at hz
  · exact ⟨g, cap, rfl, hg, hi⟩

theorem Below.drewN {B : Nat} {a w : World} (h : Below B a w) (n : Nat) : Below B a (w.drewN n) := by
  induction n with
  | zero => exact h
  | succ n ih => exact ih.drew

theorem FreshI.shape {B : Nat} {w : World} {v : Value} {zs : List Int} (h : FreshI B w v zs) : ∃ a c, v = .slice a zs.length c ∧ ∀ j, j < zs.length → ∃ g, a = some ⟨g, 0, none⟩ ∧ g < w.heap.size ∧ w.cell? ⟨g, j, none⟩ = some (.int .i64 (zs.getD j 0)) := by
  rcases h with ⟨rfl, rfl⟩ | ⟨g, cap, rfl, hg, hi⟩
  · exact ⟨none, 0, rfl, fun j hj => by simp at hj⟩
  · exact ⟨_, cap, rfl, fun j hj => ⟨g, rfl, hi.lt, by have := hi.cell j hj; rwa [Nat.zero_add] at this⟩⟩

theorem wrapI {m : Nat} {zs R : List Int} (hm : hmB (m : Int) R = true) (e : wrapRes (m : Int) R = zs) (g cap : Nat) (w : World) (hi : IntsIn w g 0 R) (hl : R.length ≤ 1000000) :
    Calls Try.prog 11 #[.int .i64 (m : Int), .slice (some ⟨g, 0, none⟩) R.length cap] w (ResI w zs 0) := by
  have := wrapHeights_any (m : Int) g 0 cap R w hi hl
  rw [e, show wrapCode (m : Int) R = 0 by simp [wrapCode, hm]] at this
  exact this
theorem openI (m : Nat) (hm : sideB (m : Int) = true) (w : World) :
    Calls Try.prog 12 #[.int .i64 (m : Int), .complex .f32 1065353216 0] w fun e w' => e = .returned (.tuple #[.agg (warr (m : Int) (openW m)), .int .i64 0]) ∧ Below w.heap.size w w' :=
  flatWave_any m hm (1065353216, 0) one_fin w
theorem floodI {m : Nat} {zs F : List Int} (h : flCode (m : Int) zs m (openW m) 0 0 = 0) (e : flRes (m : Int) zs m (openW m) 0 0 = F) (g cap : Nat) (w : World) (hi : IntsIn w g 0 zs) (hl : zs.length ≤ 1000000) :
    Calls Try.prog 13 #[.int .i64 (m : Int), .slice (some ⟨g, 0, none⟩) zs.length cap, .agg (warr (m : Int) (openW m)), .int .i64 0, .int .i64 0] w (ResI w F 0) := by
  have := unwrapFlood_any (m : Int) g 0 cap zs m (openW m) 0 0 w hi hl
  rw [h, e] at this
  exact this
theorem all_take_succ (zs : List Int) (k : Nat) (h : k < zs.length) : (zs.take (k + 1)).all (fun x => x == 0) = ((zs.take k).all (fun x => x == 0) && zs.getD k 0 == 0) := by
  rw [List.take_succ_eq_append_getElem h, List.all_append]; simp [List.getD_eq_getElem?_getD, h]

end Go.Proofs.Ytlfcgbhjmdmocaa
