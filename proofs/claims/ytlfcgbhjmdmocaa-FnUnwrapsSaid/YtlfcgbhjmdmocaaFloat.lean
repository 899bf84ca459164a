/- Finite floats: what 'x - x == 0' tells. -/
import Derived.Test.YtlfcgbhjmdmocaaFrame
import Derived.Laws.FloatArith
namespace Go.Proofs.Ytlfcgbhjmdmocaa
open Go.RowKit

/-- A finite float32. -/
def fin (b : Nat) : Bool := match FloatKind.f32.decode b with | .number .. => true | _ => false
/-- Both parts. -/
def finC (z : Nat × Nat) : Bool := fin z.1 && fin z.2
/-- Zero, of either sign: as '==' tells. -/
def zF (b : Nat) : Bool := FloatKind.f32.format.order b 0 == some .eq
def zC (z : Nat × Nat) : Bool := zF z.1 && zF z.2
/-- One, as '==' tells. -/
def oC (z : Nat × Nat) : Bool := (FloatKind.f32.format.order z.1 1065353216 == some .eq) && zF z.2

theorem sub_self_fin {b : Nat} (h : fin b = true) : FloatKind.f32.format.sub b b = some 0 := by
  unfold fin FloatKind.decode at h
  unfold Ieee.Format.sub
  split at h
  · rename_i s m i hr
    rw [hr]
    have h0 : Ieee.signed s m 0 + Ieee.signed (!s) m 0 = 0 := by cases s <;> simp [Ieee.signed] <;> omega
    simp only [Ieee.Datum.opposite, Ieee.Datum.sum, Option.map_some, Int.min_self, Int.sub_self, Int.toNat_zero, h0, if_true]
    cases s <;> simp [Ieee.Format.write, Ieee.Format.nearest, Ieee.Format.word]
  · cases h
theorem sub_self_inf {b : Nat} (h : fin b = false) : FloatKind.f32.format.sub b b = none := by
  unfold fin FloatKind.decode at h
  unfold Ieee.Format.sub
  split at h
  · cases h
  · rename_i hr
    cases hd : FloatKind.f32.format.read b with
    | number s m i => exact absurd hd (hr s m i)
    | infinity s => cases s <;> simp [Ieee.Datum.opposite, Ieee.Datum.sum]
    | nan s t => simp [Ieee.Datum.opposite, Ieee.Datum.sum]

theorem nan_read (t : Nat) : ∃ s f, FloatKind.f32.format.read ((t % 2) * 2 ^ 31 + 0x7f800000 + 1 + (t / 2) % (2 ^ 23 - 1)) = .nan s f := by
  have h1 : t % 2 = 0 ∨ t % 2 = 1 := by omega
  have h2 : (t / 2) % (2 ^ 23 - 1) < 2 ^ 23 - 1 := Nat.mod_lt _ (by decide)
  generalize (t / 2) % (2 ^ 23 - 1) = q at h2
  have hb : FloatKind.f32.format.binade = 8388608 := rfl
  have hi : FloatKind.f32.format.infRung = 2139095040 := rfl
  have hsw : FloatKind.f32.format.signWeight = 2147483648 := rfl
  have key : ((t % 2) * 2 ^ 31 + 0x7f800000 + 1 + q) % 2147483648 = 2139095041 + q := by omega
  unfold Ieee.Format.read
  rw [hb, hi, hsw, key]
  have a1 : ¬ (2139095041 + q < 8388608) := by omega
  have a2 : ¬ (2139095041 + q < 2139095040) := by omega
  have a3 : ¬ (2139095041 + q = 2139095040) := by omega
  simp only [a1, a2, a3, if_false]
  exact ⟨_, _, rfl⟩

/-- Where the difference is none: some NaN, a draw behind. -/
theorem run_sub_inf (t : TypeId) (b : Nat) (w : World) (h : fin b = false) :
    ∃ r, (binOp .sub t (.float .f32 b) (.float .f32 b)).run Try.prog w = .ok (.float .f32 r) w.drew ∧ zF r = false := by
  obtain ⟨s, f, hr⟩ := nan_read (w.tape w.drawn (.nanBits .f32 b b))
  refine ⟨(Question.nanBits .f32 b b).cut (w.tape w.drawn (.nanBits .f32 b b)), ?_, ?_⟩
  · simp [binOp, Op.floatArith, sub_self_inf h, choose, Sem.run, Question.forced]
  · unfold zF Ieee.Format.order
    simp only [Question.cut]
    rw [hr]
    simp [Ieee.Datum.order]

theorem run_sub_fin (t : TypeId) (b : Nat) (w : World) (h : fin b = true) :
    (binOp .sub t (.float .f32 b) (.float .f32 b)).run Try.prog w = .ok (.float .f32 0) w :=
  run_float_arith w .sub t .f32 b b 0 (sub_self_fin h)

theorem order_zero : (FloatKind.f32.format.order 0 0 == some .eq) = true := by decide

set_option maxHeartbeats 1000000 in
theorem isNumber_any (b : Nat) (w : World) : Calls Try.prog 74 #[.float .f32 b] w fun e w' => e = .returned (.bool (fin b)) ∧ Below w.heap.size w w' := by
  cases h : fin b with
  | true =>
    have hr := fun t W => run_sub_fin t b W h
    have h0 := order_zero
    have H := Lib.hid h
    clear h
    go_enter Try.func74, Try.ntmps74
    go_wp2
    go_ret
    exact ⟨rfl, Below.refl _ _⟩
  | false =>
    obtain ⟨r, hr, hz⟩ := run_sub_inf 79 b w h
    unfold zF at hz
    have H := Lib.hid h
    clear h
    go_enter Try.func74, Try.ntmps74
    go_wp2
    go_ret
    exact ⟨rfl, (Below.refl _ _).drew⟩

set_option maxHeartbeats 1000000 in
theorem l01Fine_any (b : Nat) (w : World) : Calls Try.prog 83 #[.float .f32 b] w fun e w' => e = .returned (.bool (fin b)) ∧ Below w.heap.size w w' := by
  cases h : fin b with
  | true =>
    have hr := fun t W => run_sub_fin t b W h
    have h0 := order_zero
    have H := Lib.hid h
    clear h
    go_enter Try.func83, Try.ntmps83
    go_wp2
    go_ret
    exact ⟨rfl, Below.refl _ _⟩
  | false =>
    obtain ⟨r, hr, hz⟩ := run_sub_inf 79 b w h
    unfold zF at hz
    have H := Lib.hid h
    clear h
    go_enter Try.func83, Try.ntmps83
    go_wp2
    go_ret
    exact ⟨rfl, (Below.refl _ _).drew⟩

end Go.Proofs.Ytlfcgbhjmdmocaa
