/-
  The walk of best$1 (the row of a time). Conditions: the boxes of what it holds; the time is one of the frames.
-/
import Derived.Test.YtijonghofghocaaDoorSmall
namespace Go.Proofs.YtijonghofghocaaDoor
open Go.RowKit

set_option maxRecDepth 100000 in
set_option maxHeartbeats 1000000 in
theorem rowt_any (A Ba Bw F W t : Nat) (w : World) (hF : F ≤ 200) (hW : W ≤ 401) (hW1 : 1 ≤ W) (ht : t < F) (ha : w.cell? ⟨Ba, 0, none⟩ = some (.slice (some ⟨A, 0, none⟩) (F * W) (F * W))) (hw : w.cell? ⟨Bw, 0, none⟩ = some (.int .i64 W)) :
    Calls Tryd.prog 74 #[.int .i64 t, .pointer (some ⟨Ba, 0, none⟩), .pointer (some ⟨Bw, 0, none⟩)] w fun e w' => e = .returned (.slice (some ⟨A, t * W, none⟩) W W) ∧ w' = w := by
  have h1 : (t + 1) * W ≤ F * W := Nat.mul_le_mul_right _ ht
  have h2 : F * W ≤ 200 * 401 := Nat.mul_le_mul hF hW
  have h3 : (t + 1) * W = t * W + W := by rw [Nat.add_mul, Nat.one_mul]
  have h4 : t * W ≤ 200 * 401 := Nat.mul_le_mul (by omega) hW
  have h5 : ¬ (t + 1) * W = t * W := by omega
  have h6 : ¬ W = 0 := by omega
  have e1 : (0 : Int) ≤ (t : Int) * (W : Int) := Int.mul_nonneg (by omega) (by omega)
  have e2 : (t : Int) * (W : Int) ≤ 80200 := by rw [← Int.natCast_mul]; omega
  have e3 : (0 : Int) ≤ ((t : Int) + 1) * (W : Int) := Int.mul_nonneg (by omega) (by omega)
  have e4 : ((t : Int) + 1) * (W : Int) ≤ 80200 := by rw [Int.add_mul, Int.one_mul, ← Int.natCast_mul]; omega
  have e5 : ((t : Int) + 1) * (W : Int) ≤ (F : Int) * (W : Int) := by
    rw [Int.add_mul, Int.one_mul, ← Int.natCast_mul, ← Int.natCast_mul]; omega
  have e6 : (t : Int) * (W : Int) ≤ ((t : Int) + 1) * (W : Int) := by
    rw [Int.add_mul, Int.one_mul]; omega
  go_enter Tryd.func74, Tryd.ntmps74
  go_wp2_with fail
  go_ret
  exact ⟨rfl, rfl⟩
end Go.Proofs.YtijonghofghocaaDoor
