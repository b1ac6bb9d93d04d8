/-
  The rows of the chapter's examples, reckoned in plain Lean. No condition.
-/
import Derived.Test.YtijonghofghocaaDoorPBest2
import Derived.Test.YtijonghofghocaaDoorSing
import Derived.Test.YtijonghofghocaaDoorCount
import Derived.Test.YtijonghofghocaaDoorFreqW
import Derived.KernelRfl
namespace Go.Proofs.YtijonghofghocaaDoor
open Go.RowKit

def kC1 : Cmd := ⟨10, 100, 3, fun i => if i = 0 then 0 else if i = 1 then 4 else 8, fun i => if i = 1 then 1000 else 0⟩
def kC2 : Cmd := ⟨0, 10, 2, fun i => if i = 0 then 0 else 3, fun i => if i = 0 then 1000 else 0⟩
def kP : Prob := ⟨3, 0, 10, 2, 0, 2, fun i => if i = 0 then ⟨0, 0, 1⟩ else ⟨2, 10, 1⟩⟩
def kN (i : Nat) : Note := if i = 0 then ⟨1, 2, 0, 0, 0, 4⟩ else ⟨3, 3, 2, 0, 0, 4⟩
def kF (_ : Nat) : Int := 3000

theorem kC1_value : kC1.Value 17 = two 25 0 := by
  have h : (kC1.valid && inB 17 (-4000) 8000) = true := by decide +kernel
  have h2 : kC1.val 17 = 25 := by decide +kernel
  simp [Cmd.Value, h, h2]
theorem kC2_valid : allTo (fun i => ((fun _ => kC2) i).valid) 1 = true := by decide +kernel
theorem kC2_curve : ∀ i, i < 4 → crvN (fun _ => kC2) 50 i 1 = [60, 57, 53, 50].getD i 0 := by decide +kernel
theorem kP_ok : probB kP = true := by decide +kernel
theorem kP_path : ∀ i, i < 3 → path kP 3 i = [3, 5, 7].getD i 0 := by decide +kernel
theorem kP_cost : costN kP 3 (path kP 3) = 18 := by decide +kernel
theorem k_freq : Freq 50 = two 28318 0 := by
  have h : inB 50 0 12000 = true := by decide +kernel
  have h2 : freq (Int.toNat 50) = 28318 := by decide +kernel
  simp only [Freq, h, if_true, h2]
theorem k_voice : voiceB 10 7 kF = true := by decide +kernel
theorem k_count : count 10 kF 7 = 2 := by decide +kernel
theorem k_place : ∀ i, i < 2 → place 10 kF 7 i = [3, 6].getD i 0 := by decide +kernel
theorem k_notes : notesB kN 2 = true := by decide +kernel
theorem k_song : song kN 2 = [100, 100, 100, 200, 300] := by decide +kernel
end Go.Proofs.YtijonghofghocaaDoor
