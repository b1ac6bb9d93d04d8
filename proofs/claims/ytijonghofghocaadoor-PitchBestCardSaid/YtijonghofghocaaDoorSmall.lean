/-
  The walks of best$2 (which way is less) and of Settled$1 (what an edge costs more). Conditions: of the second, small numbers, and the problem's box.
-/
import Derived.Test.YtijonghofghocaaDoorPCost2
namespace Go.Proofs.YtijonghofghocaaDoor
open Go.RowKit

set_option maxRecDepth 100000 in
set_option maxHeartbeats 1000000 in
theorem less_any (x c y d : Int) (w : World) :
    Calls Tryd.prog 75 #[.agg #[.int .i64 x, .int .i64 c], .agg #[.int .i64 y, .int .i64 d]] w fun e w' => e = .returned (.bool (decide (c < d))) ∧ Below w.heap.size w w' := by
  go_enter Tryd.func75, Tryd.ntmps75
  go_wp2_with fail
  go_ret
  exact ⟨ret_bool rfl, (newb w _).trans ((newb _ _).mono (by simp))⟩

/-- What an edge costs more, and whether it may be. -/
def edgeE (p : Prob) (x y : Int) : Ending := .returned (.tuple #[.int .i64 (p.smooth * (sq y - sq x)), .bool (inB y (-p.slope) p.slope)])

set_option maxRecDepth 100000 in
set_option maxHeartbeats 1000000 in
theorem edge_any (p : Prob) (x y : Int) (B : Nat) (a : Option Addr) (c : Nat) (w : World) (hp : PB p) (hB : ProbBlk w B p a c) (x1 : -1000 ≤ x) (x2 : x ≤ 1000) (y1 : -1000 ≤ y) (y2 : y ≤ 1000) :
    Calls Tryd.prog 58 #[.int .i64 x, .int .i64 y, .pointer (some ⟨B, 0, none⟩)] w fun e w' => e = edgeE p x y ∧ Below w.heap.size w w' := by
  obtain ⟨a0, a1, a2, a3, a4, a5⟩ := hB.cells
  have h1 := sq_le (x := x) (B := 1000) x1 x2
  have h2 := sq_le (x := y) (B := 1000) y1 y2
  have h3 := sq_nonneg x
  have h4 := sq_nonneg y
  have h5 := hp.k1
  have h6 := hp.k2
  have h7 := hp.s1
  have h8 := hp.s2
  have h9 : -(1000 * 1000000) ≤ p.smooth * (sq y - sq x) ∧ p.smooth * (sq y - sq x) ≤ 1000 * 1000000 := mul_bd (by omega) (by omega) (by omega) (by omega)
  clear hp hB
  go_enter Tryd.func58, Tryd.ntmps58
  go_wp2_with fail
  go_quiet (first | (go_at_call 59; exact Calls.quiet_of_same (square_q _ _ (by omega) (by omega))) | (go_at_call 48; exact Calls.quiet_of_same (within_q _ _ _ _)))
  go_wp2_with fail
  go_ret2
  exact ⟨rfl, below_drewN (Below.refl _ _) _⟩
end Go.Proofs.YtijonghofghocaaDoor
