/-
  Words for the walks: later worlds, cells of slices that are read, small contracts (ranges, squares, rounding). Conditions: as each theorem says.
-/
import Derived.Test.YtijonghofghocaaDoorPlain
import Derived.Test.YtijonghofghocaaDoorRows
import Derived.WalkKit
import Derived.WalkSpells
import Derived.WalkLawsBesides
import Derived.Deep.QuietTactic
import Derived.BigQuiet
import Derived.Lib.Hide
import Derived.Outline
import Derived.Deep.DeepFit
namespace Go.Proofs.YtijonghofghocaaDoor
open Go.RowKit

theorem ret_bool {a b : Bool} (h : a = b) : Ending.returned (.bool a) = .returned (.bool b) := by rw [h]
theorem ret_int {a b : Int} (h : a = b) : Ending.returned (.int .i64 a) = .returned (.int .i64 b) := by rw [h]

/-- What was there before the call is there behind it. -/
theorem bcell {W w1 : World} (hb : Below W.heap.size W w1) : (∀ b o, b < W.heap.size → w1.cell? ⟨b, o, none⟩ = W.cell? ⟨b, o, none⟩) ∧ (∀ b o, b < W.heap.size → w1.frozen? ⟨b, o, none⟩ = W.frozen? ⟨b, o, none⟩) :=
  ⟨fun b o h => hb.cell (p := ⟨b, o, none⟩) h, fun b o h => hb.frozen (p := ⟨b, o, none⟩) h⟩
theorem drewN_below (w : World) (n : Nat) : Below w.heap.size w (w.drewN n) := below_drewN (Below.refl _ _) n

theorem keepc {w w' : World} {a : Addr} {v : Value} (hb : Below w.heap.size w w') (h : w.cell? a = some v) : w'.cell? a = some v :=
  (hb.cell (World.block_lt_of_cell? w a h)).trans h
theorem newb (w : World) (o : Obj) : Below w.heap.size w (w.alloc o) := (Below.refl _ _).alloc (Nat.le_refl _) o
theorem newq (w : World) (o : Obj) (n : Nat) : Below w.heap.size w ((w.alloc o).drewN n) := below_drewN (newb w o) n

/-- A world later than w: what w held, it holds. -/
def Later (w : World) : Type := { w' : World // Below w.heap.size w w' }
def Later.w {w : World} (x : Later w) : World := x.1
theorem Later.below {w : World} (x : Later w) : Below w.heap.size w x.w := x.2
theorem later_cell {w : World} {a : Addr} {v : Value} (h : w.cell? a = some v) : ∀ x : Later w, x.w.cell? a = some v := fun x =>
  (x.below.cell (World.block_lt_of_cell? w a h)).trans h
/-- A region that draws its order and whose operations only read, or call what only makes memory: one walk. -/
theorem wp_region_later {P : Program} {id : Nat} {Q : Exit → Act → World → Prop} {a : Act} {w : World} {l : List Oper} (hm : P.follows .mixedOrders = true) (hB : Region.lexB .any l.toArray = true)
    (h : wpQuiet P l.toArray (fun w' => ∃ x : Later w, w' = x.w) (fun a' => ∀ w', (∃ x : Later w, w' = x.w) → Q .normal a' w') l a) : (Code.region id l.toArray true).wp P Q a w :=
  wp_region_quiet (C := fun w' => ∃ x : Later w, w' = x.w) hm hB ⟨⟨{ w with drawn := w.drawn + 1 }, ⟨rfl, rfl, rfl, Nat.le_refl _, fun _ _ => rfl⟩⟩, rfl⟩ (by simpa using h)
/-- A callee that makes memory alone, met in such a region. -/
theorem Calls.later_of {P : Program} {f : FuncId} {args : Array Value} {w : World} {x : Later w} {v : Value}
    (h : Calls P f args x.w fun e w' => e = .returned v ∧ Below x.w.heap.size x.w w') : Calls P f args x.w fun e w'' => e = .returned v ∧ ∃ y : Later w, w'' = y.w :=
  h.mono fun _ w' ⟨he, hb⟩ => ⟨he, ⟨w', x.below.trans (hb.mono x.below.size)⟩, rfl⟩
theorem Calls.later_same {P : Program} {f : FuncId} {args : Array Value} {w : World} {x : Later w} {v : Value}
    (h : Calls P f args x.w fun e w' => e = .returned v ∧ w' = x.w) : Calls P f args x.w fun e w'' => e = .returned v ∧ ∃ y : Later w, w'' = y.w :=
  h.mono fun _ _ ⟨he, hb⟩ => ⟨he, x, hb⟩
/-- To forget how a world came about. -/
theorem wp_gen {P : Program} {c : Code} {Q : Exit → Act → World → Prop} {a : Act} {w : World} (F : World → Prop) (hF : F w) (h : ∀ w, F w → c.wp P Q a w) : c.wp P Q a w := h w hF

theorem calls_gen {P : Program} {f : FuncId} {args : Array Value} {R : Ending → World → Prop} {w : World} (F : World → Prop) (hF : F w) (h : ∀ w, F w → Calls P f args w R) : Calls P f args w R := h w hF

/-! ### Slices that are read -/
/-- A slice's pointer, and what its cells hold: n places of s cells each. -/
def Row (w : World) (p : Option Addr) (n s : Nat) (f : Nat → Nat → Value) : Prop :=
  n = 0 ∨ ∃ b off, p = some ⟨b, off, none⟩ ∧ b < w.heap.size ∧ ∀ i, i < n → ∀ j, j < s → w.cell? ⟨b, off + i * s + j, none⟩ = some (f i j)
theorem Row.mono {w w' : World} {p : Option Addr} {n s : Nat} {f : Nat → Nat → Value} (h : Row w p n s f) (hb : Below w.heap.size w w') : Row w' p n s f := by
  rcases h with h | ⟨b, off, hp, hlt, hc⟩
  · exact .inl h
  · exact .inr ⟨b, off, hp, Nat.lt_of_lt_of_le hlt hb.size, fun i hi j hj => by rw [hb.cell hlt]; exact hc i hi j hj⟩
theorem Row.at {w : World} {p : Option Addr} {n s : Nat} {f : Nat → Nat → Value} (h : Row w p n s f) (hn : 0 < n) :
    ∃ b off, p = some ⟨b, off, none⟩ ∧ b < w.heap.size ∧ ∀ i, i < n → ∀ j, j < s → w.cell? ⟨b, off + i * s + j, none⟩ = some (f i j) := by
  rcases h with h | h
  · omega
  · exact h

/-- A slice of knots. -/
def knotCell (kt kv : Nat → Int) (i j : Nat) : Value := if j = 0 then .int .i64 (kt i) else .int .i64 (kv i)
def Shape (w : World) (v : Value) (c : Cmd) : Prop := ∃ p cap, v = .slice p c.n cap ∧ c.n ≤ 9223372036854775807 ∧ Row w p c.n 2 (knotCell c.kt c.kv)
theorem Shape.mono {w w' : World} {v : Value} {c : Cmd} (h : Shape w v c) (hb : Below w.heap.size w w') : Shape w' v c := by
  obtain ⟨p, cap, h1, h2, h3⟩ := h
  exact ⟨p, cap, h1, h2, h3.mono hb⟩

/-! ### Small contracts -/
set_option maxHeartbeats 400000 in
theorem within_any (n l h : Int) (w : World) :
    Calls Tryd.prog 48 #[.int .i64 n, .int .i64 l, .int .i64 h] w fun e w' => e = .returned (.bool (inB n l h)) ∧ w = w' := by
  go_enter Tryd.func48, Tryd.ntmps48
  go_wp2
  all_goals go_ret
  · exact ⟨ret_bool (by simp [inB, *]), rfl⟩
  · exact ⟨ret_bool (by simp [inB]; omega), rfl⟩
theorem within_q (n l h : Int) (w : World) :
    Calls Tryd.prog 48 #[.int .i64 n, .int .i64 l, .int .i64 h] w fun e w' => e = .returned (.bool (inB n l h)) ∧ w' = w :=
  (within_any n l h w).mono fun _ _ ⟨h1, h2⟩ => ⟨h1, h2.symm⟩
set_option maxHeartbeats 400000 in
theorem in_any (n l h : Int) (w : World) :
    Calls Tryd.prog 50 #[.int .i64 n, .int .i64 l, .int .i64 h] w fun e w' => e = .returned (.bool (inB n l h)) ∧ w = w' := by
  go_enter Tryd.func50, Tryd.ntmps50
  go_wp2
  all_goals go_ret
  · exact ⟨ret_bool (by simp [inB, *]), rfl⟩
  · exact ⟨ret_bool (by simp [inB]; omega), rfl⟩
theorem in_q (n l h : Int) (w : World) :
    Calls Tryd.prog 50 #[.int .i64 n, .int .i64 l, .int .i64 h] w fun e w' => e = .returned (.bool (inB n l h)) ∧ w' = w :=
  (in_any n l h w).mono fun _ _ ⟨h1, h2⟩ => ⟨h1, h2.symm⟩

theorem sq_bd (n : Int) (h1 : -1000000 ≤ n) (h2 : n ≤ 1000000) : 0 ≤ n * n ∧ n * n ≤ 1000000000000 := by
  refine ⟨?_, ?_⟩
  · rcases Int.le_total 0 n with h | h
    · exact Int.mul_nonneg h h
    · have := Int.mul_nonneg (show 0 ≤ -n by omega) (show 0 ≤ -n by omega)
      rwa [Int.neg_mul_neg] at this
  · rcases Int.le_total 0 n with h | h
    · have h3 := Int.mul_le_mul_of_nonneg_left h2 h
      omega
    · have h3 := Int.mul_le_mul_of_nonneg_left (show -n ≤ 1000000 by omega) (show 0 ≤ -n by omega)
      rw [Int.neg_mul_neg] at h3
      omega
set_option maxHeartbeats 400000 in
theorem square_any (n : Int) (w : World) (h1 : -1000000 ≤ n) (h2 : n ≤ 1000000) :
    Calls Tryd.prog 59 #[.int .i64 n] w fun e w' => e = .returned (.int .i64 (sq n)) ∧ w = w' := by
  have hb := sq_bd n h1 h2
  go_enter Tryd.func59, Tryd.ntmps59
  go_wp2
  go_ret
  exact ⟨rfl, rfl⟩
theorem square_q (n : Int) (w : World) (h1 : -1000000 ≤ n) (h2 : n ≤ 1000000) :
    Calls Tryd.prog 59 #[.int .i64 n] w fun e w' => e = .returned (.int .i64 (sq n)) ∧ w' = w :=
  (square_any n w h1 h2).mono fun _ _ ⟨h1, h2⟩ => ⟨h1, h2.symm⟩

set_option maxHeartbeats 400000 in
theorem rounded_pos (a b : Int) (w : World) (h1 : 0 ≤ a) (h2 : a ≤ 100000000000000000) (h3 : 1 ≤ b) (h4 : b ≤ 100000000000000000) :
    Calls Tryd.prog 70 #[.int .i64 a, .int .i64 b] w fun e w' => e = .returned (.int .i64 (rnd a b)) ∧ w = w' := by
  have hr := rnd_pos a b h1
  go_enter Tryd.func70, Tryd.ntmps70
  go_wp2_with fail
  go_ret
  exact ⟨ret_int hr.symm, rfl⟩
set_option maxHeartbeats 400000 in
theorem rounded_any (a b : Int) (w : World) (h1 : -100000000000000000 ≤ a) (h2 : a ≤ 100000000000000000) (h3 : 1 ≤ b) (h4 : b ≤ 100000000000000000) :
    Calls Tryd.prog 70 #[.int .i64 a, .int .i64 b] w fun e w' => e = .returned (.int .i64 (rnd a b)) ∧ w = w' := by
  by_cases h : 0 ≤ a
  · exact rounded_pos a b w h h2 h3 h4
  · have HR := Lib.hid (rnd_neg a b (by omega))
    have hbd := rnd_bd (-a) b h3 100000000000000000 (by omega) (by omega)
    have h' : a < 0 := by omega
    go_enter Tryd.func70, Tryd.ntmps70
    go_wp2_with (go_at_call 70; refine (rounded_pos (-a) b _ (by omega) (by omega) h3 h4).mono ?_; rintro e w' ⟨rfl, rfl⟩)
    go_ret
    exact ⟨ret_int HR.out.symm, rfl⟩
theorem rounded_q (a b : Int) (w : World) (h1 : -100000000000000000 ≤ a) (h2 : a ≤ 100000000000000000) (h3 : 1 ≤ b) (h4 : b ≤ 100000000000000000) :
    Calls Tryd.prog 70 #[.int .i64 a, .int .i64 b] w fun e w' => e = .returned (.int .i64 (rnd a b)) ∧ w' = w :=
  (rounded_any a b w h1 h2 h3 h4).mono fun _ _ ⟨h1, h2⟩ => ⟨h1, h2.symm⟩

set_option maxHeartbeats 400000 in
theorem divide_pos (a b : Int) (w : World) (h1 : 0 ≤ a) (h2 : a ≤ 100000000000000000) (h3 : 1 ≤ b) (h4 : b ≤ 100000000000000000) :
    Calls Tryd.prog 51 #[.int .i64 a, .int .i64 b] w fun e w' => e = .returned (.int .i64 (rnd a b)) ∧ w = w' := by
  have hr := rnd_pos a b h1
  obtain ⟨d1, d2, d3, d4, d5⟩ := div_facts a b h1 h3
  by_cases hu : b ≤ 2 * (a - a / b * b)
  · have HR := Lib.hid (hr.trans (rndP_up a b h1 h3 hu))
    clear hr
    go_enter Tryd.func51, Tryd.ntmps51
    go_wp2_with fail
    go_ret
    exact ⟨ret_int HR.out.symm, rfl⟩
  · have HR := Lib.hid (hr.trans (rndP_down a b h1 h3 (by omega)))
    clear hr
    go_enter Tryd.func51, Tryd.ntmps51
    go_wp2_with fail
    go_ret
    exact ⟨ret_int HR.out.symm, rfl⟩
set_option maxHeartbeats 400000 in
theorem divide_any (a b : Int) (w : World) (h1 : -100000000000000000 ≤ a) (h2 : a ≤ 100000000000000000) (h3 : 1 ≤ b) (h4 : b ≤ 100000000000000000) :
    Calls Tryd.prog 51 #[.int .i64 a, .int .i64 b] w fun e w' => e = .returned (.int .i64 (rnd a b)) ∧ w = w' := by
  by_cases h : 0 ≤ a
  · exact divide_pos a b w h h2 h3 h4
  · have HR := Lib.hid (rnd_neg a b (by omega))
    have hbd := rnd_bd (-a) b h3 100000000000000000 (by omega) (by omega)
    have h' : a < 0 := by omega
    go_enter Tryd.func51, Tryd.ntmps51
    go_wp2_with (go_at_call 51; refine (divide_pos (-a) b _ (by omega) (by omega) h3 h4).mono ?_; rintro e w' ⟨rfl, rfl⟩)
    go_ret
    exact ⟨ret_int HR.out.symm, rfl⟩
theorem divide_q (a b : Int) (w : World) (h1 : -100000000000000000 ≤ a) (h2 : a ≤ 100000000000000000) (h3 : 1 ≤ b) (h4 : b ≤ 100000000000000000) :
    Calls Tryd.prog 51 #[.int .i64 a, .int .i64 b] w fun e w' => e = .returned (.int .i64 (rnd a b)) ∧ w' = w :=
  (divide_any a b w h1 h2 h3 h4).mono fun _ _ ⟨h1, h2⟩ => ⟨h1, h2.symm⟩
end Go.Proofs.YtijonghofghocaaDoor
