/-
  The iterator of phases: its contract for every loop body that keeps what lay below. Condition: what it has captured reads as a valid rate and frequencies.
-/
import Derived.Test.YtijonghofghocaaDoorPulseW
import Derived.RangeFuncNested
import Derived.RangeFuncBound
import Derived.RangeFuncCalls
import Derived.RangeFuncLeaves
import Derived.RangeFuncBox
import Derived.Shelf.Abstract
import Derived.Shelf.RegionOpen
import Derived.OwnWalkIn
import Derived.TacticsInMore
import Derived.LoopNIn
import Derived.LoopIn
import Derived.Maps.AppendAt
namespace Go.Proofs.YtijonghofghocaaDoor
open Go.RowKit Go.Shelf
attribute [local go_sem] Oper.semAt_some

/-- What comes at sample k: whether there is a pulse, and the phase behind it. -/
def comes (rate : Int) (f : Nat → Int) (k : Nat) : Bool × Int := (pulse rate f k, phase rate f (k + 1))
def upto (rate : Int) (f : Nat → Int) (k : Nat) : List (Bool × Int) := (List.range k).map (comes rate f)
theorem upto_length (rate : Int) (f : Nat → Int) (k : Nat) : (upto rate f k).length = k := by simp [upto]
theorem upto_succ (rate : Int) (f : Nat → Int) (k : Nat) : upto rate f (k + 1) = upto rate f k ++ [comes rate f k] := by simp [upto, List.range_succ]
/-- What a round keeps: all below m₀, and block Br. -/
def Kept (m₀ Br : Nat) (W W' : World) : Prop := Below m₀ W W' ∧ W'.heap[Br]? = W.heap[Br]?
theorem Kept.refl (m₀ Br : Nat) (W : World) : Kept m₀ Br W W := ⟨Below.refl _ _, rfl⟩
theorem Kept.trans {m₀ Br : Nat} {A B C : World} (h : Kept m₀ Br A B) (k : Kept m₀ Br B C) : Kept m₀ Br A C := ⟨h.1.trans k.1, k.2.trans h.2⟩
theorem kept_b {m₀ Br : Nat} {w : World} (hn : m₀ ≤ w.heap.size) (hr : Br < w.heap.size) (W : World) (l : Nat) (o o' : Obj) (hl : w.heap.size ≤ l) (h : W.heap[l]? = some o) (h1 : o.isCells = false) (h2 : o.isWalk = false) : Kept m₀ Br W (W.putObj l o') :=
  ⟨belowK_b hn W l o o' hl h h1 h2, (grownBy_putObj' W l o').block Br (by have := (Array.getElem?_eq_some_iff.1 h).1; omega) (fun e => by cases e; omega)⟩
def encs (x : Bool × Int) : Array Value := #[.bool x.1, .int .i64 x.2]

set_option maxRecDepth 100000 in
set_option maxHeartbeats 2000000 in
theorem phases1_in (n l Bs Br n₀ len cap : Nat) (p : Option Addr) (rate : Int) (f : Nat → Int) (hn : 1 ≤ n) (r1 : 1 ≤ rate) (r2 : rate ≤ 192000) (hlen : len ≤ 400000) (hf : ∀ i, i < len → 0 ≤ f i ∧ f i ≤ 500 * rate)
    (hp : len = 0 ∨ ∃ b off, p = some ⟨b, off, none⟩ ∧ b < n₀) (J Jx : List (Bool × Int) → World → Prop)
    (hY : ∀ pre x W, J pre W → pre.length < len → YieldAt Fence.wide (n - 1) Tryd.prog l (encs x) W fun e W' =>
      (e = .returned (.bool true) ∧ J (pre ++ [x]) W' ∧ Kept n₀ Br W W') ∨ (e = .returned (.bool false) ∧ Jx (pre ++ [x]) W'))
    (W : World) (hBs : W.cell? ⟨Bs, 0, none⟩ = some (.slice p len cap)) (hBr : W.cell? ⟨Br, 0, none⟩ = some (.int .i64 rate)) (hc : Ints W p len f) (h0 : J [] W) :
    CallsIn Fence.wide n Tryd.prog 81 #[.func (.yield l) #[] #[], .pointer (some ⟨Bs, 0, none⟩), .pointer (some ⟨Br, 0, none⟩)] W fun e W' => (∃ v, e = .returned v) ∧
      ((∃ ys, ys = upto rate f len ∧ J ys W') ∨ (∃ pre, (∃ k, k ≤ len ∧ pre = upto rate f k) ∧ Jx pre W')) := by
  have HP := Lib.hid (phase_bd r1 hf)
  have HF := Lib.hid hf
  have hlen' : (len : Int) ≤ 400000 := by omega
  clear hf
  refine callsIn_of_wp Tryd.func81 rfl trivial ?_ rfl
  simp only [Tryd.ntmps81, List.size_toArray, List.length_cons, List.length_nil, Nat.reduceAdd, Nat.reduceSub, Array.replicate_succ, Array.replicate_zero, List.push_toArray, List.append_toArray, List.nil_append, List.cons_append]
  gi_wp2
  gi_loopw [4, 10] (fun ph i wr => ∃ k : Nat, k ≤ len ∧ i = .int .i64 k ∧ ph = .int .i64 (phase rate f k) ∧ J (upto rate f k) wr ∧ Kept n₀ Br W wr) (fun _ i _ => len - (intOf i).toNat)
  case atStart => exact ⟨0, Nat.zero_le _, rfl, rfl, h0, Kept.refl _ _ _⟩
  case round =>
    obtain ⟨k, hk, rfl, rfl, hJs, hnx⟩ := hrel
    by_cases hlt : k < len
    · obtain ⟨b, off, rfl, hbs, hcell⟩ := hc.at (by omega)
      have hb0 : b < n₀ := by
        rcases hp with h | ⟨b', off', h1, h2⟩
        · omega
        · cases h1; exact h2
      have k0 : wr.cell? ⟨b, off + k, none⟩ = some (.int .i64 (f k)) := (hnx.1.cell (p := ⟨b, off + k, none⟩) hb0).trans (hcell k hlt)
      have k1 : wr.cell? ⟨Br, 0, none⟩ = some (.int .i64 rate) := (World.cell?_of_block (a := ⟨Br, 0, none⟩) hnx.2).trans hBr
      have p1 := HP.out k hk
      have f1 := HF.out k hlt
      have HX := Lib.hid hnx
      have HJ := Lib.hid hJs
      obtain ⟨fn, tmps, assign, body, hy, hR⟩ := hY _ (comes rate f k) wr hJs (by rw [upto_length]; exact hlt)
      clear hcell hnx hJs hp hc hY
      by_cases g : 1000 * rate ≤ phase rate f k + f k
      · have gp : pulse rate f k = true := by simpa [pulse] using g
        have HG := Lib.hid gp
        have e1 : comes rate f k = (true, phase rate f k + f k - 1000 * rate) := by rw [comes, gp, phase_yes gp]
        rw [e1] at hy hR
        have HE := Lib.hid e1
        dsimp only [encs] at hy
        clear gp e1
        gi_wp2
        refine hR.mono ?_
        rintro e W3 (⟨rfl, hJ3, hk3⟩ | ⟨rfl, hJx3⟩)
        · gi_wp2
          go_roundw
          case rel => exact ⟨k + 1, by omega, by go_num, by rw [phase_yes HG.out], by rw [upto_succ, HE.out]; exact hJ3, HX.out.trans hk3⟩
          case measure => simp [intOf]; omega
        · gi_wp2
          refine bodyPost_ret (results_none rfl _ _ _) rfl ?_
          exact ⟨⟨_, rfl⟩, .inr ⟨_, ⟨k + 1, by omega, (by rw [upto_succ, HE.out])⟩, hJx3⟩⟩
      · have gp : pulse rate f k = false := by simpa [pulse] using g
        have HG := Lib.hid gp
        have e1 : comes rate f k = (false, phase rate f k + f k) := by rw [comes, gp, phase_no gp]
        rw [e1] at hy hR
        have HE := Lib.hid e1
        dsimp only [encs] at hy
        have g' : phase rate f k + f k < 1000 * rate := by omega
        clear gp e1
        gi_wp2
        refine hR.mono ?_
        rintro e W3 (⟨rfl, hJ3, hk3⟩ | ⟨rfl, hJx3⟩)
        · gi_wp2
          go_roundw
          case rel => exact ⟨k + 1, by omega, by go_num, by rw [phase_no HG.out], by rw [upto_succ, HE.out]; exact hJ3, HX.out.trans hk3⟩
          case measure => simp [intOf]; omega
        · gi_wp2
          refine bodyPost_ret (results_none rfl _ _ _) rfl ?_
          exact ⟨⟨_, rfl⟩, .inr ⟨_, ⟨k + 1, by omega, (by rw [upto_succ, HE.out])⟩, hJx3⟩⟩
    · have hle : len ≤ k := by omega
      have HQ := Lib.hid (show k = len by omega)
      have HJ := Lib.hid hJs
      clear hJs hp hc hY
      gi_wp2
      go_end0
      exact ⟨⟨_, rfl⟩, .inl ⟨_, rfl, by rw [← HQ.out]; exact HJ.out⟩⟩
end Go.Proofs.YtijonghofghocaaDoor
