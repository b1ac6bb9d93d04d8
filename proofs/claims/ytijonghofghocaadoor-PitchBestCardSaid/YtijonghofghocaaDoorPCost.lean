/-
  The walks of pitch.cost and of pitch.Cost. Conditions: of cost, the problem is as defined and the list is a contour; of Cost, the slices read as their elements.
-/
import Derived.Test.YtijonghofghocaaDoorTargets
import Derived.Test.YtijonghofghocaaDoorProblem
namespace Go.Proofs.YtijonghofghocaaDoor
open Go.RowKit

theorem lsum_node (p : Prob) (t : Nat) (x : Int) : sumTo (lcost (selF (selL p t p.m)) x) (selL p t p.m).length = node p t x := lsum_sel p t x p.m

set_option maxRecDepth 100000 in
set_option maxHeartbeats 4000000 in
theorem cost_any (p : Prob) (n : Nat) (v : Nat → Int) (a q : Option Addr) (c cq : Nat) (w : World) (hp : PB p) (hn : (n : Int) = p.frames) (hv : okN p n v) (hc : Row w a p.m 3 (tgtCell p.tg)) (hq : Ints w q n v) :
    Calls Tryd.prog 56 #[.agg #[.int .i64 p.frames, .int .i64 p.low, .int .i64 p.high, .int .i64 p.slope, .int .i64 p.smooth, .slice a p.m c], .slice q n cq] w fun e w' => e = .returned (.int .i64 (costN p n v)) ∧ Below w.heap.size w w' := by
  have hn' : (n : Int) ≤ 200 := by have := hp.f2; omega
  have HP := Lib.hid hp
  have HV := Lib.hid hv
  have HF := Lib.hid hn
  clear hp hv hn
  go_enter Tryd.func56, Tryd.ntmps56
  go_wp2_with fail
  refine (targets_any p n a c _ HP.out HF.out (hc.mono (newb _ _))).mono ?_
  rintro e w1 ⟨T, cap, rfl, hL, hb1⟩
  have h0 : ProbBlk w1 w.heap.size p a c := ProbBlk.later (w := w.alloc (.cells #[.int .i64 p.frames, .int .i64 p.low, .int .i64 p.high, .int .i64 p.slope, .int .i64 p.smooth, .slice a p.m c] 43)) (heap_alloc_new _ _) hb1
  have HL1 := Lib.hid hL
  have HN1 := Lib.hid h0
  have HB1 := Lib.hid ((newb w _).trans (hb1.mono (by simp)))
  clear hL hb1 h0
  obtain ⟨N, hN⟩ : ∃ N, N = w.heap.size := ⟨_, rfl⟩
  rw [← hN] at HN1
  rw [← hN]
  clear hN
  go_wp2_with fail
  go_loopw [5, 11] (fun s i wr => ∃ k : Nat, k ≤ n ∧ i = .int .i64 k ∧ s = .int .i64 (costN p k v) ∧ ProbBlk wr N p a c ∧ Lists wr T n p ∧ Below w.heap.size w wr) (fun _ i _ => n - (intOf i).toNat)
  case atStart => exact ⟨0, Nat.zero_le _, rfl, rfl, HN1.out, HL1.out, HB1.out⟩
  case round =>
    obtain ⟨k, hk, rfl, rfl, hn, hl, hb⟩ := hrel
    have HB := Lib.hid hb
    have HN := Lib.hid hn
    have HL := Lib.hid hl
    obtain ⟨a0, a1, a2, a3, a4, a5⟩ := hn.cells
    clear hb hn hl a0 a1 a2 a3 a5
    by_cases hlt : k < n
    · obtain ⟨b, off, rfl, hbs, hcell⟩ := hq.at (by omega)
      have k0 : wr.cell? ⟨b, off + k, none⟩ = some (.int .i64 (v k)) := by rw [HB.out.cell hbs]; exact hcell k hlt
      have hpre : 0 < k → wr.cell? ⟨b, off + (k - 1), none⟩ = some (.int .i64 (v (k - 1))) := fun _ => by rw [HB.out.cell hbs]; exact hcell (k - 1) (by omega)
      have HPR := Lib.hid hpre
      clear hcell hpre
      obtain ⟨ta, tc, hT, hR⟩ := HL.out.2 k hlt
      have HR := Lib.hid hR
      clear hR
      have d1 := HV.out.1 k hlt
      have d2 := HP.out.l1
      have d3 := HP.out.h1
      have d4 := node_bd HP.out (t := k) (v := v k) (by omega) (by omega)
      have d5 := costN_bd HP.out HV.out (by omega) (show k ≤ n by omega)
      have HS := Lib.hid (selF_ok HP.out k)
      have HLn := Lib.hid (Nat.le_trans (selL_length p k p.m) HP.out.m1)
      go_wp2_with fail
      refine (missed_any (selF (selL p k p.m)) (selL p k p.m).length (v k) ta tc wr HS.out HLn.out (by omega) (by omega) HR.out).mono ?_
      rintro e w3 ⟨rfl, hb3⟩
      rw [lsum_node]
      have HN3 := Lib.hid (HN.out.later hb3)
      have HL3 := Lib.hid (HL.out.later hb3)
      have HB3 := Lib.hid (HB.out.trans (hb3.mono HB.out.size))
      have k0' := keepc hb3 k0
      have a4' := keepc hb3 a4
      by_cases h0 : 0 < k
      · have k1 := keepc hb3 (HPR.out h0)
        have HE := Lib.hid (term_next p v h0)
        have d6 := HV.out.1 (k - 1) (by omega)
        have d7 := HP.out.rg
        have d8 := HP.out.k1
        have d9 := HP.out.k2
        have e0 : IntKind.i64.wrap ((k : Int) - 1) = (k : Int) - 1 := IntWalk.i64_in _ (by omega)
        have e1 : (0 : Int) ≤ (k : Int) - 1 := by omega
        have e2 : ((k : Int) - 1).toNat = k - 1 := by omega
        have e3 : (k : Int) - 1 < n := by omega
        have hd1 := wsq_bd (w := p.smooth) (x := v k - v (k - 1)) (W := 1000) (B := 400) (by omega) (by omega) (by omega) (by omega)
        clear a4 k0 hT hb3
        go_wp2_with fail
        go_quiet ((go_at_call 59; exact Calls.quiet_of_same (square_q _ _ (by omega) (by omega))))
        clear e0 e2
        go_wp2_with fail
        go_roundw
        case rel => exact ⟨k + 1, by omega, by go_num, by rw [costN_succ, HE.out]; congr 1; omega, HN3.out.later (below_drewN (Below.refl _ _) _), HL3.out.later (below_drewN (Below.refl _ _) _), below_drewN HB3.out _⟩
        case measure => simp [intOf]; omega
      · have h0' : k = 0 := by omega
        subst h0'
        have HE := Lib.hid (term_first p v)
        clear a4 k0 hT hb3
        go_wp2_with fail
        go_roundw
        case rel => exact ⟨1, by omega, by go_num, by rw [costN_succ, HE.out], HN3.out, HL3.out, HB3.out⟩
        case measure => simp [intOf]; omega
    · have hle : n ≤ k := by omega
      have HJ := Lib.hid (show k = n by omega)
      go_wp2_with fail
      go_ret
      exact ⟨ret_int (by rw [HJ.out]), HB.out⟩
end Go.Proofs.YtijonghofghocaaDoor
