/-
  The walks of declaimref05.Cost and of pitch.missed. Conditions: the problem is as defined, the list is a contour; of missed, the targets' numbers are in their ranges.
-/
import Derived.Test.YtijonghofghocaaDoorContour
namespace Go.Proofs.YtijonghofghocaaDoor
open Go.RowKit

/-- What a list of targets costs for a value. -/
def lcost (sel : Nat → Tgt) (v : Int) (i : Nat) : Int := (sel i).weight * sq (v - (sel i).value)
def selOk (sel : Nat → Tgt) (k : Nat) : Prop := ∀ i, i < k → -200000 ≤ (sel i).value ∧ (sel i).value ≤ 200000 ∧ 0 ≤ (sel i).weight ∧ (sel i).weight ≤ 1000
theorem lcost_bd {sel : Nat → Tgt} {k i : Nat} {v : Int} (h : selOk sel k) (h1 : -100001 ≤ v) (h2 : v ≤ 100001) (hi : i < k) : 0 ≤ lcost sel v i ∧ lcost sel v i ≤ 90000600001000 := by
  have ht := h i hi
  have := wsq_bd (w := (sel i).weight) (x := v - (sel i).value) (W := 1000) (B := 300001) (by omega) (by omega) (by omega) (by omega)
  unfold lcost
  omega
theorem lsum_bd {sel : Nat → Tgt} {k : Nat} {v : Int} (h : selOk sel k) (h1 : -100001 ≤ v) (h2 : v ≤ 100001) (hk : k ≤ 200) {j : Nat} (hj : j ≤ k) : 0 ≤ sumTo (lcost sel v) j ∧ sumTo (lcost sel v) j ≤ 18000120000200000 := by
  have := sumTo_bd (f := lcost sel v) (n := j) (fun i hi => lcost_bd h h1 h2 (i := i) (by omega))
  have h4 := mul_up (n := (j : Int)) (m := 200) (M := 90000600001000) (by omega) (by omega)
  omega
theorem lsum_succ (sel : Nat → Tgt) (v : Int) (n : Nat) : sumTo (lcost sel v) (n + 1) = sumTo (lcost sel v) n + lcost sel v n := rfl

set_option maxRecDepth 100000 in
set_option maxHeartbeats 2000000 in
theorem missed_any (sel : Nat → Tgt) (k : Nat) (v : Int) (a : Option Addr) (c : Nat) (w : World) (hs : selOk sel k) (hk : k ≤ 200) (hv1 : -100001 ≤ v) (hv2 : v ≤ 100001) (hc : Row w a k 3 (tgtCell sel)) :
    Calls Tryd.prog 60 #[.slice a k c, .int .i64 v] w fun e w' => e = .returned (.int .i64 (sumTo (lcost sel v) k)) ∧ Below w.heap.size w w' := by
  have hm' : (k : Int) ≤ 200 := by omega
  have HS := Lib.hid hs
  clear hs
  go_enter Tryd.func60, Tryd.ntmps60
  go_wp2_with fail
  go_loopw [5, 10] (fun n i wr => ∃ j : Nat, j ≤ k ∧ i = .int .i64 j ∧ n = .int .i64 (sumTo (lcost sel v) j) ∧ Below w.heap.size w wr) (fun _ i _ => k - (intOf i).toNat)
  case atStart => exact ⟨0, Nat.zero_le _, rfl, rfl, Below.refl _ _⟩
  case round =>
    obtain ⟨j, hj, rfl, rfl, hb⟩ := hrel
    have HB := Lib.hid hb
    clear hb
    by_cases hlt : j < k
    · obtain ⟨b, off, rfl, hbs, hcell⟩ := hc.at (by omega)
      obtain ⟨k0, k1, k2⟩ := tgt_at HB.out hbs hcell hlt
      have hbr : b < wr.heap.size := Nat.lt_of_lt_of_le hbs HB.out.size
      clear hcell
      have htg := HS.out j hlt
      have hbd := lsum_bd HS.out hv1 hv2 hk (j := j) (by omega)
      have hbd2 := lcost_bd HS.out hv1 hv2 hlt
      unfold lcost at hbd2
      go_wp2_with fail
      go_quiet ((go_at_call 59; exact Calls.quiet_of_same (square_q _ _ (by omega) (by omega))))
      go_wp2_with fail
      go_roundw
      case rel => exact ⟨j + 1, by omega, by go_num, by rw [lsum_succ]; rfl, below_drewN (HB.out.trans ((newb _ _).mono HB.out.size)) _⟩
      case measure => simp [intOf]; omega
    · have hle : k ≤ j := by omega
      have HJ := Lib.hid (show j = k by omega)
      go_wp2_with fail
      go_ret
      exact ⟨ret_int (by rw [HJ.out]), HB.out⟩

theorem term_first (p : Prob) (v : Nat → Int) : term p v 0 = node p 0 (v 0) := by simp [term]
theorem term_next (p : Prob) (v : Nat → Int) {t : Nat} (h : 0 < t) : term p v t = node p t (v t) + p.smooth * sq (v t - v (t - 1)) := by simp [term, h]

set_option maxRecDepth 100000 in
set_option maxHeartbeats 4000000 in
theorem refcost_any (p : Prob) (n : Nat) (v : Nat → Int) (a q : Option Addr) (c cq : Nat) (w : World) (hp : PB p) (hn : (n : Int) = p.frames) (hv : okN p n v) (hc : Row w a p.m 3 (tgtCell p.tg)) (hq : Ints w q n v) :
    Calls Tryd.prog 30 #[.agg #[.int .i64 p.frames, .int .i64 p.low, .int .i64 p.high, .int .i64 p.slope, .int .i64 p.smooth, .slice a p.m c], .slice q n cq] w fun e w' => e = .returned (.int .i64 (costN p n v)) ∧ Below w.heap.size w w' := by
  have hn' : (n : Int) ≤ 200 := by have := hp.f2; omega
  have HP := Lib.hid hp
  have HV := Lib.hid hv
  clear hp hv hn
  go_enter Tryd.func30, Tryd.ntmps30
  go_wp2_with fail
  refine wp_gen (fun w2 => ProbBlk w2 w.heap.size p a c ∧ Below w.heap.size w w2) ⟨heap_alloc_new _ _, newb _ _⟩ ?_
  obtain ⟨N, hN⟩ : ∃ N, N = w.heap.size := ⟨_, rfl⟩
  rw [← hN]
  rintro w2 ⟨hN2, hb2⟩
  have HN2 := Lib.hid hN2
  have HB2 := Lib.hid (show Below w.heap.size w w2 by rw [← hN]; exact hb2)
  clear hN2 hb2 hN
  go_loopw [5, 6] (fun s i wr => ∃ k : Nat, k ≤ n ∧ i = .int .i64 k ∧ s = .int .i64 (costN p k v) ∧ ProbBlk wr N p a c ∧ Below w.heap.size w wr) (fun _ i _ => n - (intOf i).toNat)
  case atStart => exact ⟨0, Nat.zero_le _, rfl, rfl, HN2.out, HB2.out⟩
  case round =>
    obtain ⟨k, hk, rfl, rfl, hn, hb⟩ := hrel
    have HB := Lib.hid hb
    have HN := Lib.hid hn
    obtain ⟨a0, a1, a2, a3, a4, a5⟩ := hn.cells
    clear hb hn
    by_cases hlt : k < n
    · obtain ⟨b, off, rfl, hbs, hcell⟩ := hq.at (by omega)
      have k0 : wr.cell? ⟨b, off + k, none⟩ = some (.int .i64 (v k)) := by rw [HB.out.cell hbs]; exact hcell k hlt
      have hpre : 0 < k → wr.cell? ⟨b, off + (k - 1), none⟩ = some (.int .i64 (v (k - 1))) := fun _ => by rw [HB.out.cell hbs]; exact hcell (k - 1) (by omega)
      have HPR := Lib.hid hpre
      clear hcell hpre
      have d1 := HV.out.1 k hlt
      have d2 := HP.out.l1
      have d3 := HP.out.h1
      have d4 := node_bd HP.out (t := k) (v := v k) (by omega) (by omega)
      have d5 := costN_bd HP.out HV.out (by omega) (show k ≤ n by omega)
      have HR := Lib.hid (hc.mono HB.out)
      have q0 := later_cell a0
      have q1 := later_cell a1
      have q2 := later_cell a2
      have q3 := later_cell a3
      have q4 := later_cell a4
      have q5 := later_cell a5
      have q6 := later_cell k0
      go_wp2_with fail
      refine wp_region_later (by kernel_rfl) (by kernel_rfl) ?_
      repeat (go_big_quiet_step ((go_at_call 61; exact Calls.later_of (here_any p k (v k) a c _ HP.out (by omega) (by omega) (HR.out.mono (Later.below _))))))
      refine wpQuiet_nil ?_
      rintro w3 ⟨x, hx⟩
      have hb3 : Below wr.heap.size wr w3 := hx ▸ x.below
      clear hx x q0 q1 q2 q3 q4 q5 q6
      have HN3 := Lib.hid (HN.out.later hb3)
      have HB3 := Lib.hid (HB.out.trans (hb3.mono HB.out.size))
      have k0' := keepc hb3 k0
      have a4' := keepc hb3 a4
      by_cases h0 : 0 < k
      · have k1 := keepc hb3 (HPR.out h0)
        have HE := Lib.hid (term_next p v h0)
        have d6 := HV.out.1 (k - 1) (by omega)
        have d7 := HP.out.rg
        have d8 := HP.out.k1
        have d9 := HP.out.k2
        have e0 : IntKind.i64.wrap ((k : Int) - 1) = (k : Int) - 1 := IntWalk.i64_in _ (by omega)
        have e1 : (0 : Int) ≤ (k : Int) - 1 := by omega
        have e2 : ((k : Int) - 1).toNat = k - 1 := by omega
        have e3 : (k : Int) - 1 < n := by omega
        have hd1 := wsq_bd (w := p.smooth) (x := v k - v (k - 1)) (W := 1000) (B := 400) (by omega) (by omega) (by omega) (by omega)
        have e4 : p.smooth * (v k - v (k - 1)) * (v k - v (k - 1)) = p.smooth * sq (v k - v (k - 1)) := by unfold sq; rw [Int.mul_assoc]
        have hd2 : -(1000 * 400) ≤ p.smooth * (v k - v (k - 1)) ∧ p.smooth * (v k - v (k - 1)) ≤ 1000 * 400 := mul_bd (by omega) (by omega) (by omega) (by omega)
        clear a0 a1 a2 a3 a4 a5 k0
        go_wp2_with fail
        go_quiet (fail)
        clear e0 e2
        go_wp2_with fail
        go_roundw
        case rel => exact ⟨k + 1, by omega, by go_num, by rw [costN_succ, HE.out]; congr 1; omega, HN3.out.later (below_drewN (Below.refl _ _) _), below_drewN HB3.out _⟩
        case measure => simp [intOf]; omega
      · have h0' : k = 0 := by omega
        subst h0'
        have HE := Lib.hid (term_first p v)
        clear a0 a1 a2 a3 a4 a5 k0
        go_wp2_with fail
        go_roundw
        case rel => exact ⟨1, by omega, by go_num, by rw [costN_succ, HE.out], HN3.out, HB3.out⟩
        case measure => simp [intOf]; omega
    · have hle : n ≤ k := by omega
      have HJ := Lib.hid (show k = n by omega)
      go_wp2_with fail
      go_ret
      exact ⟨ret_int (by rw [HJ.out]), HB.out⟩
end Go.Proofs.YtijonghofghocaaDoor
