/-
  The walk of pitch.Settled: whether no shift of neighbouring values makes a contour cheaper, or the error. Condition: the slices read as their elements.
-/
import Derived.Test.YtijonghofghocaaDoorPBest2
import Derived.Test.YtijonghofghocaaDoorSmall
import Derived.Test.YtijonghofghocaaDoorSettle
import Derived.WalkMore
namespace Go.Proofs.YtijonghofghocaaDoor
open Go.RowKit

/-- Whether a contour is settled, or the error. -/
def SettledE (p : Prob) (n : Nat) (v : Nat → Int) (w : World) (e : Ending) (w' : World) : Prop :=
  (probB p = true ∧ contB p n v = true → ∃ b : Bool, (b = true ↔ settledN p n v) ∧ e = .returned (.tuple #[.bool b, .int .i64 0])) ∧
  (¬ (probB p = true ∧ contB p n v = true) → e = .returned (.tuple #[.bool false, .int .i64 2])) ∧ Below w.heap.size w w'
/-- The ways. -/
def dd (s : Nat) : Int := if s = 0 then 1 else -1
theorem dd_or (s : Nat) : dd s = 1 ∨ dd s = -1 := by unfold dd; split <;> simp
theorem dd_all {p : Prob} {n : Nat} {v : Nat → Int} (h : ∀ s, s < 2 → ∀ i j, i ≤ j → j < n → ¬ bad p n v i j (dd s)) : settledN p n v := by
  refine settled_iff.2 fun i j h1 h2 d hd => ?_
  rcases hd with rfl | rfl
  · exact h 0 (by omega) i j h1 h2
  · exact h 1 (by omega) i j h1 h2
theorem not_settled {p : Prob} {n : Nat} {v : Nat → Int} {i j : Nat} {d : Int} (h1 : i ≤ j) (h2 : j < n) (hd : d = 1 ∨ d = -1) (h : bad p n v i j d) : ¬ settledN p n v := fun hs => settled_iff.1 hs i j h1 h2 d hd h
theorem inOk_iff {p : Prob} {v : Nat → Int} {i : Nat} {d : Int} (h : 0 < i) : inOk p v i d ↔ inB (v i + d - v (i - 1)) (-p.slope) p.slope = true := by
  rw [inB_iff]; exact ⟨fun k => k h, fun k _ => k⟩
theorem outOk_iff {p : Prob} {n : Nat} {v : Nat → Int} {j : Nat} {d : Int} (h : j + 1 < n) : outOk p n v j d ↔ inB (v (j + 1) - v j - d) (-p.slope) p.slope = true := by
  rw [inB_iff]; exact ⟨fun k => k h, fun k _ => k⟩
theorem edgeIn_pos {p : Prob} {v : Nat → Int} {i : Nat} {d : Int} (h : 0 < i) : edgeIn p v i d = p.smooth * (sq (v i + d - v (i - 1)) - sq (v i - v (i - 1))) := by simp [edgeIn, h]
theorem edgeOut_pos {p : Prob} {n : Nat} {v : Nat → Int} {j : Nat} {d : Int} (h : j + 1 < n) : edgeOut p n v j d = p.smooth * (sq (v (j + 1) - v j - d) - sq (v (j + 1) - v j)) := by simp [edgeOut, h]
theorem edgeOut_end {p : Prob} {n : Nat} {v : Nat → Int} {j : Nat} {d : Int} (h : ¬ j + 1 < n) : edgeOut p n v j d = 0 := by simp [edgeOut, h]

set_option maxRecDepth 100000 in
set_option maxHeartbeats 8000000 in
theorem settled_ok (p : Prob) (n : Nat) (v : Nat → Int) (a q : Option Addr) (c cq : Nat) (w : World) (hm : p.m ≤ 9223372036854775807) (hp : PB p) (hn : (n : Int) = p.frames) (hv : okN p n v) (hc : Row w a p.m 3 (tgtCell p.tg)) (hq : Ints w q n v) :
    Calls Tryd.prog 27 #[.agg #[.int .i64 p.frames, .int .i64 p.low, .int .i64 p.high, .int .i64 p.slope, .int .i64 p.smooth, .slice a p.m c], .slice q n cq] w
      fun e w' => (∃ b : Bool, (b = true ↔ settledN p n v) ∧ e = .returned (.tuple #[.bool b, .int .i64 0])) ∧ Below w.heap.size w w' := by
  have hn' : (n : Int) ≤ 200 := by have := hp.f2; omega
  have HG1 := Lib.hid (probB_iff.2 hp)
  have HG2 := Lib.hid (contB_iff.2 ⟨hn, hv⟩)
  have HP := Lib.hid hp
  have HV := Lib.hid hv
  have HF := Lib.hid hn
  have HQ := Lib.hid hq
  have h1n : 0 < n := by have := hp.f1; omega
  clear hp hv hn hq
  go_enter Tryd.func27, Tryd.ntmps27
  go_wp2_with fail
  have h0 : ProbBlk (w.alloc (.cells #[.int .i64 p.frames, .int .i64 p.low, .int .i64 p.high, .int .i64 p.slope, .int .i64 p.smooth, .slice a p.m c] 43)) w.heap.size p a c := heap_alloc_new _ _
  refine (problem_any p a c _ hm (hc.mono (newb _ _))).mono ?_
  rintro e w1 ⟨rfl, hb1⟩
  have HN1 := Lib.hid (h0.later hb1)
  have HB1 := Lib.hid ((newb w _).trans (hb1.mono (by simp)))
  obtain ⟨a0, a1, a2, a3, a4, a5⟩ := HN1.out.cells
  clear h0 hb1
  rw [HG1.out]
  go_wp2_with fail
  refine (contour_any p n v a q c cq _ HP.out (HQ.out.mono HB1.out) (by omega)).mono ?_
  rintro e w2 ⟨rfl, hb2⟩
  have HN2 := Lib.hid (HN1.out.later hb2)
  have HB2 := Lib.hid (HB1.out.trans (hb2.mono HB1.out.size))
  clear a0 a1 a2 a3 a4 a5 hb2
  obtain ⟨a0, a1, a2, a3, a4, a5⟩ := HN2.out.cells
  rw [HG2.out]
  go_wp2_with fail
  refine (targets_any p n a c _ HP.out HF.out (hc.mono HB2.out)).mono ?_
  rintro e w3 ⟨T, cap, rfl, hL, hb3⟩
  have HN3 := Lib.hid (HN2.out.later hb3)
  have HL3 := Lib.hid hL
  have HB3 := Lib.hid (HB2.out.trans (hb3.mono HB2.out.size))
  clear a0 a1 a2 a3 a4 a5 hb3 hL
  obtain ⟨N, hN⟩ : ∃ N, N = w.heap.size := ⟨_, rfl⟩
  rw [← hN] at HN3
  rw [← hN]
  clear hN
  go_wp2_with fail
  refine wp_gen (fun w4 => Below w3.heap.size w3 w4 ∧ ∀ s, s < 2 → w4.cell? ⟨w3.heap.size, s, none⟩ = some (.int .i64 (dd s))) ⟨newb _ _, fun s hs => ?_⟩ ?_
  · have h := heap_alloc_new w3 (.cells #[.int .i64 1, .int .i64 (-1)] 3)
    have hs' : s = 0 ∨ s = 1 := by omega
    rcases hs' with rfl | rfl
    all_goals
      unfold World.cell?
      simp only
      rw [h]
      rfl
  rintro w4 ⟨hb4, hd4⟩
  obtain ⟨D, hD⟩ : ∃ D, D = w3.heap.size := ⟨_, rfl⟩
  rw [← hD] at hd4
  rw [← hD]
  have HD4 := Lib.hid hd4
  have HN4 := Lib.hid (HN3.out.later hb4)
  have HL4 := Lib.hid (HL3.out.later hb4)
  have HB4 := Lib.hid (HB3.out.trans (hb4.mono HB3.out.size))
  have HQ4 := Lib.hid (HQ.out.mono HB4.out)
  clear hb4 hd4 hD HN3 HL3
  go_loopw [31] (fun u wr => ∃ s : Nat, s ≤ 2 ∧ u = .int .i64 s ∧ (∀ r, r < s → ∀ i j, i ≤ j → j < n → ¬ bad p n v i j (dd r)) ∧ Below w4.heap.size w4 wr) (fun u _ => 2 - (intOf u).toNat)
  case atStart => exact ⟨0, by omega, rfl, fun r hr => by omega, Below.refl _ _⟩
  case round =>
    obtain ⟨s, hs, rfl, hbad, hb⟩ := hrel
    have HA := Lib.hid hbad
    have HB := Lib.hid hb
    clear hbad hb
    by_cases hs2 : s < 2
    · have hs2' : (s : Int) < 2 := by omega
      have d0 := keepc HB.out (HD4.out s hs2)
      obtain ⟨d, hd⟩ : ∃ d, d = dd s := ⟨_, rfl⟩
      rw [← hd] at d0
      have hdo : d = 1 ∨ d = -1 := by rw [hd]; exact dd_or s
      have HDD := Lib.hid hd
      clear hd
      go_wp2_with fail
      clear d0
      go_step3
      go_wp2_with fail
      go_step3
      go_wp2_with fail
      go_loopw [37] (fun u wi => ∃ i : Nat, i ≤ n ∧ u = .int .i64 i ∧ (∀ i', i' < i → ∀ j, i' ≤ j → j < n → ¬ bad p n v i' j d) ∧ Below w4.heap.size w4 wi) (fun u _ => n - (intOf u).toNat)
      case atStart => exact ⟨0, by omega, rfl, fun r hr => by omega, HB.out⟩
      case round =>
        obtain ⟨i, hi, rfl, hbad, hb⟩ := hrel
        have HAI := Lib.hid hbad
        have HBI := Lib.hid hb
        clear hbad hb
        by_cases hlt : i < n
        · obtain ⟨b, off, rfl, hbs, hcell⟩ := HQ4.out.at (by omega)
          have HC := Lib.hid (show ∀ j, j < n → w4.cell? ⟨b, off + j, none⟩ = some (.int .i64 (v j)) from hcell)
          clear hcell
          have dl := HP.out.l1
          have dh := HP.out.h1
          have dr := HP.out.rg
          have v0 := HV.out.1 i hlt
          have e4 : IntKind.i64.wrap (v i + d) = v i + d := IntWalk.i64_in _ (by omega)
          by_cases h0 : 0 < i
          · have h0' : (0 : Int) < i := by omega
            have k0 := keepc HBI.out (HC.out i hlt)
            have k1 := keepc HBI.out (HC.out (i - 1) (by omega))
            have v1 := HV.out.1 (i - 1) (by omega)
            have v2 := HV.out.2 i h0 hlt
            have q0 := later_cell k0
            have q1 := later_cell k1
            have e0 : IntKind.i64.wrap ((i : Int) - 1) = (i : Int) - 1 := IntWalk.i64_in _ (by omega)
            have e1 : (0 : Int) ≤ (i : Int) - 1 := by omega
            have e2 : ((i : Int) - 1).toNat = i - 1 := by omega
            have e3 : (i : Int) - 1 < n := by omega
            have e5 : IntKind.i64.wrap (v i - v (i - 1)) = v i - v (i - 1) := IntWalk.i64_in _ (by omega)
            have e6 : IntKind.i64.wrap (v i + d - v (i - 1)) = v i + d - v (i - 1) := IntWalk.i64_in _ (by omega)
            have HNr := Lib.hid (HN4.out.later HBI.out)
            go_wp2_with fail
            refine wp_region_later (by kernel_rfl) (by kernel_rfl) ?_
            repeat (go_big_quiet_step ((go_at_call 58; exact Calls.later_of (edge_any p _ _ N a c _ HP.out (HNr.out.later (Later.below _)) (by clear e0 e2 e4 e5 e6; omega) (by clear e0 e2 e4 e5 e6; omega) (by clear e0 e2 e4 e5 e6; omega) (by clear e0 e2 e4 e5 e6; omega)))))
            clear e0 e2 q0 q1 e5 e6
            refine wpQuiet_nil ?_
            rintro w5 ⟨x5, hx5⟩
            have hb5 : Below wr.heap.size wr w5 := hx5 ▸ x5.below
            have HB5 := Lib.hid (HBI.out.trans (hb5.mono HBI.out.size))
            clear hx5 x5
            cases gin : inB (v i + d - v (i - 1)) (-p.slope) p.slope with
            | false =>
              have HNO := Lib.hid (show ¬ inOk p v i d from fun h => by rw [inOk_iff h0, gin] at h; cases h)
              go_wp2_with fail
              go_roundw
              case rel =>
                refine ⟨i + 1, by omega, by go_num, fun i' hi' j h1 h2 => ?_, HB5.out⟩
                by_cases e : i' = i
                · rw [e] at h1 ⊢
                  exact not_bad_in HV.out HNO.out h1 h2
                · exact HAI.out i' (by omega) j h1 h2
              case measure => simp [intOf]; omega
            | true =>
              have HIN := Lib.hid (show inOk p v i d from (inOk_iff h0).2 gin)
              have HME := Lib.hid (show more p v i d 0 = p.smooth * (sq (v i + d - v (i - 1)) - sq (v i - v (i - 1))) from edgeIn_pos h0)
              clear gin k0 k1
              go_wp2_with fail
              go_loopw [11, 14] (fun m u wi => ∃ k : Nat, i + k ≤ n ∧ u = .int .i64 (i + k : Nat) ∧ m = .int .i64 (more p v i d k) ∧ (∀ j, i ≤ j → j < i + k → ¬ bad p n v i j d) ∧ (∀ t, i ≤ t → t < i + k → p.low ≤ v t + d ∧ v t + d ≤ p.high) ∧ Below w4.heap.size w4 wi) (fun _ u _ => n - (intOf u).toNat)
              case atStart => exact ⟨0, by omega, rfl, by rw [HME.out], fun j h1 h2 => by omega, fun j h1 h2 => by omega, HB5.out⟩
              case round =>
                obtain ⟨k, hk, rfl, rfl, hbad, hran, hb⟩ := hrel
                have HAJ := Lib.hid hbad
                have HRJ := Lib.hid hran
                have HBJ := Lib.hid hb
                clear hbad hran hb
                obtain ⟨j, hj⟩ : ∃ j, j = i + k := ⟨_, rfl⟩
                have HJ := Lib.hid hj
                have hij : i ≤ j := by omega
                rw [← hj]
                clear hj
                by_cases hltj : j < n
                · have kj := keepc HBJ.out (HC.out j hltj)
                  obtain ⟨a0, a1, a2, a3, a4, a5⟩ := (HN4.out.later HBJ.out).cells
                  have wj := HV.out.1 j hltj
                  have e7 : IntKind.i64.wrap (v j + d) = v j + d := IntWalk.i64_in _ (by omega)
                  clear a0 a3 a4 a5
                  go_wp2_with fail
                  go_quiet ((go_at_call 48; exact Calls.quiet_of_same (within_q _ _ _ _)))
                  cases gw : inB (v j + d) p.low p.high with
                  | false =>
                    have HW := Lib.hid (show ¬ (p.low ≤ v j + d ∧ v j + d ≤ p.high) from fun h => by rw [inB_iff.2 h] at gw; cases gw)
                    clear a1 a2 kj e7
                    go_wp2_with fail
                    refine ⟨⟨i + 1, by omega, by go_num, fun i' hi' j' h1 h2 => ?_, by repeat first | exact HBJ.out | refine below_drewN ?_ _⟩, by simp [intOf]; omega⟩
                    by_cases e : i' = i
                    · rw [e] at h1 ⊢
                      by_cases e2 : j' < j
                      · exact HAJ.out j' h1 (by have := HJ.out; omega)
                      · exact not_bad_at HV.out hij HW.out (by omega) h2
                    · exact HAI.out i' (by omega) j' h1 h2
                  | true =>
                    have HW := Lib.hid (inB_iff.1 gw)
                    clear a1 a2 kj e7
                    go_wp2_with fail
                    clear gw
                    refine wp_gen (fun w5 => Below w4.heap.size w4 w5) (by repeat first | exact HBJ.out | refine below_drewN ?_ _) ?_
                    rintro w6 hb6
                    have HB6 := Lib.hid hb6
                    clear hb6
                    have kj := keepc HB6.out (HC.out j hltj)
                    obtain ⟨ta, tc, hT, hR⟩ := (HL4.out.later HB6.out).2 j hltj
                    have HR := Lib.hid hR
                    have qk := later_cell kj
                    have qT := later_cell hT
                    obtain ⟨mk, hmk⟩ : ∃ mk, mk = more p v i d k := ⟨_, rfl⟩
                    obtain ⟨mm, hmm⟩ : ∃ mm, mm = more p v i d (k + 1) := ⟨_, rfl⟩
                    have hsum : mm = mk + (node p j (v j + d) - node p j (v j)) := by rw [hmm, hmk, HJ.out]; rfl
                    have mb := more_bd HP.out HV.out hdo hlt (k + 1) (by have := HJ.out; omega)
                    rw [← hmm] at mb
                    have mb1 : -4000000000000000000 ≤ mm ∧ mm ≤ 4000000000000000000 := by
                      have hk2 : (k : Int) ≤ 200 := by omega
                      omega
                    have nb1 := node_bd HP.out (t := j) (v := v j) (by omega) (by omega)
                    have nb2 := node_bd HP.out (t := j) (v := v j + d) (by omega) (by omega)
                    rw [← hmk]
                    have HMM := Lib.hid hmm
                    clear hmk hmm mb hR
                    have e7 : IntKind.i64.wrap (v j + d) = v j + d := IntWalk.i64_in _ (by omega)
                    have e8 : IntKind.i64.wrap (node p j (v j + d) - node p j (v j)) = node p j (v j + d) - node p j (v j) := IntWalk.i64_in _ (by omega)
                    have e9 : IntKind.i64.wrap (mk + (node p j (v j + d) - node p j (v j))) = mm := by rw [← hsum]; exact IntWalk.i64_in _ (by omega)
                    clear hsum nb1 nb2
                    refine wp_region_later (by kernel_rfl) (by kernel_rfl) ?_
                    repeat (go_big_quiet_step ((go_at_call 60; exact Calls.later_of (missed_node p j _ ta tc _ HP.out (by clear e7 e8 e9 e4; omega) (by clear e7 e8 e9 e4; omega) (HR.out.mono (Later.below _))))))
                    clear e7 e8 e9 qk qT kj hT
                    refine wpQuiet_nil ?_
                    rintro w7 ⟨x7, hx7⟩
                    have hb7 : Below w6.heap.size w6 w7 := hx7 ▸ x7.below
                    have HB7 := Lib.hid (HB6.out.trans (hb7.mono HB6.out.size))
                    clear hx7 x7 hb7
                    have HBD := Lib.hid (show bad p n v i j d ↔ outOk p n v j d ∧ mm + edgeOut p n v j d < 0 by
                      have h := bad_iff HV.out (i := i) (j := j) (d := d) hij hltj (fun t h1 h2 => by
                        by_cases e : t = j
                        · rw [e]; exact HW.out
                        · exact HRJ.out t h1 (by have := HJ.out; omega)) HIN.out
                      rw [show j - i + 1 = k + 1 by have := HJ.out; omega, ← HMM.out] at h
                      exact h)
                    have HNX := Lib.hid (show ¬ bad p n v i j d → ∀ j', i ≤ j' → j' < i + (k + 1) → ¬ bad p n v i j' d from fun hn j' h1 h2 => by
                      by_cases e : j' = j
                      · rw [e]; exact hn
                      · exact HAJ.out j' h1 (by have := HJ.out; omega))
                    have HNR := Lib.hid (show ∀ t, i ≤ t → t < i + (k + 1) → p.low ≤ v t + d ∧ v t + d ≤ p.high from fun t h1 h2 => by
                      by_cases e : t = j
                      · rw [e]; exact HW.out
                      · exact HRJ.out t h1 (by have := HJ.out; omega))
                    by_cases hjn : j + 1 < n
                    · have hjn' : (j : Int) + 1 < n := by omega
                      have HEO := Lib.hid (edgeOut_pos (p := p) (v := v) (d := d) hjn)
                      have kj := keepc HB7.out (HC.out j hltj)
                      have kj1 := keepc HB7.out (HC.out (j + 1) hjn)
                      have v3 := HV.out.1 (j + 1) hjn
                      have v4 := HV.out.2 (j + 1) (by omega) hjn
                      rw [Nat.add_sub_cancel] at v4
                      have q0 := later_cell kj
                      have q1 := later_cell kj1
                      have e0 : IntKind.i64.wrap ((j : Int) + 1) = (j : Int) + 1 := IntWalk.i64_in _ (by omega)
                      have e1 : (0 : Int) ≤ (j : Int) + 1 := by omega
                      have e2 : ((j : Int) + 1).toNat = j + 1 := by omega
                      have e5 : IntKind.i64.wrap (v (j + 1) - v j) = v (j + 1) - v j := IntWalk.i64_in _ (by omega)
                      have e6 : IntKind.i64.wrap (v (j + 1) - v j - d) = v (j + 1) - v j - d := IntWalk.i64_in _ (by omega)
                      have HNr := Lib.hid (HN4.out.later HB7.out)
                      go_wp2_with fail
                      refine wp_region_later (by kernel_rfl) (by kernel_rfl) ?_
                      repeat (go_big_quiet_step ((go_at_call 58; exact Calls.later_of (edge_any p _ _ N a c _ HP.out (HNr.out.later (Later.below _)) (by clear e0 e2 e4 e5 e6; omega) (by clear e0 e2 e4 e5 e6; omega) (by clear e0 e2 e4 e5 e6; omega) (by clear e0 e2 e4 e5 e6; omega)))))
                      clear e0 e2 q0 q1 e5 e6 kj kj1
                      refine wpQuiet_nil ?_
                      rintro w8 ⟨x8, hx8⟩
                      have hb8 : Below w7.heap.size w7 w8 := hx8 ▸ x8.below
                      have HB8 := Lib.hid (HB7.out.trans (hb8.mono HB7.out.size))
                      clear hx8 x8 hb8
                      obtain ⟨eo, heo⟩ : ∃ eo, eo = p.smooth * (sq (v (j + 1) - v j - d) - sq (v (j + 1) - v j)) := ⟨_, rfl⟩
                      have heb := sqdiff_bd HP.out (x := v (j + 1) - v j) (y := v (j + 1) - v j - d) (by omega) (by omega) (by omega) (by omega)
                      rw [← heo] at heb HEO
                      rw [← heo]
                      clear heo
                      cases gout : inB (v (j + 1) - v j - d) (-p.slope) p.slope with
                      | false =>
                        have HNB := Lib.hid (show ¬ bad p n v i j d from fun h => by
                          have := (outOk_iff hjn).1 (HBD.out.1 h).1
                          rw [gout] at this; cases this)
                        go_wp2_with fail
                        go_roundw
                        case rel => exact ⟨k + 1, by have := HJ.out; omega, by have := HJ.out; go_num, by rw [HMM.out], HNX.out HNB.out, HNR.out, HB8.out⟩
                        case measure => simp [intOf]; omega
                      | true =>
                        have HOK := Lib.hid (show outOk p n v j d from (outOk_iff hjn).2 gout)
                        clear gout
                        by_cases hneg : mm + eo < 0
                        · have HNS := Lib.hid (not_settled hij hltj hdo (HBD.out.2 ⟨HOK.out, by rw [HEO.out]; exact hneg⟩))
                          go_wp2_with fail
                          rw [Exit.noGoto_ret]
                          go_wp2_with fail
                          go_ret2
                          exact ⟨⟨false, by simpa using HNS.out, rfl⟩, HB4.out.trans (HB8.out.mono HB4.out.size)⟩
                        · have HNB := Lib.hid (show ¬ bad p n v i j d from fun h => hneg (by have := (HBD.out.1 h).2; rw [HEO.out] at this; exact this))
                          have hneg' : 0 ≤ mm + eo := by omega
                          go_wp2_with fail
                          go_roundw
                          case rel => exact ⟨k + 1, by have := HJ.out; omega, by have := HJ.out; go_num, by rw [HMM.out], HNX.out HNB.out, HNR.out, HB8.out⟩
                          case measure => simp [intOf]; omega
                    · have hjn' : (n : Int) ≤ (j : Int) + 1 := by omega
                      have HEO := Lib.hid (edgeOut_end (p := p) (v := v) (d := d) hjn)
                      have HOK := Lib.hid (show outOk p n v j d from fun h => absurd h hjn)
                      by_cases hneg : mm < 0
                      · have HNS := Lib.hid (not_settled hij hltj hdo (HBD.out.2 ⟨HOK.out, by rw [HEO.out]; omega⟩))
                        go_wp2_with fail
                        rw [Exit.noGoto_ret]
                        go_wp2_with fail
                        go_ret2
                        exact ⟨⟨false, by simpa using HNS.out, rfl⟩, HB4.out.trans (HB7.out.mono HB4.out.size)⟩
                      · have HNB := Lib.hid (show ¬ bad p n v i j d from fun h => hneg (by have := (HBD.out.1 h).2; rw [HEO.out] at this; omega))
                        have hneg' : 0 ≤ mm := by omega
                        go_wp2_with fail
                        go_roundw
                        case rel => exact ⟨k + 1, by have := HJ.out; omega, by have := HJ.out; go_num, by rw [HMM.out], HNX.out HNB.out, HNR.out, HB7.out⟩
                        case measure => simp [intOf]; omega
                · have hlej : n ≤ j := by omega
                  go_wp2_with fail
                  refine ⟨⟨i + 1, by omega, by go_num, fun i' hi' j' h1 h2 => ?_, HBJ.out⟩, by simp [intOf]; omega⟩
                  by_cases e : i' = i
                  · rw [e] at h1 ⊢
                    exact HAJ.out j' h1 (by have := HJ.out; omega)
                  · exact HAI.out i' (by omega) j' h1 h2
          · have h0' : (i : Int) ≤ 0 := by omega
            have HIN := Lib.hid (show inOk p v i d from fun h => absurd h h0)
            have HME := Lib.hid (show more p v i d 0 = 0 by simp [more, edgeIn, h0])
            go_wp2_with fail
            go_loopw [11, 14] (fun m u wi => ∃ k : Nat, i + k ≤ n ∧ u = .int .i64 (i + k : Nat) ∧ m = .int .i64 (more p v i d k) ∧ (∀ j, i ≤ j → j < i + k → ¬ bad p n v i j d) ∧ (∀ t, i ≤ t → t < i + k → p.low ≤ v t + d ∧ v t + d ≤ p.high) ∧ Below w4.heap.size w4 wi) (fun _ u _ => n - (intOf u).toNat)
            case atStart => exact ⟨0, by omega, rfl, by rw [HME.out], fun j h1 h2 => by omega, fun j h1 h2 => by omega, HBI.out⟩
            case round =>
              obtain ⟨k, hk, rfl, rfl, hbad, hran, hb⟩ := hrel
              have HAJ := Lib.hid hbad
              have HRJ := Lib.hid hran
              have HBJ := Lib.hid hb
              clear hbad hran hb
              obtain ⟨j, hj⟩ : ∃ j, j = i + k := ⟨_, rfl⟩
              have HJ := Lib.hid hj
              have hij : i ≤ j := by omega
              rw [← hj]
              clear hj
              by_cases hltj : j < n
              · have kj := keepc HBJ.out (HC.out j hltj)
                obtain ⟨a0, a1, a2, a3, a4, a5⟩ := (HN4.out.later HBJ.out).cells
                have wj := HV.out.1 j hltj
                have e7 : IntKind.i64.wrap (v j + d) = v j + d := IntWalk.i64_in _ (by omega)
                clear a0 a3 a4 a5
                go_wp2_with fail
                go_quiet ((go_at_call 48; exact Calls.quiet_of_same (within_q _ _ _ _)))
                cases gw : inB (v j + d) p.low p.high with
                | false =>
                  have HW := Lib.hid (show ¬ (p.low ≤ v j + d ∧ v j + d ≤ p.high) from fun h => by rw [inB_iff.2 h] at gw; cases gw)
                  clear a1 a2 kj e7
                  go_wp2_with fail
                  refine ⟨⟨i + 1, by omega, by go_num, fun i' hi' j' h1 h2 => ?_, by repeat first | exact HBJ.out | refine below_drewN ?_ _⟩, by simp [intOf]; omega⟩
                  by_cases e : i' = i
                  · rw [e] at h1 ⊢
                    by_cases e2 : j' < j
                    · exact HAJ.out j' h1 (by have := HJ.out; omega)
                    · exact not_bad_at HV.out hij HW.out (by omega) h2
                  · exact HAI.out i' (by omega) j' h1 h2
                | true =>
                  have HW := Lib.hid (inB_iff.1 gw)
                  clear a1 a2 kj e7
                  go_wp2_with fail
                  clear gw
                  refine wp_gen (fun w5 => Below w4.heap.size w4 w5) (by repeat first | exact HBJ.out | refine below_drewN ?_ _) ?_
                  rintro w6 hb6
                  have HB6 := Lib.hid hb6
                  clear hb6
                  have kj := keepc HB6.out (HC.out j hltj)
                  obtain ⟨ta, tc, hT, hR⟩ := (HL4.out.later HB6.out).2 j hltj
                  have HR := Lib.hid hR
                  have qk := later_cell kj
                  have qT := later_cell hT
                  obtain ⟨mk, hmk⟩ : ∃ mk, mk = more p v i d k := ⟨_, rfl⟩
                  obtain ⟨mm, hmm⟩ : ∃ mm, mm = more p v i d (k + 1) := ⟨_, rfl⟩
                  have hsum : mm = mk + (node p j (v j + d) - node p j (v j)) := by rw [hmm, hmk, HJ.out]; rfl
                  have mb := more_bd HP.out HV.out hdo hlt (k + 1) (by have := HJ.out; omega)
                  rw [← hmm] at mb
                  have mb1 : -4000000000000000000 ≤ mm ∧ mm ≤ 4000000000000000000 := by
                    have hk2 : (k : Int) ≤ 200 := by omega
                    omega
                  have nb1 := node_bd HP.out (t := j) (v := v j) (by omega) (by omega)
                  have nb2 := node_bd HP.out (t := j) (v := v j + d) (by omega) (by omega)
                  rw [← hmk]
                  have HMM := Lib.hid hmm
                  clear hmk hmm mb hR
                  have e7 : IntKind.i64.wrap (v j + d) = v j + d := IntWalk.i64_in _ (by omega)
                  have e8 : IntKind.i64.wrap (node p j (v j + d) - node p j (v j)) = node p j (v j + d) - node p j (v j) := IntWalk.i64_in _ (by omega)
                  have e9 : IntKind.i64.wrap (mk + (node p j (v j + d) - node p j (v j))) = mm := by rw [← hsum]; exact IntWalk.i64_in _ (by omega)
                  clear hsum nb1 nb2
                  refine wp_region_later (by kernel_rfl) (by kernel_rfl) ?_
                  repeat (go_big_quiet_step ((go_at_call 60; exact Calls.later_of (missed_node p j _ ta tc _ HP.out (by clear e7 e8 e9 e4; omega) (by clear e7 e8 e9 e4; omega) (HR.out.mono (Later.below _))))))
                  clear e7 e8 e9 qk qT kj hT
                  refine wpQuiet_nil ?_
                  rintro w7 ⟨x7, hx7⟩
                  have hb7 : Below w6.heap.size w6 w7 := hx7 ▸ x7.below
                  have HB7 := Lib.hid (HB6.out.trans (hb7.mono HB6.out.size))
                  clear hx7 x7 hb7
                  have HBD := Lib.hid (show bad p n v i j d ↔ outOk p n v j d ∧ mm + edgeOut p n v j d < 0 by
                    have h := bad_iff HV.out (i := i) (j := j) (d := d) hij hltj (fun t h1 h2 => by
                      by_cases e : t = j
                      · rw [e]; exact HW.out
                      · exact HRJ.out t h1 (by have := HJ.out; omega)) HIN.out
                    rw [show j - i + 1 = k + 1 by have := HJ.out; omega, ← HMM.out] at h
                    exact h)
                  have HNX := Lib.hid (show ¬ bad p n v i j d → ∀ j', i ≤ j' → j' < i + (k + 1) → ¬ bad p n v i j' d from fun hn j' h1 h2 => by
                    by_cases e : j' = j
                    · rw [e]; exact hn
                    · exact HAJ.out j' h1 (by have := HJ.out; omega))
                  have HNR := Lib.hid (show ∀ t, i ≤ t → t < i + (k + 1) → p.low ≤ v t + d ∧ v t + d ≤ p.high from fun t h1 h2 => by
                    by_cases e : t = j
                    · rw [e]; exact HW.out
                    · exact HRJ.out t h1 (by have := HJ.out; omega))
                  by_cases hjn : j + 1 < n
                  · have hjn' : (j : Int) + 1 < n := by omega
                    have HEO := Lib.hid (edgeOut_pos (p := p) (v := v) (d := d) hjn)
                    have kj := keepc HB7.out (HC.out j hltj)
                    have kj1 := keepc HB7.out (HC.out (j + 1) hjn)
                    have v3 := HV.out.1 (j + 1) hjn
                    have v4 := HV.out.2 (j + 1) (by omega) hjn
                    rw [Nat.add_sub_cancel] at v4
                    have q0 := later_cell kj
                    have q1 := later_cell kj1
                    have e0 : IntKind.i64.wrap ((j : Int) + 1) = (j : Int) + 1 := IntWalk.i64_in _ (by omega)
                    have e1 : (0 : Int) ≤ (j : Int) + 1 := by omega
                    have e2 : ((j : Int) + 1).toNat = j + 1 := by omega
                    have e5 : IntKind.i64.wrap (v (j + 1) - v j) = v (j + 1) - v j := IntWalk.i64_in _ (by omega)
                    have e6 : IntKind.i64.wrap (v (j + 1) - v j - d) = v (j + 1) - v j - d := IntWalk.i64_in _ (by omega)
                    have HNr := Lib.hid (HN4.out.later HB7.out)
                    go_wp2_with fail
                    refine wp_region_later (by kernel_rfl) (by kernel_rfl) ?_
                    repeat (go_big_quiet_step ((go_at_call 58; exact Calls.later_of (edge_any p _ _ N a c _ HP.out (HNr.out.later (Later.below _)) (by clear e0 e2 e4 e5 e6; omega) (by clear e0 e2 e4 e5 e6; omega) (by clear e0 e2 e4 e5 e6; omega) (by clear e0 e2 e4 e5 e6; omega)))))
                    clear e0 e2 q0 q1 e5 e6 kj kj1
                    refine wpQuiet_nil ?_
                    rintro w8 ⟨x8, hx8⟩
                    have hb8 : Below w7.heap.size w7 w8 := hx8 ▸ x8.below
                    have HB8 := Lib.hid (HB7.out.trans (hb8.mono HB7.out.size))
                    clear hx8 x8 hb8
                    obtain ⟨eo, heo⟩ : ∃ eo, eo = p.smooth * (sq (v (j + 1) - v j - d) - sq (v (j + 1) - v j)) := ⟨_, rfl⟩
                    have heb := sqdiff_bd HP.out (x := v (j + 1) - v j) (y := v (j + 1) - v j - d) (by omega) (by omega) (by omega) (by omega)
                    rw [← heo] at heb HEO
                    rw [← heo]
                    clear heo
                    cases gout : inB (v (j + 1) - v j - d) (-p.slope) p.slope with
                    | false =>
                      have HNB := Lib.hid (show ¬ bad p n v i j d from fun h => by
                        have := (outOk_iff hjn).1 (HBD.out.1 h).1
                        rw [gout] at this; cases this)
                      go_wp2_with fail
                      go_roundw
                      case rel => exact ⟨k + 1, by have := HJ.out; omega, by have := HJ.out; go_num, by rw [HMM.out], HNX.out HNB.out, HNR.out, HB8.out⟩
                      case measure => simp [intOf]; omega
                    | true =>
                      have HOK := Lib.hid (show outOk p n v j d from (outOk_iff hjn).2 gout)
                      clear gout
                      by_cases hneg : mm + eo < 0
                      · have HNS := Lib.hid (not_settled hij hltj hdo (HBD.out.2 ⟨HOK.out, by rw [HEO.out]; exact hneg⟩))
                        go_wp2_with fail
                        rw [Exit.noGoto_ret]
                        go_wp2_with fail
                        go_ret2
                        exact ⟨⟨false, by simpa using HNS.out, rfl⟩, HB4.out.trans (HB8.out.mono HB4.out.size)⟩
                      · have HNB := Lib.hid (show ¬ bad p n v i j d from fun h => hneg (by have := (HBD.out.1 h).2; rw [HEO.out] at this; exact this))
                        have hneg' : 0 ≤ mm + eo := by omega
                        go_wp2_with fail
                        go_roundw
                        case rel => exact ⟨k + 1, by have := HJ.out; omega, by have := HJ.out; go_num, by rw [HMM.out], HNX.out HNB.out, HNR.out, HB8.out⟩
                        case measure => simp [intOf]; omega
                  · have hjn' : (n : Int) ≤ (j : Int) + 1 := by omega
                    have HEO := Lib.hid (edgeOut_end (p := p) (v := v) (d := d) hjn)
                    have HOK := Lib.hid (show outOk p n v j d from fun h => absurd h hjn)
                    by_cases hneg : mm < 0
                    · have HNS := Lib.hid (not_settled hij hltj hdo (HBD.out.2 ⟨HOK.out, by rw [HEO.out]; omega⟩))
                      go_wp2_with fail
                      rw [Exit.noGoto_ret]
                      go_wp2_with fail
                      go_ret2
                      exact ⟨⟨false, by simpa using HNS.out, rfl⟩, HB4.out.trans (HB7.out.mono HB4.out.size)⟩
                    · have HNB := Lib.hid (show ¬ bad p n v i j d from fun h => hneg (by have := (HBD.out.1 h).2; rw [HEO.out] at this; omega))
                      have hneg' : 0 ≤ mm := by omega
                      go_wp2_with fail
                      go_roundw
                      case rel => exact ⟨k + 1, by have := HJ.out; omega, by have := HJ.out; go_num, by rw [HMM.out], HNX.out HNB.out, HNR.out, HB7.out⟩
                      case measure => simp [intOf]; omega
              · have hlej : n ≤ j := by omega
                go_wp2_with fail
                refine ⟨⟨i + 1, by omega, by go_num, fun i' hi' j' h1 h2 => ?_, HBJ.out⟩, by simp [intOf]; omega⟩
                by_cases e : i' = i
                · rw [e] at h1 ⊢
                  exact HAJ.out j' h1 (by have := HJ.out; omega)
                · exact HAI.out i' (by omega) j' h1 h2
        · have hle : n ≤ i := by omega
          have HJ := Lib.hid (show i = n by omega)
          go_wp2_with fail
          rw [Exit.noGoto_normal]
          go_wp2_with fail
          go_roundw
          case rel =>
            refine ⟨s + 1, by omega, by go_num, fun r hr i' j h1 h2 => ?_, HBI.out⟩
            by_cases e : r = s
            · rw [e, ← HDD.out]
              exact HAI.out i' (by have := HJ.out; omega) j h1 h2
            · exact HA.out r (by omega) i' j h1 h2
          case measure => simp [intOf]; omega
    · have hle : (2 : Int) ≤ s := by omega
      go_wp2_with fail
      go_ret2
      exact ⟨⟨true, by simp; exact dd_all fun r hr => HA.out r (by omega), rfl⟩, HB4.out.trans (HB.out.mono HB4.out.size)⟩
end Go.Proofs.YtijonghofghocaaDoor
