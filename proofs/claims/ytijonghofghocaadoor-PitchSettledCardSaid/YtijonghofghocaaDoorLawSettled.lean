/-
  The walk of PitchSettled: it answers true. Conditions: the table of semitones lies as the program's text lays it; the slices read as their elements.
-/
import Derived.Test.YtijonghofghocaaDoorKnown
import Derived.Test.YtijonghofghocaaDoorPSettled
namespace Go.Proofs.YtijonghofghocaaDoor
open Go.RowKit

theorem bef_same {f g : Nat → Int} {k r : Nat} (h : f k = g k) : bef f g k (r + 1) = bef f g (k + 1) r := by simp only [bef]; rw [if_pos h]
theorem bef_other {f g : Nat → Int} {k r : Nat} (h : f k ≠ g k) : bef f g k (r + 1) = decide (f k < g k) := by simp only [bef]; rw [if_neg h]

set_option maxRecDepth 100000 in
set_option maxHeartbeats 2000000 in
theorem before_any (n : Nat) (f g : Nat → Int) (p q : Option Addr) (cp cq : Nat) (w : World) (hp : Ints w p n f) (hq : Ints w q n g) (hn : n ≤ 9223372036854775807) :
    Calls Tryd.prog 33 #[.slice p n cp, .slice q n cq] w fun e w' => e = .returned (.bool (bef f g 0 n)) ∧ Below w.heap.size w w' := by
  have hn' : (n : Int) ≤ 9223372036854775807 := by omega
  go_enter Tryd.func33, Tryd.ntmps33
  go_wp2_with fail
  go_loopw [5] (fun i wr => ∃ k : Nat, k ≤ n ∧ i = .int .i64 k ∧ bef f g 0 n = bef f g k (n - k) ∧ Below w.heap.size w wr) (fun i _ => n - (intOf i).toNat)
  case atStart => exact ⟨0, Nat.zero_le _, rfl, rfl, Below.refl _ _⟩
  case round =>
    obtain ⟨k, hk, rfl, he, hb⟩ := hrel
    have HE := Lib.hid he
    have HB := Lib.hid hb
    clear he hb
    by_cases hlt : k < n
    · obtain ⟨b, off, rfl, hbs, hcell⟩ := hp.at (by omega)
      obtain ⟨b2, off2, rfl, hbs2, hcell2⟩ := hq.at (by omega)
      have k0 : wr.cell? ⟨b, off + k, none⟩ = some (.int .i64 (f k)) := by rw [HB.out.cell hbs]; exact hcell k hlt
      have k1 : wr.cell? ⟨b2, off2 + k, none⟩ = some (.int .i64 (g k)) := by rw [HB.out.cell hbs2]; exact hcell2 k hlt
      clear hcell hcell2
      by_cases e : f k = g k
      · have HN := Lib.hid (show bef f g 0 n = bef f g (k + 1) (n - (k + 1)) by
          rw [HE.out, show n - k = (n - (k + 1)) + 1 by omega, bef_same e])
        rw [← e] at k1
        clear e
        go_wp2_with fail
        go_quiet (fail)
        go_wp2_with fail
        go_roundw
        case rel => exact ⟨k + 1, by omega, by go_num, HN.out, by repeat first | exact HB.out | refine below_drewN ?_ _⟩
        case measure => simp [intOf]; omega
      · have HN := Lib.hid (show bef f g 0 n = decide (f k < g k) by
          rw [HE.out, show n - k = (n - (k + 1)) + 1 by omega, bef_other e])
        have e' : (f k == g k) = false := by simpa using e
        clear e
        go_wp2_with fail
        go_quiet (fail)
        go_wp2_with fail
        go_quiet (fail)
        go_wp2_with fail
        go_ret
        exact ⟨ret_bool HN.out.symm, by repeat first | exact HB.out | refine below_drewN ?_ _⟩
    · have HN := Lib.hid (show bef f g 0 n = false by rw [HE.out, show n - k = 0 by omega]; rfl)
      have hle : n ≤ k := by omega
      go_wp2_with fail
      go_ret
      exact ⟨ret_bool HN.out.symm, HB.out⟩

set_option maxRecDepth 100000 in
set_option maxHeartbeats 8000000 in
theorem settled_main (p : Prob) (n : Nat) (v : Nat → Int) (a q : Option Addr) (c cq : Nat) (w : World) (hm : p.m ≤ 20) (hf : p.frames ≤ 40) (hp : PB p) (hn : (n : Int) = p.frames) (hv : okN p n v) (hc : Row w a p.m 3 (tgtCell p.tg)) (hq : Ints w q n v) (ht : Table w) :
    Calls Tryd.prog 7 #[.agg #[.int .i64 p.frames, .int .i64 p.low, .int .i64 p.high, .int .i64 p.slope, .int .i64 p.smooth, .slice a p.m c], .slice q n cq] w fun e w' => e = .returned (.bool true) ∧ Below w.heap.size w w' := by
  have hn' : (n : Int) ≤ 40 := by omega
  have hm' : (p.m : Int) ≤ 20 := by omega
  have hm2 : p.m ≤ 9223372036854775807 := by omega
  have h1n : 0 < n := by have := hp.f1; omega
  have HG1 := Lib.hid (probB_iff.2 hp)
  have HG2 := Lib.hid (contB_iff.2 ⟨hn, hv⟩)
  have HFN := Lib.hid (show framesN p = n by unfold framesN; omega)
  have HPO := Lib.hid (path_ok p n hp.lh hp.s1)
  have HG3 := Lib.hid (contB_iff.2 ⟨hn, HPO.out⟩)
  have HPS := Lib.hid (path_settled hp h1n)
  have HSC := Lib.hid (settled_cost hp h1n hv)
  have HBF := Lib.hid (best_first p n h1n v hv)
  have hle := best_least p n h1n v hv
  obtain ⟨C1, hC1⟩ : ∃ C1, C1 = costN p n v := ⟨_, rfl⟩
  obtain ⟨C0, hC0⟩ : ∃ C0, C0 = costN p n (path p n) := ⟨_, rfl⟩
  rw [← hC0, ← hC1] at hle
  have HC1 := Lib.hid hC1
  have HC0 := Lib.hid hC0
  have HP := Lib.hid hp
  have HV := Lib.hid hv
  have HF := Lib.hid hn
  have HQ := Lib.hid hq
  have HT := Lib.hid ht
  clear hp hv hq ht hC0 hC1
  rw [← hn]
  clear hn
  go_enter Tryd.func7, Tryd.ntmps7
  go_wp2_with fail
  rw [HF.out]
  have h0 : ProbBlk (w.alloc (.cells #[.int .i64 p.frames, .int .i64 p.low, .int .i64 p.high, .int .i64 p.slope, .int .i64 p.smooth, .slice a p.m c] 43)) w.heap.size p a c := heap_alloc_new _ _
  refine (refproblem_any p a c _ hm2 (hc.mono (newb _ _))).mono ?_
  rintro e w1 ⟨rfl, hb1⟩
  have HN1 := Lib.hid (h0.later hb1)
  have HB1 := Lib.hid ((newb w _).trans (hb1.mono (by simp)))
  obtain ⟨a0, a1, a2, a3, a4, a5⟩ := HN1.out.cells
  clear h0 hb1
  rw [HG1.out]
  go_wp2_with fail
  refine (refcontour_any p n v a q c cq _ HP.out (HQ.out.mono HB1.out) (by omega)).mono ?_
  rintro e w2 ⟨rfl, hb2⟩
  have HN2 := Lib.hid (HN1.out.later hb2)
  have HB2 := Lib.hid (HB1.out.trans (hb2.mono HB1.out.size))
  clear a0 a1 a2 a3 a4 a5 hb2
  obtain ⟨a0, a1, a2, a3, a4, a5⟩ := HN2.out.cells
  rw [HG2.out]
  go_wp2_with fail
  refine (Best_any p a c _ hm2 (hc.mono HB2.out)).mono ?_
  rintro e w3 ⟨hbest, _, hb3⟩
  obtain ⟨qb, cb, rfl, hi3⟩ := hbest HG1.out
  rw [HFN.out] at hi3 ⊢
  rw [← HC0.out]
  have HI3 := Lib.hid hi3
  have HN3 := Lib.hid (HN2.out.later hb3)
  have HB3 := Lib.hid (HB2.out.trans (hb3.mono HB2.out.size))
  clear a0 a1 a2 a3 a4 a5 hb3 hi3
  obtain ⟨a0, a1, a2, a3, a4, a5⟩ := HN3.out.cells
  go_wp2_with fail
  refine (Cost_any p n v a q c cq _ hm2 (by omega) (hc.mono HB3.out) (HQ.out.mono HB3.out)).mono ?_
  rintro e w4 ⟨rfl, hb4⟩
  rw [show CostE p n v = two C1 0 by rw [HC1.out]; simp [CostE, HG1.out, HG2.out]]
  unfold two
  have HI4 := Lib.hid (HI3.out.mono hb4)
  have HN4 := Lib.hid (HN3.out.later hb4)
  have HB4 := Lib.hid (HB3.out.trans (hb4.mono HB3.out.size))
  clear a0 a1 a2 a3 a4 a5 hb4 HI3
  obtain ⟨a0, a1, a2, a3, a4, a5⟩ := HN4.out.cells
  go_wp2_with fail
  refine (settled_ok p n v a q c cq _ hm2 HP.out HF.out HV.out (hc.mono HB4.out) (HQ.out.mono HB4.out)).mono ?_
  rintro e w5 ⟨⟨b1, hb1, rfl⟩, hb5⟩
  have HS1 := Lib.hid hb1
  have HI5 := Lib.hid (HI4.out.mono hb5)
  have HN5 := Lib.hid (HN4.out.later hb5)
  have HB5 := Lib.hid (HB4.out.trans (hb5.mono HB4.out.size))
  clear a0 a1 a2 a3 a4 a5 hb5 hb1 HI4
  obtain ⟨a0, a1, a2, a3, a4, a5⟩ := HN5.out.cells
  go_wp2_with fail
  refine (refcontour_any p n (path p n) a qb c cb _ HP.out HI5.out (by omega)).mono ?_
  rintro e w6 ⟨rfl, hb6⟩
  rw [HG3.out]
  have HI6 := Lib.hid (HI5.out.mono hb6)
  have HN6 := Lib.hid (HN5.out.later hb6)
  have HB6 := Lib.hid (HB5.out.trans (hb6.mono HB5.out.size))
  clear a0 a1 a2 a3 a4 a5 hb6 HI5
  obtain ⟨a0, a1, a2, a3, a4, a5⟩ := HN6.out.cells
  go_wp2_with fail
  refine (settled_ok p n (path p n) a qb c cb _ hm2 HP.out HF.out HPO.out (hc.mono HB6.out) HI6.out).mono ?_
  rintro e w7 ⟨⟨b2, hb2, rfl⟩, hb7⟩
  obtain rfl : b2 = true := hb2.2 HPS.out
  have HI7 := Lib.hid (HI6.out.mono hb7)
  have HN7 := Lib.hid (HN6.out.later hb7)
  have HB7 := Lib.hid (HB6.out.trans (hb7.mono HB6.out.size))
  clear a0 a1 a2 a3 a4 a5 hb7 hb2 HI6
  obtain ⟨a0, a1, a2, a3, a4, a5⟩ := HN7.out.cells
  go_wp2_with fail
  refine (refcost_any p n (path p n) a qb c cb _ HP.out HF.out HPO.out (hc.mono HB7.out) HI7.out).mono ?_
  rintro e w8 ⟨rfl, hb8⟩
  rw [← HC0.out]
  have HI8 := Lib.hid (HI7.out.mono hb8)
  have HB8 := Lib.hid (HB7.out.trans (hb8.mono HB7.out.size))
  clear a0 a1 a2 a3 a4 a5 hb8 HI7
  by_cases heq : C1 = C0
  · obtain rfl : b1 = true := HS1.out.2 (HSC.out.2 (by rw [← HC1.out, ← HC0.out]; exact heq))
    have HBE := Lib.hid (HBF.out (by rw [← HC1.out, ← HC0.out, heq]; exact Int.le_refl _))
    obtain rfl : C1 = C0 := heq
    go_wp2_with fail
    refine (before_any n v (path p n) q qb cq cb _ (HQ.out.mono HB8.out) HI8.out (by omega)).mono ?_
    rintro e w9 ⟨rfl, hb9⟩
    rw [HBE.out]
    have HB9 := Lib.hid (HB8.out.trans (hb9.mono HB8.out.size))
    clear hb9
    go_wp2_with fail
    refine (known_any _ (HT.out.later HB9.out)).mono ?_
    rintro e wk ⟨rfl, hbk⟩
    have HBK := Lib.hid (HB9.out.trans (hbk.mono HB9.out.size))
    clear hbk
    go_wp2_with fail
    go_ret
    exact ⟨rfl, HBK.out⟩
  · have hb : b1 = false := by
      cases b1 with
      | false => rfl
      | true =>
        have := HSC.out.1 (HS1.out.1 rfl)
        rw [← HC1.out, ← HC0.out] at this
        exact absurd this heq
    subst hb
    have heq' : (C1 == C0) = false := by simpa using heq
    have hgt : C0 < C1 := by omega
    clear heq
    go_wp2_with fail
    refine (known_any _ (HT.out.later HB8.out)).mono ?_
    rintro e wk ⟨rfl, hbk⟩
    have HBK := Lib.hid (HB8.out.trans (hbk.mono HB8.out.size))
    clear hbk
    go_wp2_with fail
    go_ret
    exact ⟨rfl, HBK.out⟩

set_option maxRecDepth 100000 in
set_option maxHeartbeats 4000000 in
theorem settled_law (p : Prob) (n : Nat) (v : Nat → Int) (a q : Option Addr) (c cq : Nat) (w : World) (hm : p.m ≤ 9223372036854775807) (hn : n ≤ 9223372036854775807) (hc : Row w a p.m 3 (tgtCell p.tg)) (hq : Ints w q n v) (ht : Table w) :
    Calls Tryd.prog 7 #[.agg #[.int .i64 p.frames, .int .i64 p.low, .int .i64 p.high, .int .i64 p.slope, .int .i64 p.smooth, .slice a p.m c], .slice q n cq] w fun e w' => e = .returned (.bool true) ∧ Below w.heap.size w w' := by
  have hn' : (n : Int) ≤ 9223372036854775807 := by omega
  have hm' : (p.m : Int) ≤ 9223372036854775807 := by omega
  by_cases hf : p.frames ≤ 40
  · by_cases hm20 : p.m ≤ 20
    · have hm20' : (p.m : Int) ≤ 20 := by omega
      rcases Bool.eq_false_or_eq_true (probB p) with g1 | g1
      · rcases Bool.eq_false_or_eq_true (contB p n v) with g2 | g2
        · exact settled_main p n v a q c cq w hm20 hf (probB_iff.1 g1) (contB_iff.1 g2).1 (contB_iff.1 g2).2 hc hq ht
        · have HT := Lib.hid ht
          have HQ := Lib.hid hq
          have HG2 := Lib.hid g2
          have HP := Lib.hid (probB_iff.1 g1)
          clear ht hq g2
          go_enter Tryd.func7, Tryd.ntmps7
          go_wp2_with fail
          have h0 : ProbBlk (w.alloc (.cells #[.int .i64 p.frames, .int .i64 p.low, .int .i64 p.high, .int .i64 p.slope, .int .i64 p.smooth, .slice a p.m c] 43)) w.heap.size p a c := heap_alloc_new _ _
          refine (refproblem_any p a c _ hm (hc.mono (newb _ _))).mono ?_
          rintro e w1 ⟨rfl, hb1⟩
          have HN1 := Lib.hid (h0.later hb1)
          have HB1 := Lib.hid ((newb w _).trans (hb1.mono (by simp)))
          obtain ⟨a0, a1, a2, a3, a4, a5⟩ := HN1.out.cells
          clear h0 hb1
          rw [g1]
          go_wp2_with fail
          refine (refcontour_any p n v a q c cq _ HP.out (HQ.out.mono HB1.out) (by omega)).mono ?_
          rintro e w2 ⟨rfl, hb2⟩
          have HB2 := Lib.hid (HB1.out.trans (hb2.mono HB1.out.size))
          clear a0 a1 a2 a3 a4 a5 hb2
          rw [HG2.out]
          go_wp2_with fail
          refine (known_any _ (HT.out.later HB2.out)).mono ?_
          rintro e wk ⟨rfl, hbk⟩
          have HBK := Lib.hid (HB2.out.trans (hbk.mono HB2.out.size))
          clear hbk
          go_wp2_with fail
          go_ret
          exact ⟨rfl, HBK.out⟩
      · have HT := Lib.hid ht
        have HG1 := Lib.hid g1
        clear ht g1
        go_enter Tryd.func7, Tryd.ntmps7
        go_wp2_with fail
        refine (refproblem_any p a c _ hm (hc.mono (newb _ _))).mono ?_
        rintro e w1 ⟨rfl, hb1⟩
        have HB1 := Lib.hid ((newb w _).trans (hb1.mono (by simp)))
        clear hb1
        rw [HG1.out]
        go_wp2_with fail
        refine (known_any _ (HT.out.later HB1.out)).mono ?_
        rintro e wk ⟨rfl, hbk⟩
        have HBK := Lib.hid (HB1.out.trans (hbk.mono HB1.out.size))
        clear hbk
        go_wp2_with fail
        go_ret
        exact ⟨rfl, HBK.out⟩
    · have HT := Lib.hid ht
      have hm20' : (20 : Int) < p.m := by omega
      clear ht
      go_enter Tryd.func7, Tryd.ntmps7
      go_wp2_with fail
      refine (known_any _ (HT.out.later (newb _ _))).mono ?_
      rintro e wk ⟨rfl, hbk⟩
      have HBK := Lib.hid ((newb w _).trans (hbk.mono (by simp)))
      clear hbk
      go_wp2_with fail
      go_ret
      exact ⟨rfl, HBK.out⟩
  · have HT := Lib.hid ht
    have hf' : 40 < p.frames := by omega
    clear ht
    go_enter Tryd.func7, Tryd.ntmps7
    go_wp2_with fail
    refine (known_any _ (HT.out.later (newb _ _))).mono ?_
    rintro e wk ⟨rfl, hbk⟩
    have HBK := Lib.hid ((newb w _).trans (hbk.mono (by simp)))
    clear hbk
    go_wp2_with fail
    go_ret
    exact ⟨rfl, HBK.out⟩
end Go.Proofs.YtijonghofghocaaDoor
