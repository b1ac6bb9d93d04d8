/-
  The walk of pitch.Best. Condition: the slice of targets reads as its elements.
-/
import Derived.Test.YtijonghofghocaaDoorPBest
import Derived.Test.YtijonghofghocaaDoorPCost2
import Derived.Test.YtijonghofghocaaDoorSame
namespace Go.Proofs.YtijonghofghocaaDoor
open Go.RowKit

def framesN (p : Prob) : Nat := p.frames.toNat
/-- The best contour and its cost, or the error. -/
def BestE (p : Prob) (w : World) (e : Ending) (w' : World) : Prop :=
  (probB p = true → ∃ q cq, e = .returned (.tuple #[.slice q (framesN p) cq, .int .i64 (costN p (framesN p) (path p (framesN p))), .int .i64 0]) ∧ Ints w' q (framesN p) (path p (framesN p))) ∧
  (probB p = false → e = .returned (.tuple #[.slice none 0 0, .int .i64 0, .int .i64 2])) ∧ Below w.heap.size w w'

theorem Ints.congr {w : World} {q : Option Addr} {n : Nat} {f g : Nat → Int} (h : Ints w q n f) (e : ∀ i, i < n → f i = g i) : Ints w q n g := by
  rcases h with h | ⟨b, off, hp, hlt, hc⟩
  · exact .inl h
  · exact .inr ⟨b, off, hp, hlt, fun i hi => by rw [← e i hi]; exact hc i hi⟩

set_option maxRecDepth 100000 in
set_option maxHeartbeats 4000000 in
theorem Best_any (p : Prob) (a : Option Addr) (c : Nat) (w : World) (hm : p.m ≤ 9223372036854775807) (hc : Row w a p.m 3 (tgtCell p.tg)) :
    Calls Tryd.prog 32 #[.agg #[.int .i64 p.frames, .int .i64 p.low, .int .i64 p.high, .int .i64 p.slope, .int .i64 p.smooth, .slice a p.m c]] w (BestE p w) := by
  rcases Bool.eq_false_or_eq_true (probB p) with g1 | g1
  · have HP := Lib.hid (probB_iff.1 g1)
    obtain ⟨F, hF⟩ : ∃ F, F = framesN p := ⟨_, rfl⟩
    have HF := Lib.hid hF
    have HFR := Lib.hid (show (F : Int) = p.frames by rw [hF]; unfold framesN; have := HP.out.f1; omega)
    have HG := Lib.hid g1
    clear hF
    go_enter Tryd.func32, Tryd.ntmps32
    go_wp2_with fail
    have h0 : ProbBlk (w.alloc (.cells #[.int .i64 p.frames, .int .i64 p.low, .int .i64 p.high, .int .i64 p.slope, .int .i64 p.smooth, .slice a p.m c] 43)) w.heap.size p a c := heap_alloc_new _ _
    refine (problem_any p a c _ hm (hc.mono (newb _ _))).mono ?_
    rintro e w1 ⟨rfl, hb1⟩
    have HN1 := Lib.hid (h0.later hb1)
    have HB1 := Lib.hid ((newb w _).trans (hb1.mono (by simp)))
    obtain ⟨a0, a1, a2, a3, a4, a5⟩ := HN1.out.cells
    clear h0 hb1
    rw [g1]
    clear g1
    go_wp2_with fail
    refine (best_any p F a c _ HP.out HFR.out (hc.mono HB1.out)).mono ?_
    rintro e w2 ⟨q, cq, rfl, hI, hb2⟩
    rw [pathL_length] at hI ⊢
    have HI := Lib.hid (hI.congr (g := path p F) fun i hi => pathL_get hi)
    have HN2 := Lib.hid (HN1.out.later hb2)
    have HB2 := Lib.hid (HB1.out.trans (hb2.mono HB1.out.size))
    clear a0 a1 a2 a3 a4 a5 hb2 hI
    obtain ⟨a0, a1, a2, a3, a4, a5⟩ := HN2.out.cells
    go_wp2_with fail
    refine (cost_any p F (path p F) a q c cq _ HP.out HFR.out (path_ok p F HP.out.lh HP.out.s1) (hc.mono HB2.out) HI.out).mono ?_
    rintro e w3 ⟨rfl, hb3⟩
    have HB3 := Lib.hid (HB2.out.trans (hb3.mono HB2.out.size))
    have HI3 := Lib.hid (HI.out.mono hb3)
    clear a0 a1 a2 a3 a4 a5 hb3
    go_wp2_with fail
    refine bodyPost_ret (v := .tuple #[.slice q F cq, .int .i64 (costN p F (path p F)), .int .i64 0]) (by simp [results, Tryd.results32, go_sem]) rfl ⟨fun _ => ⟨q, cq, ?_, ?_⟩, fun h => ?_, HB3.out⟩
    · rw [← HF.out]
    · rw [← HF.out]; exact HI3.out
    · rw [HG.out] at h; cases h
  · have HG := Lib.hid g1
    go_enter Tryd.func32, Tryd.ntmps32
    go_wp2_with fail
    refine (problem_any p a c _ hm (hc.mono (newb _ _))).mono ?_
    rintro e w1 ⟨rfl, hb1⟩
    have HB1 := Lib.hid ((newb w _).trans (hb1.mono (by simp)))
    clear hb1
    rw [g1]
    clear g1
    go_wp2_with fail
    refine bodyPost_ret (v := .tuple #[.slice none 0 0, .int .i64 0, .int .i64 2]) (by simp [results, Tryd.results32, go_sem]) rfl ⟨fun h => ?_, fun _ => rfl, HB1.out⟩
    rw [HG.out] at h; cases h
end Go.Proofs.YtijonghofghocaaDoor
