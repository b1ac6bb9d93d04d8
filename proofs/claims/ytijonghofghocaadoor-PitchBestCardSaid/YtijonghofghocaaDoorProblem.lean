/-
  The walks of declaimref05.Problem and of pitch.problem. Condition: the targets read as their elements.
-/
import Derived.Test.YtijonghofghocaaDoorContour
namespace Go.Proofs.YtijonghofghocaaDoor
open Go.RowKit

theorem probB_false {p : Prob} (h : PB p → False) : probB p = false := by
  cases e : probB p with
  | false => rfl
  | true => exact (h (probB_iff.1 e)).elim
theorem prob_cases (p : Prob) : (inB p.frames 1 200 = true ∧ inB p.low (-100000) 100000 = true ∧ inB p.high (-100000) 100000 = true ∧ p.low ≤ p.high ∧ p.high ≤ p.low + 400 ∧ inB p.slope 0 400 = true ∧ inB p.smooth 0 1000 = true ∧ p.m ≤ 200) ∨
    (probB p = false ∧ (inB p.frames 1 200 = false ∨ (inB p.frames 1 200 = true ∧ inB p.low (-100000) 100000 = false) ∨ (inB p.frames 1 200 = true ∧ inB p.low (-100000) 100000 = true ∧ inB p.high (-100000) 100000 = false) ∨
      (inB p.frames 1 200 = true ∧ inB p.low (-100000) 100000 = true ∧ inB p.high (-100000) 100000 = true ∧ p.high < p.low) ∨
      (inB p.frames 1 200 = true ∧ inB p.low (-100000) 100000 = true ∧ inB p.high (-100000) 100000 = true ∧ p.low ≤ p.high ∧ p.low + 400 < p.high) ∨
      (inB p.frames 1 200 = true ∧ inB p.low (-100000) 100000 = true ∧ inB p.high (-100000) 100000 = true ∧ p.low ≤ p.high ∧ p.high ≤ p.low + 400 ∧ inB p.slope 0 400 = false) ∨
      (inB p.frames 1 200 = true ∧ inB p.low (-100000) 100000 = true ∧ inB p.high (-100000) 100000 = true ∧ p.low ≤ p.high ∧ p.high ≤ p.low + 400 ∧ inB p.slope 0 400 = true ∧ inB p.smooth 0 1000 = false) ∨
      (inB p.frames 1 200 = true ∧ inB p.low (-100000) 100000 = true ∧ inB p.high (-100000) 100000 = true ∧ p.low ≤ p.high ∧ p.high ≤ p.low + 400 ∧ inB p.slope 0 400 = true ∧ inB p.smooth 0 1000 = true ∧ 200 < p.m))) := by
  have hf : ∀ {b : Bool}, probB p = true → b = false → (PB p → b = true) → False := fun h1 h2 h3 => by rw [h3 (probB_iff.1 h1)] at h2; cases h2
  have hn : (PB p → False) → probB p = false := probB_false
  rcases Bool.eq_false_or_eq_true (inB p.frames 1 200) with g1 | g1
  rcases Bool.eq_false_or_eq_true (inB p.low (-100000) 100000) with g2 | g2
  rcases Bool.eq_false_or_eq_true (inB p.high (-100000) 100000) with g3 | g3
  by_cases g4 : p.low ≤ p.high
  by_cases g5 : p.high ≤ p.low + 400
  rcases Bool.eq_false_or_eq_true (inB p.slope 0 400) with g6 | g6
  rcases Bool.eq_false_or_eq_true (inB p.smooth 0 1000) with g7 | g7
  by_cases g8 : p.m ≤ 200
  · exact .inl ⟨g1, g2, g3, g4, g5, g6, g7, g8⟩
  all_goals refine .inr ⟨hn fun h => ?_, ?_⟩
  all_goals first
    | (have q1 := h.f1; have q2 := h.f2; have q3 := h.l1; have q4 := h.h1; have q5 := h.lh; have q6 := h.rg; have q7 := h.s1; have q8 := h.s2; have q9 := h.k1; have q10 := h.k2; have q11 := h.m1
       first | omega | (rw [inB_false] at g1; omega) | (rw [inB_false] at g2; omega) | (rw [inB_false] at g3; omega) | (rw [inB_false] at g6; omega) | (rw [inB_false] at g7; omega))
    | exact .inl g1
    | exact .inr (.inl ⟨g1, g2⟩)
    | exact .inr (.inr (.inl ⟨g1, g2, g3⟩))
    | exact .inr (.inr (.inr (.inl ⟨g1, g2, g3, by omega⟩)))
    | exact .inr (.inr (.inr (.inr (.inl ⟨g1, g2, g3, g4, by omega⟩))))
    | exact .inr (.inr (.inr (.inr (.inr (.inl ⟨g1, g2, g3, g4, g5, g6⟩)))))
    | exact .inr (.inr (.inr (.inr (.inr (.inr (.inl ⟨g1, g2, g3, g4, g5, g6, g7⟩))))))
    | exact .inr (.inr (.inr (.inr (.inr (.inr (.inr ⟨g1, g2, g3, g4, g5, g6, g7, by omega⟩))))))
theorem prob_eq {p : Prob} (g1 : inB p.frames 1 200 = true) (g2 : inB p.low (-100000) 100000 = true) (g3 : inB p.high (-100000) 100000 = true) (g4 : p.low ≤ p.high) (g5 : p.high ≤ p.low + 400) (g6 : inB p.slope 0 400 = true) (g7 : inB p.smooth 0 1000 = true) (g8 : p.m ≤ 200) :
    probB p = allTo (fun i => tgtOk p.frames (p.tg i)) p.m := by
  simp only [probB, g1, g2, g3, g6, g7, Bool.true_and]
  rw [decide_eq_false (show ¬ p.high < p.low by omega), decide_eq_false (show ¬ p.low + 400 < p.high by omega), decide_eq_true g8]
  simp

set_option maxRecDepth 100000 in
set_option maxHeartbeats 4000000 in
theorem refproblem_any (p : Prob) (a : Option Addr) (c : Nat) (w : World) (hm : p.m ≤ 9223372036854775807) (hc : Row w a p.m 3 (tgtCell p.tg)) :
    Calls Tryd.prog 28 #[.agg #[.int .i64 p.frames, .int .i64 p.low, .int .i64 p.high, .int .i64 p.slope, .int .i64 p.smooth, .slice a p.m c]] w fun e w' => e = .returned (.bool (probB p)) ∧ Below w.heap.size w w' := by
  have hm' : (p.m : Int) ≤ 9223372036854775807 := by omega
  rcases prob_cases p with ⟨g1, g2, g3, g4, g5, g6, g7, g8⟩ | ⟨hno, h1 | ⟨g1, g2⟩ | ⟨g1, g2, g3⟩ | ⟨g1, g2, g3, g4⟩ | ⟨g1, g2, g3, g4, g5⟩ | ⟨g1, g2, g3, g4, g5, g6⟩ | ⟨g1, g2, g3, g4, g5, g6, g7⟩ | ⟨g1, g2, g3, g4, g5, g6, g7, g8⟩⟩
  · have g8' : (p.m : Int) ≤ 200 := by omega
    have f := inB_iff.1 g1
    have f2 := inB_iff.1 g2
    have HE := Lib.hid (prob_eq g1 g2 g3 g4 g5 g6 g7 g8)
    go_enter Tryd.func28, Tryd.ntmps28
    go_wp2_with (go_at_call 50; refine (in_any _ _ _ _).mono ?_; rintro e w' ⟨rfl, rfl⟩)
    refine wp_gen (fun w2 => ProbBlk w2 w.heap.size p a c ∧ Below w.heap.size w w2) ⟨heap_alloc_new _ _, newb _ _⟩ ?_
    obtain ⟨N, hN⟩ : ∃ N, N = w.heap.size := ⟨_, rfl⟩
    rw [← hN]
    rintro w2 ⟨hN2, hb2⟩
    have HN2 := Lib.hid hN2
    have HB2 := Lib.hid (show Below w.heap.size w w2 by rw [← hN]; exact hb2)
    clear hN2 hb2 hN
    go_loopw [3] (fun i wr => ∃ k : Nat, k ≤ p.m ∧ i = .int .i64 k ∧ allTo (fun i => tgtOk p.frames (p.tg i)) k = true ∧ ProbBlk wr N p a c ∧ Below w.heap.size w wr) (fun i _ => p.m - (intOf i).toNat)
    case atStart => exact ⟨0, Nat.zero_le _, rfl, rfl, HN2.out, HB2.out⟩
    case round =>
      obtain ⟨k, hk, rfl, hall, hn, hb⟩ := hrel
      have HA := Lib.hid hall
      have HB := Lib.hid hb
      have HN := Lib.hid hn
      obtain ⟨a0, a1, a2, a3, a4, a5⟩ := hn.cells
      have hNr := HN.out.lt
      clear hb hn hall a1 a2 a3 a4
      by_cases hlt : k < p.m
      · obtain ⟨b, off, rfl, hbs, hcell⟩ := hc.at (by omega)
        obtain ⟨k0, k1, k2⟩ := tgt_at HB.out hbs hcell hlt
        have hbr : b < wr.heap.size := Nat.lt_of_lt_of_le hbs HB.out.size
        clear hcell
        rcases Bool.eq_false_or_eq_true (inB (p.tg k).time 0 (p.frames - 1)) with q1 | q1
        rcases Bool.eq_false_or_eq_true (inB (p.tg k).value (-200000) 200000) with q2 | q2
        rcases Bool.eq_false_or_eq_true (inB (p.tg k).weight 0 1000) with q3 | q3
        · have HT := Lib.hid (show (fun i => tgtOk p.frames (p.tg i)) k = true by simp [tgtOk, q1, q2, q3])
          go_wp2_with (go_at_call 50; refine (in_any _ _ _ _).mono ?_; rintro e w' ⟨rfl, rfl⟩)
          go_roundw
          case rel => exact ⟨k + 1, by omega, by go_num, allTo_succ HA.out HT.out, HN.out.later (newb _ _), HB.out.trans ((newb _ _).mono HB.out.size)⟩
          case measure => simp [intOf]; omega
        all_goals
          have HT := Lib.hid (show (fun i => tgtOk p.frames (p.tg i)) k = false by first | (simp [tgtOk, q1]; done) | (simp [tgtOk, q2]; done) | (simp [tgtOk, q3]; done))
          go_wp2_with (go_at_call 50; refine (in_any _ _ _ _).mono ?_; rintro e w' ⟨rfl, rfl⟩)
          go_ret
          exact ⟨ret_bool (by rw [HE.out, allTo_false hlt HT.out]), HB.out.trans ((newb _ _).mono HB.out.size)⟩
      · have hle : p.m ≤ k := by omega
        have HJ := Lib.hid (show k = p.m by omega)
        go_wp2_with fail
        go_ret
        exact ⟨ret_bool (by rw [HE.out, ← HJ.out, HA.out]), HB.out⟩
  all_goals
    have HE := Lib.hid hno
    clear hno
    try have g8' : (200 : Int) < p.m := by omega
    try have f2 := inB_iff.1 g2
    go_enter Tryd.func28, Tryd.ntmps28
    go_wp2_with (go_at_call 50; refine (in_any _ _ _ _).mono ?_; rintro e w' ⟨rfl, rfl⟩)
    go_ret
    exact ⟨ret_bool HE.out.symm, newb _ _⟩

set_option maxRecDepth 100000 in
set_option maxHeartbeats 4000000 in
theorem problem_any (p : Prob) (a : Option Addr) (c : Nat) (w : World) (hm : p.m ≤ 9223372036854775807) (hc : Row w a p.m 3 (tgtCell p.tg)) :
    Calls Tryd.prog 54 #[.agg #[.int .i64 p.frames, .int .i64 p.low, .int .i64 p.high, .int .i64 p.slope, .int .i64 p.smooth, .slice a p.m c]] w fun e w' => e = .returned (.bool (probB p)) ∧ Below w.heap.size w w' := by
  have hm' : (p.m : Int) ≤ 9223372036854775807 := by omega
  rcases prob_cases p with ⟨g1, g2, g3, g4, g5, g6, g7, g8⟩ | ⟨hno, h1 | ⟨g1, g2⟩ | ⟨g1, g2, g3⟩ | ⟨g1, g2, g3, g4⟩ | ⟨g1, g2, g3, g4, g5⟩ | ⟨g1, g2, g3, g4, g5, g6⟩ | ⟨g1, g2, g3, g4, g5, g6, g7⟩ | ⟨g1, g2, g3, g4, g5, g6, g7, g8⟩⟩
  · have g8' : (p.m : Int) ≤ 200 := by omega
    have f := inB_iff.1 g1
    have f2 := inB_iff.1 g2
    have f3 := inB_iff.1 g3
    have hin1 : inB p.high p.low 100000 = true := inB_iff.2 ⟨g4, f3.2⟩
    have hin2 : inB p.high p.low (p.low + 400) = true := inB_iff.2 ⟨g4, g5⟩
    have HE := Lib.hid (prob_eq g1 g2 g3 g4 g5 g6 g7 g8)
    by_cases h400 : p.low + 400 < 100000
    all_goals
      go_enter Tryd.func54, Tryd.ntmps54
      go_wp2_with (go_at_call 48; refine (within_any _ _ _ _).mono ?_; rintro e w' ⟨rfl, rfl⟩)
      refine (contains_tgt p.tg p.frames w.heap.size a p.m c _ hm f.1 f.2 (ProbBlk.cells (p := p) (a := a) (c := c) (heap_alloc_new w _)).1 (hc.mono (newb _ _))).mono ?_
      rintro e w1 ⟨rfl, hb1⟩
      go_wp2_with fail
      go_ret
      exact ⟨ret_bool (by rw [HE.out]), (newb _ _).trans (hb1.mono (by simp))⟩
  all_goals
    have HE := Lib.hid hno
    clear hno
  · go_enter Tryd.func54, Tryd.ntmps54
    go_wp2_with (go_at_call 48; refine (within_any _ _ _ _).mono ?_; rintro e w' ⟨rfl, rfl⟩)
    go_ret
    exact ⟨ret_bool HE.out.symm, newb _ _⟩
  · go_enter Tryd.func54, Tryd.ntmps54
    go_wp2_with (go_at_call 48; refine (within_any _ _ _ _).mono ?_; rintro e w' ⟨rfl, rfl⟩)
    go_ret
    exact ⟨ret_bool HE.out.symm, newb _ _⟩
  · have f2 := inB_iff.1 g2
    have f3 := inB_false.1 g3
    by_cases h400 : p.low + 400 < 100000
    · have hin : inB p.high p.low (p.low + 400) = false := inB_false.2 (by omega)
      go_enter Tryd.func54, Tryd.ntmps54
      go_wp2_with (go_at_call 48; refine (within_any _ _ _ _).mono ?_; rintro e w' ⟨rfl, rfl⟩)
      go_ret
      exact ⟨ret_bool HE.out.symm, newb _ _⟩
    · have hin : inB p.high p.low 100000 = false := inB_false.2 (by omega)
      go_enter Tryd.func54, Tryd.ntmps54
      go_wp2_with (go_at_call 48; refine (within_any _ _ _ _).mono ?_; rintro e w' ⟨rfl, rfl⟩)
      go_ret
      exact ⟨ret_bool HE.out.symm, newb _ _⟩
  · have f2 := inB_iff.1 g2
    by_cases h400 : p.low + 400 < 100000
    · have hin : inB p.high p.low (p.low + 400) = false := inB_false.2 (by omega)
      go_enter Tryd.func54, Tryd.ntmps54
      go_wp2_with (go_at_call 48; refine (within_any _ _ _ _).mono ?_; rintro e w' ⟨rfl, rfl⟩)
      go_ret
      exact ⟨ret_bool HE.out.symm, newb _ _⟩
    · have hin : inB p.high p.low 100000 = false := inB_false.2 (by omega)
      go_enter Tryd.func54, Tryd.ntmps54
      go_wp2_with (go_at_call 48; refine (within_any _ _ _ _).mono ?_; rintro e w' ⟨rfl, rfl⟩)
      go_ret
      exact ⟨ret_bool HE.out.symm, newb _ _⟩
  · have f2 := inB_iff.1 g2
    have f3 := inB_iff.1 g3
    by_cases h400 : p.low + 400 < 100000
    · have hin : inB p.high p.low (p.low + 400) = false := inB_false.2 (by omega)
      go_enter Tryd.func54, Tryd.ntmps54
      go_wp2_with (go_at_call 48; refine (within_any _ _ _ _).mono ?_; rintro e w' ⟨rfl, rfl⟩)
      go_ret
      exact ⟨ret_bool HE.out.symm, newb _ _⟩
    · omega
  all_goals
    have f2 := inB_iff.1 g2
    have f3 := inB_iff.1 g3
    have hin1 : inB p.high p.low 100000 = true := inB_iff.2 ⟨g4, f3.2⟩
    have hin2 : inB p.high p.low (p.low + 400) = true := inB_iff.2 ⟨g4, g5⟩
    try have g8' : (200 : Int) < p.m := by omega
    by_cases h400 : p.low + 400 < 100000
    all_goals
      go_enter Tryd.func54, Tryd.ntmps54
      go_wp2_with (go_at_call 48; refine (within_any _ _ _ _).mono ?_; rintro e w' ⟨rfl, rfl⟩)
      go_ret
      exact ⟨ret_bool HE.out.symm, newb _ _⟩
end Go.Proofs.YtijonghofghocaaDoor
