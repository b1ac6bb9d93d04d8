/-
  The walks of pitch.Pulses at the error and of pitch.Count. Condition: the slice reads as its frequencies.
-/
import Derived.Test.YtijonghofghocaaDoorPulses
namespace Go.Proofs.YtijonghofghocaaDoor
open Go.RowKit Go.Shelf
attribute [local go_sem] Oper.semAt_some

set_option maxRecDepth 100000 in
set_option maxHeartbeats 1000000 in
theorem Pulses_err (rate : Int) (f : Nat → Int) (p : Option Addr) (len cap : Nat) (w : World) (hn : len ≤ 9223372036854775807) (hv : voiceB rate len f = false) (hc : Ints w p len f) :
    Calls Tryd.prog 36 #[.int .i64 rate, .slice p len cap] w (SliceErr 0 (fun _ => 0) 2 w) := by
  go_enter Tryd.func36, Tryd.ntmps36
  go_wp2_with fail
  refine (sampled_any rate f p len cap w hn hc).mono ?_
  rintro e w1 ⟨rfl, hb1⟩
  rw [hv]
  clear hv
  go_wp2_with fail
  go_ret2
  exact ⟨none, 0, rfl, .inl rfl, hb1⟩

/-- Two numbers and an error's number. -/
def three (a b c : Int) : Ending := .returned (.tuple #[.int .i64 a, .int .i64 b, .int .i64 c])

set_option maxRecDepth 100000 in
set_option maxHeartbeats 1000000 in
theorem Count_err (rate : Int) (f : Nat → Int) (p : Option Addr) (len cap : Nat) (w : World) (hn : len ≤ 9223372036854775807) (hv : voiceB rate len f = false) (hc : Ints w p len f) :
    Calls Tryd.prog 45 #[.int .i64 rate, .slice p len cap] w fun e w' => e = three 0 0 2 ∧ Below w.heap.size w w' := by
  go_enter Tryd.func45, Tryd.ntmps45
  go_wp2_with fail
  refine (sampled_any rate f p len cap w hn hc).mono ?_
  rintro e w1 ⟨rfl, hb1⟩
  rw [hv]
  clear hv
  go_wp2_with fail
  go_ret3
  exact ⟨rfl, hb1⟩

/-- What is counted, of what has come: how many pulses, and the last phase. -/
def cstep (s : Nat × Int) (x : Bool × Int) : Nat × Int := (bif x.1 then s.1 + 1 else s.1, x.2)
def cnt (pre : List (Bool × Int)) : Nat × Int := pre.foldl cstep (0, 0)
theorem cnt_snoc (pre : List (Bool × Int)) (x : Bool × Int) : cnt (pre ++ [x]) = cstep (cnt pre) x := by simp [cnt]
theorem cnt_le (pre : List (Bool × Int)) : (cnt pre).1 ≤ pre.length := by
  have key : ∀ (l : List (Bool × Int)) (s : Nat × Int), (l.foldl cstep s).1 ≤ s.1 + l.length := by
    intro l
    induction l with
    | nil => intro s; exact Nat.le_refl _
    | cons x l ih =>
      intro s
      have := ih (cstep s x)
      have e : (cstep s x).1 ≤ s.1 + 1 := by obtain ⟨b, v⟩ := x; cases b <;> simp [cstep]
      simp only [List.foldl_cons, List.length_cons]
      omega
  have := key pre (0, 0)
  simpa [cnt] using this
theorem cnt_upto (rate : Int) (f : Nat → Int) : ∀ k, cnt (upto rate f k) = (count rate f k, phase rate f k)
  | 0 => rfl
  | k + 1 => by
    rw [upto_succ, cnt_snoc, cnt_upto rate f k]
    unfold cstep
    rw [show (comes rate f k).1 = pulse rate f k from rfl, show (comes rate f k).2 = phase rate f (k + 1) from rfl]
    rcases Bool.eq_false_or_eq_true (pulse rate f k) with g | g
    · rw [g, cond_true, count_yes g]
    · rw [g, cond_false, count_no g]

set_option maxRecDepth 100000 in
set_option maxHeartbeats 4000000 in
theorem Count_in (n : Nat) (rate : Int) (f : Nat → Int) (p : Option Addr) (len cap : Nat) (w : World) (hn : 3 ≤ n) (hv : voiceB rate len f = true) (hc : Ints w p len f) :
    CallsIn Fence.wide n Tryd.prog 45 #[.int .i64 rate, .slice p len cap] w fun e w' => e = three (count rate f len) (phase rate f len) 0 ∧ Below w.heap.size w w' := by
  obtain ⟨r1, r2, hlen, hf⟩ := voice_iff hv
  refine callsIn_of_wp_marks Tryd.func45 rfl trivial ?_ rfl
  simp only [Tryd.ntmps45, List.size_toArray, List.length_cons, List.length_nil, Nat.reduceAdd, Nat.reduceSub, Array.replicate_succ, Array.replicate_zero, List.push_toArray, List.append_toArray, List.nil_append, List.cons_append]
  gi_wp2_with fail
  refine ⟨trivial, fun _ => by omega, (callsIn_wide.2 (sampled_any rate f p len cap w (by omega) hc)).mono ?_⟩
  rintro e w1 ⟨rfl, hb1⟩
  rw [hv]
  have HB1 := Lib.hid hb1
  have HC := Lib.hid hc
  have HF := Lib.hid hf
  clear hb1 hv hc hf
  gi_wp2_with fail
  refine ⟨trivial, fun _ => by omega, (callsIn_wide.2 (phases_any rate p len cap _)).mono ?_⟩
  rintro e w2 ⟨rfl, rfl⟩
  gi_wp2_with fail
  refine wpIn_gen (fun W => W.heap.size = w1.heap.size + 4 ∧ Below w1.heap.size w1 W ∧ Boxed W w1.heap.size 3 (.int .i64 0) ∧ Boxed W (w1.heap.size + 1) 3 (.int .i64 0) ∧ W.cell? ⟨w1.heap.size + 2, 0, none⟩ = some (.int .i64 rate) ∧ W.cell? ⟨w1.heap.size + 3, 0, none⟩ = some (.slice p len cap))
    ⟨by simp, ((((Below.refl _ _).alloc (Nat.le_refl _) _).alloc (by simp) _).alloc (by simp; omega) _).alloc (by simp; omega) _,
      (((Boxed.new _ _ _).alloc _).alloc _).alloc _, by have := ((Boxed.new (w1.alloc (.cells #[.int .i64 0] 3)) 3 (.int .i64 0)).alloc (.cells #[.int .i64 rate] 3)).alloc (.cells #[.slice p len cap] 34); rwa [World.size_alloc] at this,
      by have h := ((Boxed.new ((w1.alloc (.cells #[.int .i64 0] 3)).alloc (.cells #[.int .i64 0] 3)) 3 (.int .i64 rate)).alloc (.cells #[.slice p len cap] 34)).cell; rwa [World.size_alloc, World.size_alloc] at h,
      by have h := (Boxed.new (((w1.alloc (.cells #[.int .i64 0] 3)).alloc (.cells #[.int .i64 0] 3)).alloc (.cells #[.int .i64 rate] 3)) 34 (.slice p len cap)).cell; rwa [World.size_alloc, World.size_alloc, World.size_alloc] at h⟩ ?_
  rintro W0 ⟨s0, b0, x0, x1, c2, c3⟩
  have hB0 := HB1.out.trans (b0.mono HB1.out.size)
  refine wpIn_rangeFunc_ownG rfl (by omega) (gf := 81) (lb := #[.pointer (some ⟨w1.heap.size + 3, 0, none⟩), .pointer (some ⟨w1.heap.size + 2, 0, none⟩)]) rfl trivial (enters_of Tryd.func81 (by kernel_rfl) rfl)
    (phases_stops (n - 1) (w1.heap.size + 3) (w1.heap.size + 2) w1.heap.size len cap p rate f (by omega) r1 r2 hlen HF.out
      (by rcases (HC.out.mono HB1.out) with h | ⟨b, off, h1, h2, _⟩
          · exact .inl h
          · exact .inr ⟨b, off, h1, h2⟩) W0 c3 c2 (HC.out.mono hB0))
    Kept.trans (kept_b (by omega) (by omega)) (Below.refl _ _) (fun _ => rfl)
    (fun pre W => (Boxed W w1.heap.size 3 (.int .i64 ((cnt pre).1 : Int)) ∧ Boxed W (w1.heap.size + 1) 3 (.int .i64 (cnt pre).2)) ∧ Below w1.heap.size w1 W)
    (fun _ _ _ => False)
    (OwnFrom.and (OwnFrom.and (Own.from (boxed_own w1.heap.size 3 (fun pre => .int .i64 ((cnt pre).1 : Int))) _) (Own.from (boxed_own (w1.heap.size + 1) 3 (fun pre => .int .i64 (cnt pre).2)) _)) (ownFrom_below (Nat.le_refl _) (by omega)))
    (fun _ _ _ _ _ hs _ _ => hs)
    ⟨⟨x0, x1⟩, b0⟩
    (fun x => { tmps := #[.int .i64 rate, .slice p len cap, undef, undef, .int .i64 0, .int .i64 0, .int .i64 0, .pointer (some ⟨w1.heap.size, 0, none⟩), .pointer (some ⟨w1.heap.size + 1, 0, none⟩), .bool x.1, .int .i64 x.2, .int .i64 rate, .slice p len cap, .bool true, .bool false, .int .i64 rate, .slice p len cap,
      .func (.func 81) #[] #[.pointer (some ⟨w1.heap.size + 1 + 1 + 1, 0, none⟩), .pointer (some ⟨w1.heap.size + 1 + 1, 0, none⟩)], .bool x.1, .int .i64 x.2, undef, undef, undef, undef, undef, undef], defers := [] }) ?assign ?body ?done ?stop
  case assign =>
    intro l x W K hK
    dsimp only [encs]
    gi_wp2
    exact hK
  case body =>
    rintro l pre ⟨pb, pv⟩ W ⟨⟨h0, h1⟩, hB⟩ hlt
    have hc0 := h0.cell
    have hf0 := h0.frozen
    have hc1 := h1.cell
    have hf1 := h1.frozen
    have hi9 : ((cnt pre).1 : Int) ≤ 400000 := by have := cnt_le pre; omega
    cases pb with
    | true =>
      gi_wp2
      have hb3 := ((Below.refl w1.heap.size W).setCell (p := ⟨w1.heap.size, 0, none⟩) (Nat.le_refl _) (.int .i64 (((cnt pre).1 : Int) + 1))).setCell (p := ⟨w1.heap.size + 1, 0, none⟩) (Nat.le_succ _) (.int .i64 pv)
      have eg : cnt (pre ++ [(true, pv)]) = ((cnt pre).1 + 1, pv) := by rw [cnt_snoc]; rfl
      refine ⟨((KeepsOthers.setCell _ _ _).trans (KeepsOthers.setCell _ _ _)).from _, ⟨hb3, ?_⟩, ⟨?_, ?_⟩, hB.trans hb3⟩
      · rw [Below.heap_setCell _ _ _ _ (by simp), Below.heap_setCell _ _ _ _ (by simp)]
      · rw [eg]
        have := (h0.set (.int .i64 (((cnt pre).1 : Int) + 1))).other (show w1.heap.size ≠ w1.heap.size + 1 by omega) (.int .i64 pv)
        simpa using this
      · rw [eg]
        exact (h1.other (show w1.heap.size + 1 ≠ w1.heap.size by omega) (.int .i64 (((cnt pre).1 : Int) + 1))).set (.int .i64 pv)
    | false =>
      gi_wp2
      have hb3 := (Below.refl w1.heap.size W).setCell (p := ⟨w1.heap.size + 1, 0, none⟩) (Nat.le_succ _) (.int .i64 pv)
      have eg : cnt (pre ++ [(false, pv)]) = ((cnt pre).1, pv) := by rw [cnt_snoc]; rfl
      refine ⟨(KeepsOthers.setCell _ _ _).from _, ⟨hb3, ?_⟩, ⟨?_, ?_⟩, hB.trans hb3⟩
      · rw [Below.heap_setCell _ _ _ _ (by simp)]
      · rw [eg]
        exact h0.other (show w1.heap.size ≠ w1.heap.size + 1 by omega) (.int .i64 pv)
      · rw [eg]
        exact h1.set (.int .i64 pv)
  case done =>
    rintro D ys W hD rfl ⟨⟨h0, h1⟩, hB⟩ hK
    rw [cnt_upto] at h0 h1
    have hc0 := h0.cell
    have hc1 := h1.cell
    gi_wp2
    gi_region
    all_goals
      gi_wp2
      refine ⟨by simp, .inl ⟨_, _, rfl, run_takeDeferred (show W.drew.heap[D]? = _ from hK), ?_⟩⟩
      exact ⟨_, results_tmp3 rfl _ _ _, rfl, HB1.out.trans (Below.trans (hB.drew.mono HB1.out.size) (belowK_b (w := W0) (by have := hB0.size; omega) W.drew D _ _ hD hK rfl rfl))⟩
  case stop =>
    rintro D c pre W _ _ h _
    exact h.elim
theorem Count_ok (rate : Int) (f : Nat → Int) (p : Option Addr) (len cap : Nat) (w : World) (hv : voiceB rate len f = true) (hc : Ints w p len f) :
    Calls Tryd.prog 45 #[.int .i64 rate, .slice p len cap] w fun e w' => e = three (count rate f len) (phase rate f len) 0 ∧ Below w.heap.size w w' :=
  callsIn_wide.1 (Count_in 3 rate f p len cap w (Nat.le_refl _) hv hc)
end Go.Proofs.YtijonghofghocaaDoor
