/-
  The walks of pitch.phases, pitch.Pulses and pitch.Count. Condition: the slice reads as its frequencies.
-/
import Derived.Test.YtijonghofghocaaDoorIter
import Derived.Test.YtijonghofghocaaDoorCurve
import Derived.Deep.Onto
namespace Go.Proofs.YtijonghofghocaaDoor
open Go.RowKit Go.Shelf
attribute [local go_sem] Oper.semAt_some

set_option maxHeartbeats 1000000 in
theorem phases_any (rate : Int) (p : Option Addr) (len cap : Nat) (w : World) :
    Calls Tryd.prog 64 #[.int .i64 rate, .slice p len cap] w fun e w' => e = .returned (.func (.func 81) #[] #[.pointer (some ⟨w.heap.size + 1, 0, none⟩), .pointer (some ⟨w.heap.size, 0, none⟩)]) ∧
      w' = (w.alloc (.cells #[.int .i64 rate] 3)).alloc (.cells #[.slice p len cap] 34) := by
  go_enter Tryd.func64, Tryd.ntmps64
  go_wp2
  go_ret
  exact ⟨rfl, rfl⟩

theorem phases_stops (n Bs Br n₀ len cap : Nat) (p : Option Addr) (rate : Int) (f : Nat → Int) (hn : 1 ≤ n) (r1 : 1 ≤ rate) (r2 : rate ≤ 192000) (hlen : len ≤ 400000) (hf : ∀ i, i < len → 0 ≤ f i ∧ f i ≤ 500 * rate)
    (hp : len = 0 ∨ ∃ b off, p = some ⟨b, off, none⟩ ∧ b < n₀) (w : World) (hBs : w.cell? ⟨Bs, 0, none⟩ = some (.slice p len cap)) (hBr : w.cell? ⟨Br, 0, none⟩ = some (.int .i64 rate)) (hc : Ints w p len f) :
    SeqStopsK Fence.wide n Tryd.prog 81 #[.pointer (some ⟨Bs, 0, none⟩), .pointer (some ⟨Br, 0, none⟩)] encs (Kept n₀ Br) (fun ys => ys = upto rate f len) (fun pre => ∃ k, k ≤ len ∧ pre = upto rate f k) len w :=
  fun l J Jx W hW _ _ hY h0 => phases1_in n l Bs Br n₀ len cap p rate f hn r1 r2 hlen hf hp J Jx hY W (keepc hW hBs) (keepc hW hBr) (hc.mono hW) h0

theorem wpIn_gen {F : Fence} {n : Nat} {P : Program} {c : Code} {Q : Exit → Act → World → Prop} {a : Act} {w : World} (G : World → Prop) (hG : G w) (h : ∀ w, G w → c.wpIn F n P Q a w) : c.wpIn F n P Q a w := h w hG

/-- What the pulses are, of what has come. -/
def gstep (s : Nat × List Int) (x : Bool × Int) : Nat × List Int := (s.1 + 1, bif x.1 then s.2 ++ [(s.1 : Int)] else s.2)
def got (pre : List (Bool × Int)) : Nat × List Int := pre.foldl gstep (0, [])
theorem got_snoc (pre : List (Bool × Int)) (x : Bool × Int) : got (pre ++ [x]) = gstep (got pre) x := by simp [got]
theorem got_length (pre : List (Bool × Int)) : (got pre).1 = pre.length ∧ (got pre).2.length ≤ pre.length := by
  have key : ∀ (l : List (Bool × Int)) (s : Nat × List Int), s.2.length ≤ s.1 → (l.foldl gstep s).1 = s.1 + l.length ∧ (l.foldl gstep s).2.length ≤ s.1 + l.length := by
    intro l
    induction l with
    | nil => intro s h; exact ⟨rfl, h⟩
    | cons x l ih =>
      intro s h
      have := ih (gstep s x) (by
        obtain ⟨b, v⟩ := x
        cases b <;> simp [gstep] <;> omega)
      simp only [List.foldl_cons, List.length_cons]
      have e : (gstep s x).1 = s.1 + 1 := rfl
      omega
  have := key pre (0, []) (Nat.le_refl _)
  simpa [got] using this
theorem got_upto (rate : Int) (f : Nat → Int) : ∀ k, got (upto rate f k) = (k, (List.range (count rate f k)).map (place rate f k))
  | 0 => rfl
  | k + 1 => by
    rw [upto_succ, got_snoc, got_upto rate f k]
    unfold gstep
    rw [show (comes rate f k).1 = pulse rate f k from rfl]
    rcases Bool.eq_false_or_eq_true (pulse rate f k) with g | g
    · rw [g, cond_true, count_yes g, List.range_succ, List.map_append]
      congr 2
      · refine List.map_congr_left fun j hj => ?_
        have := List.mem_range.1 hj
        rw [place_yes g, if_neg (by omega)]
      · simp [place_yes g]
    · rw [g, cond_false, count_no g]
      congr 1
      exact List.map_congr_left fun j _ => (place_no g).symm

set_option maxRecDepth 100000 in
set_option maxHeartbeats 4000000 in
theorem Pulses_in (n : Nat) (rate : Int) (f : Nat → Int) (p : Option Addr) (len cap : Nat) (w : World) (hn : 3 ≤ n) (hv : voiceB rate len f = true) (hc : Ints w p len f) :
    CallsIn Fence.wide n Tryd.prog 36 #[.int .i64 rate, .slice p len cap] w (SliceErr (count rate f len) (place rate f len) 0 w) := by
  obtain ⟨r1, r2, hlen, hf⟩ := voice_iff hv
  obtain ⟨i0, hi, hz0, hz1, hz2⟩ := info_parts info3
  refine callsIn_of_wp_marks Tryd.func36 rfl trivial ?_ rfl
  simp only [Tryd.ntmps36, List.size_toArray, List.length_cons, List.length_nil, Nat.reduceAdd, Nat.reduceSub, Array.replicate_succ, Array.replicate_zero, List.push_toArray, List.append_toArray, List.nil_append, List.cons_append]
  gi_wp2_with fail
  refine ⟨trivial, fun _ => by omega, (callsIn_wide.2 (sampled_any rate f p len cap w (by omega) hc)).mono ?_⟩
  rintro e w1 ⟨rfl, hb1⟩
  rw [hv]
  have HB1 := Lib.hid hb1
  have HC := Lib.hid hc
  have HF := Lib.hid hf
  clear hb1 hv hc hf
  gi_wp2_with fail
  refine ⟨trivial, fun _ => by omega, (callsIn_wide.2 (phases_any rate p len cap _)).mono ?_⟩
  rintro e w2 ⟨rfl, rfl⟩
  gi_wp2_with fail
  refine wpIn_gen (fun W => W.heap.size = w1.heap.size + 4 ∧ Below w1.heap.size w1 W ∧ Boxed W w1.heap.size 34 (.slice none 0 0) ∧ Boxed W (w1.heap.size + 1) 3 (.int .i64 0) ∧ W.cell? ⟨w1.heap.size + 2, 0, none⟩ = some (.int .i64 rate) ∧ W.cell? ⟨w1.heap.size + 3, 0, none⟩ = some (.slice p len cap))
    ⟨by simp, ((((Below.refl _ _).alloc (Nat.le_refl _) _).alloc (by simp) _).alloc (by simp; omega) _).alloc (by simp; omega) _,
      (((Boxed.new _ _ _).alloc _).alloc _).alloc _, by have := ((Boxed.new (w1.alloc (.cells #[.slice none 0 0] 34)) 3 (.int .i64 0)).alloc (.cells #[.int .i64 rate] 3)).alloc (.cells #[.slice p len cap] 34); rwa [World.size_alloc] at this,
      by have h := ((Boxed.new ((w1.alloc (.cells #[.slice none 0 0] 34)).alloc (.cells #[.int .i64 0] 3)) 3 (.int .i64 rate)).alloc (.cells #[.slice p len cap] 34)).cell; rwa [World.size_alloc, World.size_alloc] at h,
      by have h := (Boxed.new (((w1.alloc (.cells #[.slice none 0 0] 34)).alloc (.cells #[.int .i64 0] 3)).alloc (.cells #[.int .i64 rate] 3)) 34 (.slice p len cap)).cell; rwa [World.size_alloc, World.size_alloc, World.size_alloc] at h⟩ ?_
  rintro W0 ⟨s0, b0, x0, x1, c2, c3⟩
  have hB0 := HB1.out.trans (b0.mono HB1.out.size)
  refine wpIn_rangeFunc_ownG rfl (by omega) (gf := 81) (lb := #[.pointer (some ⟨w1.heap.size + 3, 0, none⟩), .pointer (some ⟨w1.heap.size + 2, 0, none⟩)]) rfl trivial (enters_of Tryd.func81 (by kernel_rfl) rfl)
    (phases_stops (n - 1) (w1.heap.size + 3) (w1.heap.size + 2) w1.heap.size len cap p rate f (by omega) r1 r2 hlen HF.out
      (by rcases (HC.out.mono HB1.out) with h | ⟨b, off, h1, h2, _⟩
          · exact .inl h
          · exact .inr ⟨b, off, h1, h2⟩) W0 c3 c2 (HC.out.mono hB0))
    Kept.trans (kept_b (by omega) (by omega)) (Below.refl _ _) (fun _ => rfl)
    (fun pre W => ((∃ v, Boxed W w1.heap.size 34 v ∧ W.ownsRow (w1.heap.size + 4) 3 1 v (got pre).2.length ((got pre).2.map (Value.int .i64)) ∧ True) ∧ Boxed W (w1.heap.size + 1) 3 (.int .i64 ((got pre).1 : Int))) ∧ Below w1.heap.size w1 W ∧ w1.heap.size + 4 ≤ W.heap.size)
    (fun _ _ _ => False)
    (OwnFrom.and (OwnFrom.and (Own.from (holdsRow_own (w1.heap.size + 4) w1.heap.size 34 3 1 (fun pre => (got pre).2.length) (fun pre => (got pre).2.map (Value.int .i64)) (fun _ _ => True)) _) (Own.from (boxed_own (w1.heap.size + 1) 3 (fun pre => .int .i64 ((got pre).1 : Int))) _))
      (OwnFrom.and (ownFrom_below (Nat.le_refl _) (by omega)) (fun _ _ _ _ hs hg _ => Nat.le_trans hs hg.size)))
    (fun _ _ _ _ _ hs _ _ => hs)
    ⟨⟨⟨_, x0, World.ownsRow_nil _ _ _ _, trivial⟩, x1⟩, b0, by omega⟩
    (fun x => { tmps := #[.int .i64 rate, .slice p len cap, undef, undef, .slice none 0 0, .int .i64 0, .pointer (some ⟨w1.heap.size, 0, none⟩), .pointer (some ⟨w1.heap.size + 1, 0, none⟩), .bool x.1, .int .i64 rate, .slice p len cap, .bool true, .bool false, .int .i64 rate, .slice p len cap,
      .func (.func 81) #[] #[.pointer (some ⟨w1.heap.size + 1 + 1 + 1, 0, none⟩), .pointer (some ⟨w1.heap.size + 1 + 1, 0, none⟩)], .bool x.1, .int .i64 x.2, undef, undef, undef, undef, undef, undef, undef, undef], defers := [] }) ?assign ?body ?done ?stop
  case assign =>
    intro l x W K hK
    dsimp only [encs]
    gi_wp2
    exact hK
  case body =>
    rintro l pre ⟨pb, pv⟩ W ⟨⟨⟨v, hv, hrow, _⟩, hi1⟩, hB, hsz⟩ hlt
    have hc := hv.cell
    have hf0 := hv.frozen
    have hc1 := hi1.cell
    have hf1 := hi1.frozen
    have hi9 : ((got pre).1 : Int) ≤ 400000 := by have := got_length pre; omega
    have hl9 : (got pre).2.length ≤ 400000 := by have := got_length pre; omega
    cases pb with
    | true =>
      gi_wp2_with (gi_at_builtin; refine wpListIn_append_own _ rfl _ _ 34 rfl (w1.heap.size + 4) 3 i0 (.int .i64 0) 1 8 Tryd.underlying34 hi hz0 hz1 hz2 rfl (by decide) _ _ _ rfl (hrow.alloc _) ⟨W.heap.size, 0, none⟩ 1 1 [.int .i64 ((got pre).1 : Int)] rfl rfl (cell_one_new _ _ _) (by simp [Value.oneCell']) (by unfold maxLen; omega) (by omega) (by simp; omega) ?_; intro v' w3 hown' hgrow _; obtain ⟨g', cap', rfl⟩ := ownsRow_succ hown'; have B4 : Below (w1.heap.size + 4) W w3 := ((Below.refl (w1.heap.size + 4) W).alloc hsz _).grown hgrow (by simp; omega) (fun k hk => (World.ownsRow.lt hrow k hk).1); have q0 : Boxed w3 w1.heap.size 34 v := (B4.block _ (by omega)).trans hv; have q1 : Boxed w3 (w1.heap.size + 1) 3 (.int .i64 ((got pre).1 : Int)) := (B4.block _ (by omega)).trans hi1; have q0c := q0.cell; have q0f := q0.frozen; have q1c := q1.cell; have q1f := q1.frozen)
      obtain ⟨hv1, hv2, hr2, hk2, hb2⟩ := hv.appended (by decide) (World.ownsRow.mono hrow (show w1.heap.size ≤ w1.heap.size + 4 by omega)) hB.size (Nat.le_refl _) (World.ownsRow.mono hown' (show w1.heap.size ≤ w1.heap.size + 4 by omega)) hgrow
      have hb3 := hb2.setCell (p := ⟨w1.heap.size + 1, 0, none⟩) (Nat.le_succ _) (.int .i64 (((got pre).1 : Int) + 1))
      have eg : got (pre ++ [(true, pv)]) = ((got pre).1 + 1, (got pre).2 ++ [((got pre).1 : Int)]) := by rw [got_snoc]; rfl
      refine ⟨(hk2.trans (KeepsOthers.setCell _ _ _)).from _, ⟨hb3, ?_⟩, ⟨⟨_, hv2.other (by simp) _, ?_, trivial⟩, ?_⟩, hB.trans hb3, Nat.le_trans hsz hb3.size⟩
      · rw [Below.heap_setCell _ _ _ _ (by simp), Below.heap_setCell _ _ _ _ (by simp)]; exact B4.block _ (by omega)
      · rw [eg]
        have := ownsRow_setCell_below (ownsRow_setCell_below hown' (a := ⟨w1.heap.size, 0, none⟩) (by simp) (.slice (some ⟨g', 0, none⟩) ((got pre).2.length + 1) cap')) (a := ⟨w1.heap.size + 1, 0, none⟩) (by simp) (.int .i64 (((got pre).1 : Int) + 1))
        simpa using this
      · rw [eg]
        have := (q1.other (show w1.heap.size + 1 ≠ w1.heap.size by omega) (.slice (some ⟨g', 0, none⟩) ((got pre).2.length + 1) cap')).set (.int .i64 (((got pre).1 : Int) + 1))
        simpa using this
    | false =>
      gi_wp2
      have hb3 := (Below.refl w1.heap.size W).setCell (p := ⟨w1.heap.size + 1, 0, none⟩) (Nat.le_succ _) (.int .i64 (((got pre).1 : Int) + 1))
      have eg : got (pre ++ [(false, pv)]) = ((got pre).1 + 1, (got pre).2) := by rw [got_snoc]; rfl
      refine ⟨(KeepsOthers.setCell _ _ _).from _, ⟨hb3, ?_⟩, ⟨⟨_, hv.other (by simp) _, ?_, trivial⟩, ?_⟩, hB.trans hb3, Nat.le_trans hsz hb3.size⟩
      · rw [Below.heap_setCell _ _ _ _ (by simp)]
      · rw [eg]
        exact ownsRow_setCell_below hrow (a := ⟨w1.heap.size + 1, 0, none⟩) (by simp) _
      · rw [eg]
        have := hi1.set (.int .i64 (((got pre).1 : Int) + 1))
        simpa using this
  case done =>
    rintro D ys W hD rfl ⟨⟨⟨v, hv, hrow, _⟩, hi1⟩, hB, hsz⟩ hK
    have hc := hv.cell
    gi_wp2
    refine ⟨by simp, .inl ⟨_, _, rfl, run_takeDeferred hK, ?_⟩⟩
    have hrow' := ownsRow_putObj hrow (.deferred none) hK rfl
    rw [got_upto] at hrow'
    simp only [List.length_map, List.length_range, List.map_map] at hrow'
    obtain ⟨q, c, h1, h2⟩ := Grow.ints (F := place rate f len) (show Grow _ _ v (count rate f len) _ from hrow')
    subst h1
    exact ⟨_, results_tmp2 rfl _ _ _, q, c, rfl, h2, HB1.out.trans (Below.trans (hB.mono HB1.out.size) (belowK_b (w := W0) (by have := hB0.size; omega) W D _ _ hD hK rfl rfl))⟩
  case stop =>
    rintro D c pre W _ _ h _
    exact h.elim
theorem Pulses_ok (rate : Int) (f : Nat → Int) (p : Option Addr) (len cap : Nat) (w : World) (hv : voiceB rate len f = true) (hc : Ints w p len f) :
    Calls Tryd.prog 36 #[.int .i64 rate, .slice p len cap] w (SliceErr (count rate f len) (place rate f len) 0 w) :=
  callsIn_wide.1 (Pulses_in 3 rate f p len cap w (Nat.le_refl _) hv hc)
end Go.Proofs.YtijonghofghocaaDoor
