/-
  The walk of PitchRaised: it answers true. Conditions: the table of semitones lies as the program's text lays it; the slice of targets reads as its elements.
-/
import Derived.Test.YtijonghofghocaaDoorKnown
import Derived.Test.YtijonghofghocaaDoorSettle
namespace Go.Proofs.YtijonghofghocaaDoor
open Go.RowKit

theorem zero_or (m : Nat) : m = 0 ∨ ((m : Int) == 0) = false := by
  by_cases q : m = 0
  · exact .inl q
  · exact .inr (by simp; omega)
/-- The first k targets, raised. -/
def raisedL (p : Prob) (b : Int) (k : Nat) : List Tgt := (List.range k).map fun i => ⟨(p.tg i).time, (p.tg i).value + b, (p.tg i).weight⟩
theorem raisedL_length (p : Prob) (b : Int) (k : Nat) : (raisedL p b k).length = k := by simp [raisedL]
theorem raisedL_succ (p : Prob) (b : Int) (k : Nat) : raisedL p b (k + 1) = raisedL p b k ++ [⟨(p.tg k).time, (p.tg k).value + b, (p.tg k).weight⟩] := by simp [raisedL, List.range_succ]
theorem raisedL_get {p : Prob} {b : Int} {k i : Nat} (h : i < k) : selF (raisedL p b k) i = (raise p b).tg i := by simp [selF, raisedL, h, raise]
/-- The box of the raised problem, its targets' slice v. -/
def QBlk (w : World) (Q : Nat) (p : Prob) (b : Int) (v : Value) : Prop := w.heap[Q]? = some (.cells #[.int .i64 p.frames, .int .i64 (p.low + b), .int .i64 (p.high + b), .int .i64 p.slope, .int .i64 p.smooth, v] 43 (0, 0))
theorem QBlk.cells {w : World} {Q : Nat} {p : Prob} {b : Int} {v : Value} (h : QBlk w Q p b v) : w.cell? ⟨Q, 0, none⟩ = some (.int .i64 p.frames) ∧ w.cell? ⟨Q, 1, none⟩ = some (.int .i64 (p.low + b)) ∧
    w.cell? ⟨Q, 2, none⟩ = some (.int .i64 (p.high + b)) ∧ w.cell? ⟨Q, 3, none⟩ = some (.int .i64 p.slope) ∧ w.cell? ⟨Q, 4, none⟩ = some (.int .i64 p.smooth) ∧ w.cell? ⟨Q, 5, none⟩ = some v := by
  simp [World.cell?, show w.heap[Q]? = _ from h]
theorem QBlk.later {w w' : World} {Q : Nat} {p : Prob} {b : Int} {v : Value} (h : QBlk w Q p b v) (hb : Below w.heap.size w w') : QBlk w' Q p b v := block_later h hb
theorem QBlk.free {w : World} {Q : Nat} {p : Prob} {b : Int} {v : Value} (h : QBlk w Q p b v) (j : Nat) : w.frozen? ⟨Q, j, none⟩ = false := by simp [World.frozen?, show w.heap[Q]? = _ from h]
theorem QBlk.lt {w : World} {Q : Nat} {p : Prob} {b : Int} {v : Value} (h : QBlk w Q p b v) : Q < w.heap.size := lt_of_block h
theorem QBlk.set5 {w : World} {Q : Nat} {p : Prob} {b : Int} {v : Value} (h : QBlk w Q p b v) (u : Value) : QBlk (w.setCell ⟨Q, 5, none⟩ u) Q p b u := heap_setCell_same w Q 5 _ 43 _ h
theorem q_set {w : World} {Q i t : Nat} {cs : Array Value} {v : Value} (h : w.heap[Q]? = some (.cells cs t (0, 0))) : (w.setCell ⟨Q, i, none⟩ v).heap[Q]? = some (.cells (cs.setIfInBounds i v) t (0, 0)) := heap_setCell_same w Q i _ t _ h
theorem own_set {w : World} {base n Q : Nat} {e : TypeId} {size : Nat} {v : Value} {xs : List Value} (h : w.ownsRow base e size v n xs) (hQ : Q < base) (j : Nat) (u : Value) : (w.setCell ⟨Q, j, none⟩ u).ownsRow base e size v n xs := by
  refine World.ownsRow.kept (row := some Q) h ?_ ?_
  · exact ⟨rfl, rfl, rfl, by simp, fun k _ hk => Below.heap_setCell w _ _ k (fun e => hk (by rw [e]))⟩
  · cases hv : v.ownBlock with
    | none => exact .inl rfl
    | some g =>
      refine .inr fun e => ?_
      have := (World.ownsRow.lt h g hv).1
      cases e
      omega
theorem QBlk.grown {w w' : World} {Q n : Nat} {p : Prob} {b : Int} {v v' : Value} {xs : List Value} (h : QBlk w Q p b v) (hown : w.ownsRow (Q + 1) 54 3 v' n xs) (hg : w.grownBy w' v'.ownBlock) : QBlk w' Q p b v :=
  (hg.block Q (lt_of_block h) fun e => by have := (World.ownsRow.lt hown Q e.symm).1; omega).trans h
theorem append_tgt {P : Program} (hP : P.underlying 41 = some (.slice 54)) (hI : (P.info? 54).map (fun i => (i.zero, i.size, i.bytes)) = some (some (.agg #[.int .i64 0, .int .i64 0, .int .i64 0]), 3, 24)) (w : World) {ops : Array Oper} {rest : List Oper} {o : Oper} {a : Act} {Q : Exit → Act → World → Prop}
    (hgd : o.guard = none) (s x : Operand) (ho : o.op = .call { callee := .builtin .append, args := #[s, x], argTypes := #[41, 41] })
    (base : Nat) (v : Value) (L : List Tgt) (t : Tgt) (hs : a.eval s = v) (hown : w.ownsRow base 54 3 v L.length (tcells L)) (ad : Addr) (hx : a.eval x = .slice (some ad) 1 1)
    (hc : ∀ (j : Nat) (u : Value), [Value.int .i64 t.time, .int .i64 t.value, .int .i64 t.weight][j]? = some u → w.cell? (ad.add j) = some u) (hn : L.length ≤ 1000000) (hbase : base ≤ w.heap.size)
    (h : ∀ v' w', w'.ownsRow base 54 3 v' (L.length + 1) (tcells (L ++ [t])) → w.grownBy w' v.ownBlock → wpList P ops Q rest (a.put o.dst v') w') : wpList P ops Q (o :: rest) a w := by
  obtain ⟨i0, hi, hz0, hz1, hz2⟩ := info_parts hI
  refine wpList_append_own w hgd s x 41 ho base 54 i0 _ 3 24 hP hi hz0 hz1 hz2 rfl (by decide) v L.length _ hs hown ad 1 1 [.int .i64 t.time, .int .i64 t.value, .int .i64 t.weight] hx rfl hc three_one (by unfold maxLen; omega) (by omega) hbase ?_
  intro v' w' h1 h2 _
  rw [← tcells_snoc] at h1
  exact h v' w' h1 h2
theorem row_same {w : World} {p : Option Addr} {n s : Nat} {f g : Nat → Nat → Value} (h : Row w p n s f) (e : ∀ i, i < n → ∀ j, j < s → f i j = g i j) : Row w p n s g := by
  rcases h with h | ⟨b, off, hp, hlt, hc⟩
  · exact .inl h
  · exact .inr ⟨b, off, hp, hlt, fun i hi j hj => by rw [← e i hi j hj]; exact hc i hi j hj⟩

set_option maxRecDepth 100000 in
set_option maxHeartbeats 16000000 in
theorem raised_main (p : Prob) (a : Option Addr) (c : Nat) (b : Int) (w : World) (hf : p.frames ≤ 30) (hm : p.m ≤ 20) (hp : PB p) (hb1 : -1000 ≤ b) (hb2 : b ≤ 1000) (hc : Row w a p.m 3 (tgtCell p.tg)) (ht : Table w) :
    Calls Tryd.prog 9 #[.agg #[.int .i64 p.frames, .int .i64 p.low, .int .i64 p.high, .int .i64 p.slope, .int .i64 p.smooth, .slice a p.m c], .int .i64 b] w fun e w' => e = .returned (.bool true) ∧ Below w.heap.size w w' := by
  have hm' : (p.m : Int) ≤ 20 := by omega
  have hm2 : p.m ≤ 9223372036854775807 := by omega
  have HG := Lib.hid (probB_iff.2 hp)
  obtain ⟨F, hF⟩ : ∃ F, F = framesN p := ⟨_, rfl⟩
  have hFR : (F : Int) = p.frames := by rw [hF]; unfold framesN; have := hp.f1; omega
  have h1F : 0 < F := by have := hp.f1; omega
  have hF30 : (F : Int) ≤ 30 := by omega
  have HF := Lib.hid hF
  have HFR := Lib.hid hFR
  have HP := Lib.hid hp
  have HC := Lib.hid hc
  have HT := Lib.hid ht
  have dl := hp.l1
  have dh := hp.h1
  have dlh := hp.lh
  clear hF hp hc ht hFR
  go_enter Tryd.func9, Tryd.ntmps9
  go_wp2_with fail
  have h0 : ProbBlk (w.alloc (.cells #[.int .i64 p.frames, .int .i64 p.low, .int .i64 p.high, .int .i64 p.slope, .int .i64 p.smooth, .slice a p.m c] 43)) w.heap.size p a c := heap_alloc_new _ _
  refine (refproblem_any p a c _ hm2 (HC.out.mono (newb _ _))).mono ?_
  rintro e w1 ⟨rfl, hb1'⟩
  have HN1 := Lib.hid (h0.later hb1')
  have HB1 := Lib.hid ((newb w _).trans (hb1'.mono (by simp)))
  obtain ⟨a0, a1, a2, a3, a4, a5⟩ := HN1.out.cells
  clear h0 hb1'
  rw [HG.out]
  go_wp2_with fail
  refine (Best_any p a c _ hm2 (HC.out.mono HB1.out)).mono ?_
  rintro e w2 ⟨hbest, _, hb2'⟩
  obtain ⟨qv, cv, rfl, hi2⟩ := hbest HG.out
  rw [← HF.out] at hi2 ⊢
  have HI2 := Lib.hid hi2
  have HN2 := Lib.hid (HN1.out.later hb2')
  have HB2 := Lib.hid (HB1.out.trans (hb2'.mono HB1.out.size))
  have HC2 := Lib.hid (HC.out.mono HB2.out)
  obtain ⟨C, hC⟩ : ∃ C, C = costN p F (path p F) := ⟨_, rfl⟩
  rw [← hC]
  have HCC := Lib.hid hC
  clear a0 a1 a2 a3 a4 a5 hb2' hi2 hC hbest
  obtain ⟨N, hN⟩ : ∃ N, N = w.heap.size := ⟨_, rfl⟩
  rw [← hN] at HN2
  rw [← hN]
  clear hN HN1
  obtain ⟨a0, a1, a2, a3, a4, a5⟩ := HN2.out.cells
  rw [← HFR.out] at a0
  go_wp2_with fail
  clear a0 a1 a2 a3 a4 a5
  go_loopw [8] (fun u wr => ∃ k : Nat, k ≤ F ∧ u = .int .i64 k ∧ Below w2.heap.size w2 wr) (fun u _ => F - (intOf u).toNat)
  case atStart => exact ⟨0, Nat.zero_le _, rfl, Below.refl _ _⟩
  case round =>
    obtain ⟨k, hk, rfl, hb⟩ := hrel
    have HB := Lib.hid hb
    clear hb
    by_cases hlt : k < F
    · obtain ⟨bb, off, rfl, hbs, hcell⟩ := HI2.out.at (by omega)
      have kv : wr.cell? ⟨bb, off + k, none⟩ = some (.int .i64 (path p F k)) := by rw [HB.out.cell hbs]; exact hcell k hlt
      have kz : wr.cell? ⟨bb, off, none⟩ = some (.int .i64 (path p F 0)) := by rw [HB.out.cell hbs]; exact hcell 0 h1F
      obtain ⟨a0, a1, a2, a3, a4, a5⟩ := (HN2.out.later HB.out).cells
      clear hcell a0 a2 a4
      have hF0 : (0 : Int) < F := by omega
      rcases (show (p.slope == 0) = true ∨ (p.slope == 0) = false by cases p.slope == 0 <;> simp) with e1 | e1
      · have hs0 := path_flat HP.out (n := F) (by simpa using e1) k hlt
        rw [hs0] at kv
        clear hs0
        rcases (zero_or p.m) with e2 | e2
        · have hl0 := path_low HP.out h1F e2 (by omega) 0 h1F
          rw [hl0] at kv kz
          have e3 : ((p.m : Int) == 0) = true := by simp [e2]
          clear hl0 e2
          go_wp2_with fail
          go_quiet (fail)
          go_wp2_with fail
          go_roundw
          case rel => exact ⟨k + 1, by omega, by go_num, by repeat first | exact HB.out | refine below_drewN ?_ _⟩
          case measure => simp [intOf]; omega
        · go_wp2_with fail
          go_quiet (fail)
          go_wp2_with fail
          go_roundw
          case rel => exact ⟨k + 1, by omega, by go_num, by repeat first | exact HB.out | refine below_drewN ?_ _⟩
          case measure => simp [intOf]; omega
      · rcases (zero_or p.m) with e2 | e2
        · have hl0 := path_low HP.out h1F e2 (by omega) k hlt
          rw [hl0] at kv
          have e3 : ((p.m : Int) == 0) = true := by simp [e2]
          clear hl0 e2
          go_wp2_with fail
          go_quiet (fail)
          go_wp2_with fail
          go_roundw
          case rel => exact ⟨k + 1, by omega, by go_num, by repeat first | exact HB.out | refine below_drewN ?_ _⟩
          case measure => simp [intOf]; omega
        · go_wp2_with fail
          go_quiet (fail)
          go_wp2_with fail
          go_roundw
          case rel => exact ⟨k + 1, by omega, by go_num, by repeat first | exact HB.out | refine below_drewN ?_ _⟩
          case measure => simp [intOf]; omega
    · have hle : F ≤ k := by omega
      obtain ⟨a0, a1, a2, a3, a4, a5⟩ := (HN2.out.later HB.out).cells
      go_wp2_with fail
      obtain ⟨Q, hQ⟩ : ∃ Q, Q = wr.heap.size := ⟨_, rfl⟩
      have hQ0 := heap_alloc_new wr (.cells #[.int .i64 p.frames, .int .i64 p.low, .int .i64 p.high, .int .i64 p.slope, .int .i64 p.smooth, .slice a p.m c] 43)
      rw [← hQ] at hQ0
      rw [← hQ]
      have HQ2 := Lib.hid (show w2.heap.size ≤ Q by rw [hQ]; exact HB.out.size)
      clear a0 a1 a2 a3 a4 a5
      refine wp_gen (fun w3 => w3.heap[Q]? = some (.cells #[.int .i64 p.frames, .int .i64 p.low, .int .i64 p.high, .int .i64 p.slope, .int .i64 p.smooth, .slice a p.m c] 43 (0, 0)) ∧ Below w2.heap.size w2 w3) ⟨hQ0, HB.out.alloc HB.out.size _⟩ ?_
      clear hQ0 hQ
      rintro w3 ⟨hq3, hb3⟩
      have HQ3 := Lib.hid hq3
      have HB3 := Lib.hid hb3
      obtain ⟨a0, a1, a2, a3, a4, a5⟩ := (HN2.out.later hb3).cells
      have f1 : w3.frozen? ⟨Q, 1, none⟩ = false := by simp [World.frozen?, hq3]
      have f2 : w3.frozen? ⟨Q, 2, none⟩ = false := by simp [World.frozen?, hq3]
      have f5 : w3.frozen? ⟨Q, 5, none⟩ = false := by simp [World.frozen?, hq3]
      have g1 : w3.cell? ⟨Q, 1, none⟩ = some (.int .i64 p.low) := by simp [World.cell?, hq3]
      have g2 : w3.cell? ⟨Q, 2, none⟩ = some (.int .i64 p.high) := by simp [World.cell?, hq3]
      have g5 : w3.cell? ⟨Q, 5, none⟩ = some (.slice a p.m c) := by simp [World.cell?, hq3]
      have hNQ : N ≠ Q := by
        have := HN2.out.lt
        have := HQ2.out
        omega
      clear hq3 hb3 a0 a3 a4 a5
      go_region
      clear a1 a2 f1 f2 f5 g1 g2 g5
      go_wp2_with fail
      refine wp_gen (fun w4 => QBlk w4 Q p b (.slice none 0 0) ∧ Below w2.heap.size w2 w4) ⟨q_set (q_set (q_set HQ3.out)), ?_⟩ ?_
      · have h := ((HB3.out.setCell (p := ⟨Q, 1, none⟩) HQ2.out (.int .i64 (p.low + b))).setCell (p := ⟨Q, 2, none⟩) HQ2.out (.int .i64 (p.high + b))).setCell (p := ⟨Q, 5, none⟩) HQ2.out (.slice none 0 0)
        exact h.trans ⟨rfl, rfl, rfl, Nat.le_refl _, fun _ _ => rfl⟩
      rintro w4 ⟨hq4, hb4⟩
      have HQ4 := Lib.hid hq4
      have HB4 := Lib.hid hb4
      clear hq4 hb4 HQ3 HB3 w3 HB
      go_loopw [10] (fun u wr => ∃ k : Nat, k ≤ p.m ∧ u = .int .i64 k ∧ ∃ v', QBlk wr Q p b v' ∧ wr.ownsRow (Q + 1) 54 3 v' (raisedL p b k).length (tcells (raisedL p b k)) ∧ Below w2.heap.size w2 wr) (fun u _ => p.m - (intOf u).toNat)
      case atStart => exact ⟨0, Nat.zero_le _, rfl, _, HQ4.out, World.ownsRow_nil _ _ _ _, HB4.out⟩
      case round =>
        obtain ⟨k, hk, rfl, v', hq, ho, hb⟩ := hrel
        have HQ := Lib.hid hq
        have HO := Lib.hid ho
        have HB := Lib.hid hb
        obtain ⟨a0, a1, a2, a3, a4, a5⟩ := (HN2.out.later HB.out).cells
        clear hq ho hb a0 a1 a2 a3 a4 HQ4 HB4
        by_cases hlt : k < p.m
        · obtain ⟨ba, off, rfl, hbs, hcell⟩ := HC2.out.at (by omega)
          obtain ⟨k0, k1, k2⟩ := tgt_at HB.out hbs hcell hlt
          clear hcell
          have htg := HP.out.tg k hlt
          obtain ⟨aa, cc, hv, _⟩ := own_row HO.out
          subst hv
          obtain ⟨_, _, _, _, _, g5⟩ := HQ.out.cells
          have hQ1 : Q + 1 ≤ wr.heap.size := HQ.out.lt
          have hQs : Q < wr.heap.size := HQ.out.lt
          have HNW := Lib.hid (show ∀ o1 o2, Below wr.heap.size wr ((wr.alloc o1).alloc o2) from fun o1 o2 => (newb wr o1).alloc (by simp) o2)
          go_wp2_with (at_builtin; refine append_tgt Tryd.underlying41 info54 _ rfl _ _ rfl (Q + 1) _ (raisedL p b k) ⟨(p.tg k).time, (p.tg k).value + b, (p.tg k).weight⟩ rfl (ownsRow_later HO.out (HNW.out _ _)) ⟨wr.heap.size + 1, 0, none⟩ rfl (three_at _ _ _ _ _ _ (by simp)) ?c2 ?c3 ?c4)
          case c2 => rw [raisedL_length]; omega
          case c3 => first | omega | (simp; omega)
          case c4 =>
            intro v2 w6 r1 r2
            obtain ⟨gg, gcap, rfl⟩ := row_form r1
            have HQ6 := Lib.hid ((HQ.out.later (HNW.out _ _)).grown (ownsRow_later HO.out (HNW.out _ _)) r2)
            have HO6 := Lib.hid r1
            have HB6 := Lib.hid ((HB.out.trans ((HNW.out _ _).mono HB.out.size)).grown r2 (Nat.le_trans HB.out.size (HNW.out _ _).size) (fun j hj => by have := (World.ownsRow.lt HO.out j hj).1; have := HQ2.out; omega))
            obtain ⟨_, _, _, _, _, h5⟩ := HQ6.out.cells
            have hf5 := HQ6.out.free 5
            clear r1 r2 k0 k1 k2 a5 g5
            go_wp2_with fail
            go_roundw
            case rel => exact ⟨k + 1, by omega, by go_num, _, HQ6.out.set5 _, by rw [raisedL_succ, List.length_append]; exact own_set HO6.out (by omega) _ _, HB6.out.setCell (p := ⟨Q, 5, none⟩) HQ2.out _⟩
            case measure => simp [intOf]; omega
        · have hle : p.m ≤ k := by omega
          have HJ := Lib.hid (show k = p.m by omega)
          obtain ⟨aa, cc, hv, hr⟩ := own_row HO.out
          rw [raisedL_length, HJ.out] at hv
          subst hv
          have HR := Lib.hid (show Row wr aa (raise p b).m 3 (tgtCell (raise p b).tg) from by
            rw [raisedL_length, HJ.out] at hr
            exact row_same hr fun i hi j hj => by unfold tgtCell; rw [raisedL_get (show i < p.m from hi)])
          have HQR := Lib.hid (show ProbBlk wr Q (raise p b) aa cc from HQ.out)
          obtain ⟨g0, g1, g2, g3, g4, g5⟩ := HQ.out.cells
          clear hr
          go_wp2_with fail
          clear a5
          refine (refproblem_any (raise p b) aa cc _ hm2 HR.out).mono ?_
          rintro e w5 ⟨rfl, hb5⟩
          have HQ5 := Lib.hid (HQ.out.later hb5)
          have HR5 := Lib.hid (HR.out.mono hb5)
          have HB5 := Lib.hid (HB.out.trans (hb5.mono HB.out.size))
          clear g0 g1 g2 g3 g4 g5 hb5
          rcases Bool.eq_false_or_eq_true (probB (raise p b)) with gr | gr
          · have HGR := Lib.hid gr
            rw [gr]
            clear gr
            obtain ⟨g0, g1, g2, g3, g4, g5⟩ := HQ5.out.cells
            go_wp2_with fail
            refine (Best_any (raise p b) aa cc _ hm2 HR5.out).mono ?_
            rintro e w6 ⟨hbest, _, hb6⟩
            obtain ⟨qw, cw, he6, hi6⟩ := hbest HGR.out
            rw [show framesN (raise p b) = F from HF.out.symm, cost_raise, ← HCC.out] at he6
            rw [show framesN (raise p b) = F from HF.out.symm] at hi6
            subst he6
            have HI6 := Lib.hid (hi6.congr (g := fun t => path p F t + b) fun t _ => path_raise p b F t)
            have HB6 := Lib.hid (HB5.out.trans (hb6.mono HB5.out.size))
            clear g0 g1 g2 g3 g4 g5 hb6 hi6 hbest
            go_wp2_with fail
            go_loopw [15] (fun u wr => ∃ k : Nat, k ≤ F ∧ u = .int .i64 k ∧ Below w6.heap.size w6 wr) (fun u _ => F - (intOf u).toNat)
            case atStart => exact ⟨0, Nat.zero_le _, rfl, Below.refl _ _⟩
            case round =>
              obtain ⟨i, hi, rfl, hb⟩ := hrel
              have HB7 := Lib.hid hb
              clear hb
              by_cases hlti : i < F
              · obtain ⟨bb, of1, rfl, hbs1, hcell1⟩ := HI2.out.at (by omega)
                obtain ⟨b2, of2, rfl, hbs2, hcell2⟩ := HI6.out.at (by omega)
                have kv : wr.cell? ⟨bb, of1 + i, none⟩ = some (.int .i64 (path p F i)) := by rw [HB7.out.cell (Nat.lt_of_lt_of_le hbs1 HB6.out.size), HB6.out.cell hbs1]; exact hcell1 i hlti
                have kw : wr.cell? ⟨b2, of2 + i, none⟩ = some (.int .i64 (path p F i + b)) := by rw [HB7.out.cell hbs2]; exact hcell2 i hlti
                have hpr := path_range p F HP.out.lh HP.out.s1 i
                clear hcell1 hcell2
                go_wp2_with fail
                go_quiet (fail)
                go_wp2_with fail
                go_roundw
                case rel => exact ⟨i + 1, by omega, by go_num, by repeat first | exact HB7.out | refine below_drewN ?_ _⟩
                case measure => simp [intOf]; omega
              · have hlei : F ≤ i := by omega
                have HBW := Lib.hid (HB2.out.trans ((HB6.out.trans (HB7.out.mono HB6.out.size)).mono HB2.out.size))
                go_wp2_with fail
                refine (known_any _ (HT.out.later HBW.out)).mono ?_
                rintro e wk ⟨rfl, hbk⟩
                have HBK := Lib.hid (HBW.out.trans (hbk.mono HBW.out.size))
                clear hbk
                go_wp2_with fail
                go_ret
                exact ⟨rfl, HBK.out⟩
          · have HBW := Lib.hid (HB2.out.trans (HB5.out.mono HB2.out.size))
            rw [gr]
            clear gr
            go_wp2_with fail
            refine (known_any _ (HT.out.later HBW.out)).mono ?_
            rintro e wk ⟨rfl, hbk⟩
            have HBK := Lib.hid (HBW.out.trans (hbk.mono HBW.out.size))
            clear hbk
            go_wp2_with fail
            go_ret
            exact ⟨rfl, HBK.out⟩

set_option maxRecDepth 100000 in
set_option maxHeartbeats 4000000 in
theorem raised_law (p : Prob) (a : Option Addr) (c : Nat) (b : Int) (w : World) (hm : p.m ≤ 9223372036854775807) (hc : Row w a p.m 3 (tgtCell p.tg)) (ht : Table w) :
    Calls Tryd.prog 9 #[.agg #[.int .i64 p.frames, .int .i64 p.low, .int .i64 p.high, .int .i64 p.slope, .int .i64 p.smooth, .slice a p.m c], .int .i64 b] w fun e w' => e = .returned (.bool true) ∧ Below w.heap.size w w' := by
  have hm' : (p.m : Int) ≤ 9223372036854775807 := by omega
  by_cases hf : p.frames ≤ 30
  · by_cases hm20 : p.m ≤ 20
    · have hm20' : (p.m : Int) ≤ 20 := by omega
      rcases Bool.eq_false_or_eq_true (probB p) with g1 | g1
      · by_cases hb : -1000 ≤ b ∧ b ≤ 1000
        · exact raised_main p a c b w hf hm20 (probB_iff.1 g1) hb.1 hb.2 hc ht
        · have HT := Lib.hid ht
          have HG1 := Lib.hid g1
          have hcase : b < -1000 ∨ (-1000 ≤ b ∧ 1000 < b) := by omega
          clear ht g1 hb
          rcases hcase with h1 | ⟨h1, h2⟩
          all_goals
            go_enter Tryd.func9, Tryd.ntmps9
            go_wp2_with fail
            refine (refproblem_any p a c _ hm (hc.mono (newb _ _))).mono ?_
            rintro e w1 ⟨rfl, hb1⟩
            have HB1 := Lib.hid ((newb w _).trans (hb1.mono (by simp)))
            clear hb1
            rw [HG1.out]
            go_wp2_with fail
            refine (known_any _ (HT.out.later HB1.out)).mono ?_
            rintro e wk ⟨rfl, hbk⟩
            have HBK := Lib.hid (HB1.out.trans (hbk.mono HB1.out.size))
            clear hbk
            go_wp2_with fail
            go_ret
            exact ⟨rfl, HBK.out⟩
      · have HT := Lib.hid ht
        have HG1 := Lib.hid g1
        clear ht g1
        go_enter Tryd.func9, Tryd.ntmps9
        go_wp2_with fail
        refine (refproblem_any p a c _ hm (hc.mono (newb _ _))).mono ?_
        rintro e w1 ⟨rfl, hb1⟩
        have HB1 := Lib.hid ((newb w _).trans (hb1.mono (by simp)))
        clear hb1
        rw [HG1.out]
        go_wp2_with fail
        refine (known_any _ (HT.out.later HB1.out)).mono ?_
        rintro e wk ⟨rfl, hbk⟩
        have HBK := Lib.hid (HB1.out.trans (hbk.mono HB1.out.size))
        clear hbk
        go_wp2_with fail
        go_ret
        exact ⟨rfl, HBK.out⟩
    · have HT := Lib.hid ht
      have hm20' : (20 : Int) < p.m := by omega
      clear ht
      go_enter Tryd.func9, Tryd.ntmps9
      go_wp2_with fail
      refine (known_any _ (HT.out.later (newb _ _))).mono ?_
      rintro e wk ⟨rfl, hbk⟩
      have HBK := Lib.hid ((newb w _).trans (hbk.mono (by simp)))
      clear hbk
      go_wp2_with fail
      go_ret
      exact ⟨rfl, HBK.out⟩
  · have HT := Lib.hid ht
    have hf' : 30 < p.frames := by omega
    clear ht
    go_enter Tryd.func9, Tryd.ntmps9
    go_wp2_with fail
    refine (known_any _ (HT.out.later (newb _ _))).mono ?_
    rintro e wk ⟨rfl, hbk⟩
    have HBK := Lib.hid ((newb w _).trans (hbk.mono (by simp)))
    clear hbk
    go_wp2_with fail
    go_ret
    exact ⟨rfl, HBK.out⟩
end Go.Proofs.YtijonghofghocaaDoor
