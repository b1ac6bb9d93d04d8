/-
  The walk of best$3 (the best next value after a value). Conditions: the problem is as defined; the blocks that the search works on lie as Sea says.
-/
import Derived.Test.YtijonghofghocaaDoorWBest
namespace Go.Proofs.YtijonghofghocaaDoor
open Go.RowKit

theorem WEff.pre {B : Nat} {v v' : Value} {w w1 w' : World} (h : WEff B v v' w1 w') (hb : Below w.heap.size w w1) : WEff B v v' w w' :=
  ⟨h.os.trans hb.os, h.tape.trans hb.tape, h.output.trans hb.output, Nat.le_trans hb.size h.size, fun k hk h1 h2 => (h.block k (Nat.lt_of_lt_of_le hk hb.size) h1 h2).trans (hb.block k hk), by
    rcases h.own with h1 | h1
    · exact .inl h1
    · exact .inr fun g hg => Nat.le_trans hb.size (h1 g hg)⟩
/-- What work on the window leaves below the window. -/
theorem WEff.below' {B : Nat} {v v' : Value} {L : List (Int × Int)} {w w' : World} (h : WEff B v v' w w') (hw : Win w B v L) : Below B w w' :=
  ⟨h.os, h.tape, h.output, h.size, fun k hk => h.block k (by have := hw.lt; omega) (by omega) fun e => by have := (World.ownsRow.lt hw.row k e).1; omega⟩
/-- A block of another kind of cells is none of the window's. -/
theorem WEff.other {B k : Nat} {v v' : Value} {L : List (Int × Int)} {w w' : World} {cs : Array Value} {t : TypeId} (h : WEff B v v' w w') (hw : Win w B v L) (hk : w.heap[k]? = some (.cells cs t (0, 0))) (h1 : t ≠ 104) (h2 : t ≠ 108) :
    w'.heap[k]? = some (.cells cs t (0, 0)) := by
  rw [h.block k (lt_of_block hk) ?_ ?_]
  · exact hk
  · rintro rfl
    have := hw.blk
    rw [hk] at this
    simp only [Option.some.injEq, Obj.cells.injEq] at this
    exact h2 this.2.1
  · intro e
    rcases hw.row.2 with ⟨hv, _⟩ | ⟨g, c, cur, hv, _, hgb, _⟩
    · rw [hv] at e; cases e
    · rw [hv] at e
      have : g = k := by simpa [Value.ownBlock] using e
      subst this
      rw [hk] at hgb
      simp only [Option.some.injEq, Obj.cells.injEq] at hgb
      exact h1 hgb.2.1
/-- The blocks that the search works on: the costs in block A, the boxes behind it, the window. -/
structure Sea (w0 w : World) (A F W Bw : Nat) (G : Nat → Int) (v : Value) (L : List (Int × Int)) : Prop where
  below : Below A w0 w
  dat : Blk w A (F * W) G
  all : w.heap[A + 1]? = some (.cells #[.slice (some ⟨A, 0, none⟩) (F * W) (F * W)] 34 (0, 0))
  row : w.heap[A + 2]? = some (.cells #[.func (.func 74) #[] #[.pointer (some ⟨A + 1, 0, none⟩), .pointer (some ⟨Bw, 0, none⟩)]] 101 (0, 0))
  win : Win w (A + 3) v L
  box : w.heap[A + 4]? = some (.cells #[.pointer (some ⟨A + 3, 0, none⟩)] 102 (0, 0))
theorem Sea.took {w0 w w' : World} {A F W Bw : Nat} {G : Nat → Int} {v v' : Value} {L L' : List (Int × Int)} (h : Sea w0 w A F W Bw G v L) (hw : Win w' (A + 3) v' L') (he : WEff (A + 3) v v' w w') : Sea w0 w' A F W Bw G v' L' :=
  ⟨h.below.trans ((he.below' h.win).mono (by omega)), he.other h.win h.dat (by decide) (by decide), he.other h.win h.all (by decide) (by decide), he.other h.win h.row (by decide) (by decide), hw, he.other h.win h.box (by decide) (by decide)⟩
theorem Sea.later {w0 w w' : World} {A F W Bw : Nat} {G : Nat → Int} {v : Value} {L : List (Int × Int)} (h : Sea w0 w A F W Bw G v L) (hb : Below w.heap.size w w') : Sea w0 w' A F W Bw G v L :=
  ⟨h.below.trans (hb.mono (Nat.le_of_lt h.dat.lt)), h.dat.later hb, block_later h.all hb, block_later h.row hb, h.win.later hb, block_later h.box hb⟩

theorem Sea.prob {w0 w : World} {A F W Bw Bp : Nat} {G : Nat → Int} {v : Value} {L : List (Int × Int)} {p : Prob} {a : Option Addr} {c : Nat} (h : Sea w0 w A F W Bw G v L) (hA : A = w0.heap.size) (hp : ProbBlk w0 Bp p a c) : ProbBlk w Bp p a c :=
  (h.below.block Bp (by have := hp.lt; omega)).trans hp
theorem Sea.cell4 {w0 w : World} {A F W Bw : Nat} {G : Nat → Int} {v : Value} {L : List (Int × Int)} (h : Sea w0 w A F W Bw G v L) : w.cell? ⟨A + 4, 0, none⟩ = some (.pointer (some ⟨A + 3, 0, none⟩)) := by simp [World.cell?, h.box]

theorem cands_cons (g : Int → Int) (lo : Int) (n : Nat) : cands g lo (n + 1) = (lo, g lo) :: (cands g lo (n + 1)).tail := by
  unfold cands
  rw [List.range_succ_eq_map]
  simp
theorem Win.other {w : World} {B : Nat} {v : Value} {L : List (Int × Int)} (h : Win w B v L) {a : Addr} (h1 : B ≠ a.block) (h2 : v.ownBlock ≠ some a.block) (u : Value) : Win (w.setCell a u) B v L := by
  refine ⟨(Below.heap_setCell w a u B h1).trans h.blk, h.row.1, ?_⟩
  rcases h.row.2 with hn | ⟨g, c, cur, hv, hb', hgb, rest⟩
  · exact .inl hn
  · exact .inr ⟨g, c, cur, hv, hb', by rw [Below.heap_setCell w a u g (fun e => h2 (by rw [hv, ← e]; rfl))]; exact hgb, rest⟩

set_option maxRecDepth 100000 in
set_option maxHeartbeats 4000000 in
theorem next_any (p : Prob) (a : Option Addr) (c A F W Bp Bw t : Nat) (x : Int) (G : Nat → Int) (v : Value) (w0 w : World) (hp : PB p) (hF : (F : Int) = p.frames) (hW : (W : Int) = p.high - p.low + 1) (ht : t < F)
    (hx1 : p.low ≤ x) (hx2 : x ≤ p.high) (hpb : ProbBlk w0 Bp p a c) (hwb : w0.cell? ⟨Bw, 0, none⟩ = some (.int .i64 W)) (hA : A = w0.heap.size) (hs : Sea w0 w A F W Bw G v [])
    (hG : ∀ i, i < W → 0 ≤ G (t * W + i) ∧ G (t * W + i) ≤ 3600024000040000000) :
    Calls Tryd.prog 76 #[.int .i64 t, .int .i64 x, .pointer (some ⟨A + 2, 0, none⟩), .pointer (some ⟨Bp, 0, none⟩), .pointer (some ⟨A + 4, 0, none⟩)] w (Took (A + 3) v (next p (fun u => G (t * W + (u - p.low).toNat)) x) w) := by
  have hF' : F ≤ 200 := by have := hp.f2; omega
  have hW' : W ≤ 401 := by have := hp.rg; omega
  have hW1 : 1 ≤ W := by have := hp.lh; omega
  have HP := Lib.hid hp
  have HS := Lib.hid hs
  have HW := Lib.hid hW
  have HG := Lib.hid hG
  have HA := Lib.hid hA
  have hpl := hpb.lt
  have hwl := World.block_lt_of_cell? w0 _ hwb
  have hpb1 : ProbBlk w Bp p a c := (hs.below.block Bp (by omega)).trans hpb
  have hwb1 : w.cell? ⟨Bw, 0, none⟩ = some (.int .i64 W) := (hs.below.cell (p := ⟨Bw, 0, none⟩) (by rw [hA]; exact hwl)).trans hwb
  have c2 : w.cell? ⟨A + 2, 0, none⟩ = some (.func (.func 74) #[] #[.pointer (some ⟨A + 1, 0, none⟩), .pointer (some ⟨Bw, 0, none⟩)]) := by simp [World.cell?, hs.row]
  have c4 : w.cell? ⟨A + 4, 0, none⟩ = some (.pointer (some ⟨A + 3, 0, none⟩)) := by simp [World.cell?, hs.box]
  have c1 : w.cell? ⟨A + 1, 0, none⟩ = some (.slice (some ⟨A, 0, none⟩) (F * W) (F * W)) := by simp [World.cell?, hs.all]
  have HPB := Lib.hid hpb1
  obtain ⟨a0, a1, a2, a3, a4, a5⟩ := hpb1.cells
  have d1 := hp.l1
  have d2 := hp.h1
  have d3 := hp.s1
  have d4 := hp.s2
  have d5 := hp.lh
  have s2 : A + 2 < w.heap.size := lt_of_block hs.row
  have s4 : A + 4 < w.heap.size := lt_of_block hs.box
  have sp : Bp < w.heap.size := hpb1.lt
  have s3 : A + 3 < w.heap.size := by omega
  have hown : ∀ k, v.ownBlock = some k → k < w.heap.size := fun k hk => (World.ownsRow.lt hs.win.row k hk).2
  have HOWN := Lib.hid hown
  obtain ⟨i0, hi0⟩ : ∃ i0 : Nat, lo' p x = p.low + i0 := ⟨(lo' p x - p.low).toNat, by unfold lo'; omega⟩
  obtain ⟨n, hn⟩ : ∃ n : Nat, hi' p x = p.low + i0 + n := ⟨(hi' p x - (p.low + i0)).toNat, by rw [← hi0]; unfold hi' lo'; omega⟩
  have hnx : next p (fun u => G (t * W + (u - p.low).toNat)) x = fm (step p (fun u => G (t * W + (u - p.low).toNat)) x) (p.low + i0) n := by
    unfold next
    rw [hi0, hn]
    congr 1
    omega
  rw [hnx]
  have f3 : p.low + i0 + n ≤ p.high := by rw [← hn]; unfold hi'; omega
  have f4 : p.low + i0 + n ≤ x + p.slope := by rw [← hn]; unfold hi'; omega
  have f1 : x - p.slope ≤ p.low + i0 := by rw [← hi0]; unfold lo'; omega
  have hlo : i0 = 0 ∨ p.low + i0 ≤ x - p.slope := by unfold lo' at hi0; omega
  have hhi : p.low + i0 + n = p.high ∨ x + p.slope ≤ p.low + i0 + n := by unfold hi' at hn; omega
  have HLO := Lib.hid hlo
  have HHI := Lib.hid hhi
  have fW : i0 + n < W := by omega
  have HPB0 := Lib.hid hpb
  have hpl1 : 0 ≤ p.smooth := hp.k1
  have hpl2 : p.smooth ≤ 1000 := hp.k2
  have d6 := hp.rg
  clear hp hs hpb hpb1 hwb hF hW hG hA a0 a5 hown hnx hi0 hn hlo hhi
  go_enter Tryd.func76, Tryd.ntmps76
  go_wp2_with (go_at_call 74; refine (rowt_any A (A + 1) Bw F W t _ hF' hW' hW1 ht (keepc (newb _ _) c1) (keepc (newb _ _) hwb1)).mono ?_; rintro e w' ⟨rfl, rfl⟩)
  all_goals
    refine wp_gen (fun w1 => Sea w0 w1 A F W Bw G v [] ∧ Below w.heap.size w w1 ∧ WayBox w1 w.heap.size (0, 0)) ⟨HS.out.later (newb _ _), newb _ _, wayBox_new w (0, 0)⟩ ?_
    rintro w1 ⟨hs1, hb1, hy1⟩
    have HS1 := Lib.hid hs1
    have HB1 := Lib.hid hb1
    have HY1 := Lib.hid hy1
    have e1 := hb1.size
    clear hs1 hb1 hy1 hwb1 c1 c2 c4 a1 a2 a3 a4
    go_loopw [9] (fun u wr => ∃ k : Nat, k ≤ n + 1 ∧ u = .int .i64 (p.low + (i0 + k : Nat)) ∧ ∃ v', Sea w0 wr A F W Bw G v' (cands (step p (fun u => G (t * W + (u - p.low).toNat)) x) (p.low + i0) k) ∧ WEff (A + 3) v v' w1 wr) (fun u _ => (p.low + i0 + n + 1 - intOf u).toNat)
    case atStart =>
      refine ⟨0, by omega, ?_, v, HS1.out, WEff.refl _ _ _⟩
      have := HLO.out
      congr 1
      omega
    case round =>
      obtain ⟨k, hk, rfl, v', hs', he'⟩ := hrel
      have HS2 := Lib.hid hs'
      have HE2 := Lib.hid he'
      obtain ⟨i, hi⟩ : ∃ i, i = i0 + k := ⟨_, rfl⟩
      have HI := Lib.hid hi
      rw [← hi]
      have hpb := hs'.prob HA.out HPB0.out
      obtain ⟨a0, a1, a2, a3, a4, a5⟩ := hpb.cells
      have c4 := hs'.cell4
      clear hs' he' hi hpb a0 a5
      by_cases hlt : k ≤ n
      · have hi1 : i0 ≤ i := by have := HI.out; omega
        have hi2 : i ≤ i0 + n := by have := HI.out; omega
        have k0 := HS2.out.dat.cell (j := t * W + i) (by
          have h1 : (t + 1) * W ≤ F * W := Nat.mul_le_mul_right _ ht
          have h2 : (t + 1) * W = t * W + W := by rw [Nat.add_mul, Nat.one_mul]
          omega)
        have gb := HG.out i (by omega)
        have HT := Lib.hid (show 0 ≤ (p.low + ↑i) - x + 400 ∧ (p.low + ↑i) - x ≤ 400 by omega)
        have bd := wsq_bd (w := p.smooth) (x := p.low + ↑i - x) (W := 1000) (B := 400) (by omega) (by omega) (by omega) (by omega)
        have e37 : IntKind.i64.wrap (p.low + ↑i - p.low) = (i : Int) := by rw [IntWalk.i64_in _ (by omega)]; omega
        have e44 : IntKind.i64.wrap (p.low + ↑i - x) = p.low + ↑i - x := IntWalk.i64_in _ (by omega)
        have e46 : IntKind.i64.wrap (p.smooth * sq (p.low + ↑i - x)) = p.smooth * sq (p.low + ↑i - x) := IntWalk.i64_in _ (by omega)
        have e47 : IntKind.i64.wrap (G (t * W + i) + p.smooth * sq (p.low + ↑i - x)) = G (t * W + i) + p.smooth * sq (p.low + ↑i - x) := IntWalk.i64_in _ (by omega)
        have H37 := Lib.hid e37
        have H44 := Lib.hid e44
        have H46 := Lib.hid e46
        have H47 := Lib.hid e47
        clear e37 e44 e46 e47
        have q1 := later_cell a1
        have q4 := later_cell a4
        have q5 := later_cell c4
        have q6 := later_cell k0
        go_wp2_with fail
        all_goals
          have e37 := H37.out
          have e44 := H44.out
          have e46 := H46.out
          have e47 := H47.out
          refine wp_region_later_tail 18 (by kernel_rfl) (by kernel_rfl) ?_
          simp only [List.take_succ_cons, List.take_zero, List.drop_succ_cons, List.drop_zero]
          repeat (go_big_quiet_step ((go_at_call 59; exact Calls.later_same (square_q _ _ (by have := HT.out; omega) (by have := HT.out; omega)))))
          clear e37 e44 e46 e47 q1 q4 q5 q6
          refine wpQuiet_nil ?_
          rintro w3 ⟨x3, hx⟩
          have hb3 : Below wr.heap.size wr w3 := hx ▸ x3.below
          clear hx x3
          have HS3 := Lib.hid (HS2.out.later hb3)
          have HE3 := Lib.hid (HE2.out.below (hb3.mono HE2.out.size))
          have HL := Lib.hid (cands_succ (step p (fun u => G (t * W + (u - p.low).toNat)) x) (p.low + ↑i0) k)
          have HV := Lib.hid (show ((p.low + ↑i0 + ↑k, step p (fun u => G (t * W + (u - p.low).toNat)) x (p.low + ↑i0 + ↑k)) : Int × Int) = (p.low + ↑i, G (t * W + i) + p.smooth * sq (p.low + ↑i - x)) by
            have h0 : p.low + ↑i0 + ↑k = p.low + ↑i := by have := HI.out; omega
            have h1 : (p.low + ↑i - p.low).toNat = i := by omega
            simp only [step, h0, h1])
          clear hb3 a1 a2 a3 a4 c4 k0
          go_wp2_with (go_at_call 77; refine (push_any (A + 3) v' _ (p.low + ↑i, G (t * W + i) + p.smooth * sq (p.low + ↑i - x)) w3 HS3.out.win (by simp [cands]; omega)).mono ?_; rintro e w4 ⟨v4, rfl, p1, p2⟩)
          go_roundw
          case rel =>
            refine ⟨k + 1, by omega, ?_, v4, HS3.out.took (by rw [HL.out, HV.out]; exact p1) p2, HE3.out.trans p2⟩
            have := HI.out
            congr 1
            omega
          case measure => have := HI.out; simp [intOf]; omega
      · have hi1 : i = i0 + n + 1 := by have := HI.out; omega
        have HN := Lib.hid (show k = n + 1 by omega)
        have HI2 := Lib.hid hi1
        clear hi1
        have HWN := Lib.hid (show Win wr (A + 3) v' ((p.low + ↑i0, step p (fun u => G (t * W + (u - p.low).toNat)) x (p.low + ↑i0)) :: (cands (step p (fun u => G (t * W + (u - p.low).toNat)) x) (p.low + ↑i0) (n + 1)).tail) by
          rw [← cands_cons, ← HN.out]; exact HS2.out.win)
        have HFB := Lib.hid (fb_cands (step p (fun u => G (t * W + (u - p.low).toNat)) x) (p.low + ↑i0) n)
        have HLT := Lib.hid (show (cands (step p (fun u => G (t * W + (u - p.low).toNat)) x) (p.low + ↑i0) (n + 1)).tail.length ≤ 100000 by simp [cands]; omega)
        have g0 : (p.high ≤ x + p.slope ∧ p.high < p.low + i) ∨ (x + p.slope < p.high ∧ x + p.slope < p.low + i) := by have := HI2.out; have := HHI.out; omega
        rcases g0 with ⟨hm, g1⟩ | ⟨hm, g1⟩
        all_goals
          go_wp2_with fail
          all_goals
            refine (wbest_any (A + 3) v' _ _ wr HWN.out HLT.out).mono ?_
            rintro e w4 ⟨v4, rfl, p1, p2⟩
            rw [HFB.out]
            obtain ⟨r, hr⟩ : ∃ r, r = fm (step p (fun u => G (t * W + (u - p.low).toNat)) x) (p.low + ↑i0) n := ⟨_, rfl⟩
            rw [← hr]
            have HR := Lib.hid hr
            have HWF := Lib.hid (HE2.out.trans p2)
            have HW4 := Lib.hid p1
            have HY4 := Lib.hid (show WayBox w4 w.heap.size (0, 0) from (HWF.out.block w.heap.size HY1.out.lt (by omega) (fun e => by have := HOWN.out _ e; omega)).trans HY1.out)
            obtain ⟨y0, y1, y2, y3⟩ := HY4.out.cells
            have hne : v4.ownBlock ≠ some w.heap.size := fun e => by
              rcases HWF.out.own with h | h
              · have := HOWN.out _ (h ▸ e); omega
              · have := h _ e
                have := HY1.out.lt
                omega
            have HNE := Lib.hid hne
            clear p1 p2 hr hne a1 a2 a3 a4 c4
            go_wp2_with fail
            refine bodyPost_ret (v := .agg #[.int .i64 r.1, .int .i64 r.2]) (by simp [results, Tryd.results76, go_sem, y0, y1]) rfl ⟨_, by rw [HR.out], (HW4.out.other ?_ ?_ _).other ?_ ?_ _, (HWF.out.pre HB1.out).below (((Below.refl _ _).setCell (by simp) _).setCell (by simp) _)⟩
            · show A + 3 ≠ w.heap.size; omega
            · exact HNE.out
            · show A + 3 ≠ w.heap.size; omega
            · exact HNE.out
end Go.Proofs.YtijonghofghocaaDoor
