/-
  The walk of declaimref05.Best: the path of the search. Condition: the problem is as defined; the slice of targets reads as its elements.
-/
import Derived.Test.YtijonghofghocaaDoorRefRows
namespace Go.Proofs.YtijonghofghocaaDoor
open Go.RowKit

/-- The rows from s on hold what the search says. -/
def RDone (p : Prob) (F W : Nat) (G : Nat → Nat → Int) (s : Nat) : Prop := ∀ r j, s ≤ r → r < F → j < W → G r j = rst p (F - 1 - r) r (p.low + j)
/-- And the first i cells of row t. -/
def RTo (p : Prob) (F : Nat) (G : Nat → Nat → Int) (t i : Nat) : Prop := ∀ j, j < i → G t j = rst p (F - 1 - t) t (p.low + j)
theorem RDone.set {p : Prob} {F W : Nat} {G : Nat → Nat → Int} {t i : Nat} (h : RDone p F W G (t + 1)) (u : Int) : RDone p F W (fun r => if r = t then fun k => if k = i then u else G t k else G r) (t + 1) := fun r j h1 h2 h3 => by
  show (if r = t then fun k => if k = i then u else G t k else G r) j = _
  rw [if_neg (by omega)]
  exact h r j h1 h2 h3
theorem RTo.keep {p : Prob} {F : Nat} {G : Nat → Nat → Int} {t i : Nat} (h : RTo p F G t i) (u : Int) : RTo p F (fun r => if r = t then fun k => if k = i then u else G t k else G r) t i := fun j hj => by
  show (if t = t then fun k => if k = i then u else G t k else G t) j = _
  rw [if_pos rfl]
  show (if j = i then u else G t j) = _
  rw [if_neg (by omega)]
  exact h j hj
theorem RTo.set {p : Prob} {F : Nat} {G : Nat → Nat → Int} {t i : Nat} (h : RTo p F G t i) {u : Int} (hu : u = rst p (F - 1 - t) t (p.low + i)) : RTo p F (fun r => if r = t then fun k => if k = i then u else G t k else G r) t (i + 1) := fun j hj => by
  show (if t = t then fun k => if k = i then u else G t k else G t) j = _
  rw [if_pos rfl]
  show (if j = i then u else G t j) = _
  by_cases e : j = i
  · rw [if_pos e, hu, e]
  · rw [if_neg e]
    exact h j (by omega)
theorem RDone.down {p : Prob} {F W : Nat} {G : Nat → Nat → Int} {t : Nat} (h : RDone p F W G (t + 1)) (h2 : RTo p F G t W) : RDone p F W G t := fun r j h1 h3 h4 => by
  by_cases e : r = t
  · subst e; exact h2 j h4
  · exact h r j (by omega) h3 h4
theorem rset_at (G : Nat → Nat → Int) (t i : Nat) (u : Int) : (fun r => if r = t then fun k => if k = i then u else G t k else G r) t i = u := by simp
theorem ProbBlk.other' {w : World} {N : Nat} {p : Prob} {a : Option Addr} {c : Nat} {R j : Nat} (h : ProbBlk w N p a c) (hN : N ≠ R) (u : Value) : ProbBlk (w.setCell ⟨R, j, none⟩ u) N p a c := (Below.heap_setCell w _ _ N hN).trans h
theorem set_alloc {w : World} {R t : Nat} {v : Value} {o : Obj} (h : R < w.heap.size) : (w.setCell ⟨R, t, none⟩ v).alloc o = (w.alloc o).setCell ⟨R, t, none⟩ v :=
  (World.setCell_alloc_past o R t v h).symm
theorem RRows.at {w : World} {R F W s : Nat} {g : Nat → Nat} {G : Nat → Nat → Int} (h : RRows w R F W s g G) {t j : Nat} (h1 : s ≤ t) (h2 : t < F) (h3 : j < W) : w.cell? ⟨g t, j, none⟩ = some (.int .i64 (G t j)) := (h.row t h1 h2).2.cell h3
/-- What has been found among the first j of the values that may follow. -/
def bst (f : Int → Int) (lo : Int) : Nat → Int
  | 0 => -1
  | j + 1 => (fm f lo j).2
theorem bst_next {f : Int → Int} {lo : Int} {j : Nat} (hf : ∀ u, lo ≤ u → u ≤ lo + j → 0 ≤ f u) : bst f lo (j + 1) = if bst f lo j < 0 ∨ f (lo + j) < bst f lo j then f (lo + j) else bst f lo j := by
  cases j with
  | zero => simp [bst, fm]
  | succ j =>
    show (fm f lo (j + 1)).2 = if (fm f lo j).2 < 0 ∨ f (lo + ((j + 1 : Nat) : Int)) < (fm f lo j).2 then f (lo + ((j + 1 : Nat) : Int)) else (fm f lo j).2
    have h0 : 0 ≤ (fm f lo j).2 := by
      have := fm_range f lo j
      rw [fm_val]; exact hf _ (by omega) (by omega)
    simp only [fm]
    by_cases e : f (lo + ((j + 1 : Nat) : Int)) < (fm f lo j).2
    · rw [if_pos e, if_pos (.inr e)]
    · rw [if_neg e, if_neg (by intro h; rcases h with h | h; omega; exact e h)]
theorem bst_bd {f : Int → Int} {lo : Int} {j : Nat} {M : Int} (hM : 0 ≤ M) (hf : ∀ u, lo ≤ u → u < lo + j → 0 ≤ f u ∧ f u ≤ M) : -1 ≤ bst f lo j ∧ bst f lo j ≤ M := by
  cases j with
  | zero => simp only [bst]; omega
  | succ j =>
    show -1 ≤ (fm f lo j).2 ∧ (fm f lo j).2 ≤ M
    have h1 := fm_range f lo j
    have := hf (fm f lo j).1 (by omega) (by omega)
    rw [fm_val]
    omega

theorem rst_bd0 {p : Prob} (h : PB p) {F : Nat} {x : Int} (hF : F ≤ 200) (h1 : p.low ≤ x) (h2 : x ≤ p.high) : 0 ≤ rst p (F - 1) 0 x ∧ rst p (F - 1) 0 x ≤ 3600024000200000000 := by
  have := rst_bd' h (r := F - 1) (t := 0) (x := x) (by omega) h1 h2
  omega

set_option maxRecDepth 100000 in
set_option maxHeartbeats 16000000 in
theorem refbest_any (p : Prob) (F : Nat) (a : Option Addr) (c : Nat) (w : World) (hp : PB p) (hF : (F : Int) = p.frames) (hc : Row w a p.m 3 (tgtCell p.tg)) :
    Calls Tryd.prog 34 #[.agg #[.int .i64 p.frames, .int .i64 p.low, .int .i64 p.high, .int .i64 p.slope, .int .i64 p.smooth, .slice a p.m c]] w
      fun e w' => ∃ q cq, e = .returned (.slice q F cq) ∧ Ints w' q F (path p F) ∧ Below w.heap.size w w' := by
  obtain ⟨W, hW⟩ : ∃ W : Nat, (W : Int) = p.high - p.low + 1 := ⟨(p.high - p.low + 1).toNat, by have := hp.lh; omega⟩
  have hF2 : (F : Int) ≤ 200 := by have := hp.f2; omega
  have hF1 : 0 < F := by have := hp.f1; omega
  have hW1 : 1 ≤ W := by have := hp.lh; omega
  have hW2 : (W : Int) ≤ 401 := by have := hp.rg; omega
  have dl := hp.l1
  have dh := hp.h1
  have dlh := hp.lh
  have ds1 := hp.s1
  have ds2 := hp.s2
  have dk1 := hp.k1
  have dk2 := hp.k2
  have HP := Lib.hid hp
  have HF := Lib.hid hF
  have HW := Lib.hid hW
  have HC := Lib.hid hc
  have hmk : ∀ w, (Instr.makeSlice 83 (.int .i64 p.frames) (.int .i64 p.frames)).run Tryd.prog w = .ok (.slice (some ⟨w.heap.size, 0, none⟩) F F) (w.alloc (.cells (slots F (fun _ => .slice none 0 0)) 34)) := by
    rw [← hF]; exact make_rows F (by omega)
  have hmw : ∀ w, (Instr.makeSlice 34 (.int .i64 W) (.int .i64 W)).run Tryd.prog w = .ok (.slice (some ⟨w.heap.size, 0, none⟩) W W) (w.alloc (.cells (cellsOf W (fun _ => 0)) 3)) := make_ints W (by omega)
  have HMW := Lib.hid hmw
  have hfr : IntKind.i64.wrap (p.frames - 1) = (F : Int) - 1 := by rw [← hF]; exact IntWalk.i64_in _ (by omega)
  clear hp hF hc hmw hW
  go_enter Tryd.func34, Tryd.ntmps34
  go_wp2_with fail
  rw [← HW.out]
  clear hmk hfr
  obtain ⟨N, hN⟩ : ∃ N, N = w.heap.size := ⟨_, rfl⟩
  obtain ⟨R, hR⟩ : ∃ R, R = w.heap.size + 1 := ⟨_, rfl⟩
  rw [← hR, ← hN]
  refine wp_gen (fun w2 => RRows w2 R F W F (fun _ => 0) (fun _ _ => 0) ∧ ProbBlk w2 N p a c ∧ Below w.heap.size w w2) ⟨?_, ?_, ?_⟩ ?_
  · have h := rows_new (w.alloc (.cells #[.int .i64 p.frames, .int .i64 p.low, .int .i64 p.high, .int .i64 p.slope, .int .i64 p.smooth, .slice a p.m c] 43)) F W
    rw [hR]
    simpa using h
  · rw [hN]
    exact (show ProbBlk _ w.heap.size p a c from heap_alloc_new w _).later (newb _ _)
  · exact (newb _ _).trans ((newb _ _).mono (by simp))
  rintro w2 ⟨hr2, hn2, hb2⟩
  have HR2 := Lib.hid hr2
  have HN2 := Lib.hid hn2
  have HB2 := Lib.hid hb2
  have HRN := Lib.hid (show w.heap.size ≤ R by omega)
  have hNR : N ≠ R := by omega
  have HNR := Lib.hid (show N < R by omega)
  clear hr2 hn2 hb2 hN hR
  go_loopw [5] (fun u wr => ∃ s : Nat, s ≤ F ∧ u = .int .i64 ((s : Int) - 1) ∧ ∃ g G, RRows wr R F W s g G ∧ RDone p F W G s ∧ ProbBlk wr N p a c ∧ Below w.heap.size w wr) (fun u _ => (intOf u + 1).toNat)
  case atStart => exact ⟨F, Nat.le_refl _, rfl, _, _, HR2.out, fun r j h1 h2 _ => by omega, HN2.out, HB2.out⟩
  case round =>
    obtain ⟨s, hs, rfl, g, G, hr, hdn, hn, hb⟩ := hrel
    have HR := Lib.hid hr
    have HD := Lib.hid hdn
    have HN := Lib.hid hn
    have HB := Lib.hid hb
    obtain ⟨a0, a1, a2, a3, a4, a5⟩ := hn.cells
    clear hr hdn hn hb HR2 HN2 HB2 w2
    cases s with
    | zero =>
      rw [show (((0 : Nat) : Int) - 1) = -1 by omega]
      rw [← HF.out] at a0
      obtain ⟨wo, rfl⟩ : ∃ wo : World, wo = wr := ⟨_, rfl⟩
      obtain ⟨B, hB⟩ : ∃ B, B = wo.heap.size := ⟨_, rfl⟩
      have HBB := Lib.hid hB
      clear hB
      go_wp2_with fail
      go_loopw [10, 11] (fun o u wt => ∃ t : Nat, t ≤ F ∧ u = .int .i64 t ∧ GrowL wt B o (pathL p F t) ∧ Below wo.heap.size wo wt) (fun _ u _ => F - (intOf u).toNat)
      case atStart => exact ⟨0, Nat.zero_le _, rfl, GrowL.none _ _, Below.refl _ _⟩
      case round =>
        obtain ⟨t, htl, rfl, hown, hb⟩ := hrel
        have HO := Lib.hid hown
        have HB4 := Lib.hid hb
        have HN4 := Lib.hid (HN.out.later hb)
        have HR4 := Lib.hid (HR.out.later hb)
        clear a0 a1 a2 a3 a4 a5 hb
        obtain ⟨a0, a1, a2, a3, a4, a5⟩ := HN4.out.cells
        rw [← HF.out] at a0
        by_cases hlt : t < F
        · obtain ⟨w4, hw4⟩ : ∃ w4, w4 = wr := ⟨_, rfl⟩
          rw [← hw4] at HO HB4 HN4 HR4
          by_cases ht0 : t = 0
          · subst ht0
            subst hw4
            clear hown
            go_wp2_with fail
            clear a0 a1 a2 a3 a4 a5
            go_loopw [12, 13, 14] (fun av lv u wi => ∃ k : Nat, k ≤ W ∧ u = .int .i64 k ∧ av = .int .i64 (scan (fun _ => true) (fun k : Nat => rst p (F - 1) 0 (p.low + (k : Int))) k).1 ∧ lv = .int .i64 (scan (fun _ => true) (fun k : Nat => rst p (F - 1) 0 (p.low + (k : Int))) k).2 ∧ Below w4.heap.size w4 wi) (fun _ _ u _ => W - (intOf u).toNat)
            case atStart => exact ⟨0, Nat.zero_le _, rfl, rfl, rfl, Below.refl _ _⟩
            case round =>
              obtain ⟨k, hk, rfl, rfl, rfl, hb⟩ := hrel
              have HB5 := Lib.hid hb
              obtain ⟨a0, a1, a2, a3, a4, a5⟩ := (HN4.out.later hb).cells
              clear hb a0 a2 a5
              by_cases hltk : k < W
              · have hx : p.low + ↑k ≤ p.high := by have := HW.out; omega
                have cR := keepc HB5.out (HR4.out.cell (Nat.zero_le 0) hlt)
                have ck := keepc HB5.out (HR4.out.at (j := k) (Nat.zero_le 0) hlt hltk)
                rw [HD.out 0 k (Nat.zero_le 0) hlt hltk, Nat.sub_zero] at ck
                have hsc := scan_small (ok := (fun _ => true)) (c := (fun k : Nat => rst p (F - 1) 0 (p.low + (k : Int)))) (M := 3600024000200000000) (by omega) (k := k) fun i hi => rst_bd0 HP.out (by omega) (by have := HW.out; omega) (by have := HW.out; omega)
                obtain ⟨sa, hsa⟩ : ∃ sa, sa = (scan (fun _ => true) (fun k : Nat => rst p (F - 1) 0 (p.low + (k : Int))) k).1 := ⟨_, rfl⟩
                obtain ⟨sl, hsl⟩ : ∃ sl, sl = (scan (fun _ => true) (fun k : Nat => rst p (F - 1) 0 (p.low + (k : Int))) k).2 := ⟨_, rfl⟩
                rw [← hsa, ← hsl] at hsc
                rw [← hsa, ← hsl]
                have HSA := Lib.hid hsa
                have HSL := Lib.hid hsl
                obtain ⟨⟨s1, s2⟩, s3, s4⟩ := hsc
                clear hsa hsl
                obtain ⟨cv, hcv⟩ : ∃ cv, cv = rst p (F - 1) 0 (p.low + (k : Int)) := ⟨_, rfl⟩
                rw [← hcv] at ck
                have HCV := Lib.hid (show cv = (fun k : Nat => rst p (F - 1) 0 (p.low + (k : Int))) k from hcv)
                have HOK := Lib.hid (show (fun _ => true) k = true from rfl)
                have cb := rst_bd0 HP.out (F := F) (x := p.low + (k : Int)) (by omega) (by omega) hx
                rw [← hcv] at cb
                clear hcv a1 a3 a4
                rcases (show sa < 0 ∨ (0 ≤ sa ∧ cv < sl) ∨ (0 ≤ sa ∧ sl ≤ cv) by omega) with c1 | ⟨c1, c2⟩ | ⟨c1, c2⟩
                · have HS1 := Lib.hid (show scan (fun _ => true) (fun k : Nat => rst p (F - 1) 0 (p.low + (k : Int))) (k + 1) = ((k : Int), cv) by
                    show (if (fun _ => true) k = true ∧ ((scan (fun _ => true) (fun k : Nat => rst p (F - 1) 0 (p.low + (k : Int))) k).1 < 0 ∨ (fun k : Nat => rst p (F - 1) 0 (p.low + (k : Int))) k < (scan (fun _ => true) (fun k : Nat => rst p (F - 1) 0 (p.low + (k : Int))) k).2) then ((k : Int), (fun k : Nat => rst p (F - 1) 0 (p.low + (k : Int))) k) else scan (fun _ => true) (fun k : Nat => rst p (F - 1) 0 (p.low + (k : Int))) k) = _
                    rw [← HSA.out, ← HCV.out, if_pos ⟨HOK.out, .inl c1⟩])
                  go_wp2_with fail
                  go_roundw
                  case rel => exact ⟨k + 1, by omega, by go_num, by rw [HS1.out], by rw [HS1.out], by repeat first | exact HB5.out | refine below_drewN ?_ _⟩
                  case measure => simp [intOf]; omega
                · have HS1 := Lib.hid (show scan (fun _ => true) (fun k : Nat => rst p (F - 1) 0 (p.low + (k : Int))) (k + 1) = ((k : Int), cv) by
                    show (if (fun _ => true) k = true ∧ ((scan (fun _ => true) (fun k : Nat => rst p (F - 1) 0 (p.low + (k : Int))) k).1 < 0 ∨ (fun k : Nat => rst p (F - 1) 0 (p.low + (k : Int))) k < (scan (fun _ => true) (fun k : Nat => rst p (F - 1) 0 (p.low + (k : Int))) k).2) then ((k : Int), (fun k : Nat => rst p (F - 1) 0 (p.low + (k : Int))) k) else scan (fun _ => true) (fun k : Nat => rst p (F - 1) 0 (p.low + (k : Int))) k) = _
                    rw [← HSA.out, ← HSL.out, ← HCV.out, if_pos ⟨HOK.out, .inr c2⟩])
                  go_wp2_with fail
                  refine ⟨⟨_, _, _, ⟨k + 1, by omega, by go_num, by rw [HS1.out], by rw [HS1.out], by repeat first | exact HB5.out | refine below_drewN ?_ _⟩, rfl, rfl, by go_num⟩, by simp [intOf]; omega⟩
                · have HS1 := Lib.hid (show scan (fun _ => true) (fun k : Nat => rst p (F - 1) 0 (p.low + (k : Int))) (k + 1) = scan (fun _ => true) (fun k : Nat => rst p (F - 1) 0 (p.low + (k : Int))) k by
                    show (if (fun _ => true) k = true ∧ ((scan (fun _ => true) (fun k : Nat => rst p (F - 1) 0 (p.low + (k : Int))) k).1 < 0 ∨ (fun k : Nat => rst p (F - 1) 0 (p.low + (k : Int))) k < (scan (fun _ => true) (fun k : Nat => rst p (F - 1) 0 (p.low + (k : Int))) k).2) then ((k : Int), (fun k : Nat => rst p (F - 1) 0 (p.low + (k : Int))) k) else scan (fun _ => true) (fun k : Nat => rst p (F - 1) 0 (p.low + (k : Int))) k) = _
                    rw [← HSA.out, ← HSL.out, ← HCV.out, if_neg (fun h => by rcases h.2 with h | h <;> omega)])
                  go_wp2_with fail
                  refine ⟨⟨_, _, _, ⟨k + 1, by omega, by go_num, by rw [HS1.out, HSA.out], by rw [HS1.out, HSL.out], by repeat first | exact HB5.out | refine below_drewN ?_ _⟩, rfl, rfl, by go_num⟩, by simp [intOf]; omega⟩
              · have hlek : W ≤ k := by omega
                have hkW : k = W := by omega
                have HPA := Lib.hid (show p.low + (scan (fun _ => true) (fun k : Nat => rst p (F - 1) 0 (p.low + (k : Int))) k).1 = path p F 0 by
                  rw [hkW]
                  rw [Int.add_comm, scan_first HW.out HP.out.lh])
                have hpr := path_range p F HP.out.lh HP.out.s1 0
                obtain ⟨sa, hsa⟩ : ∃ sa, sa = (scan (fun _ => true) (fun k : Nat => rst p (F - 1) 0 (p.low + (k : Int))) k).1 := ⟨_, rfl⟩
                rw [← hsa] at HPA
                rw [← hsa]
                have hsb : 0 ≤ sa ∧ sa ≤ 400 := by have := HPA.out; have := HW.out; omega
                have HO5 := Lib.hid (HO.out.later HB5.out)
                have hBs : B ≤ wr.heap.size := by have := HBB.out; have := HB4.out.size; have := HB5.out.size; omega
                clear hsa hkW
                go_wp2_with (at_builtin; refine append_list Tryd.underlying34 info3 _ rfl _ _ rfl B _ (pathL p F 0) (path p F 0) rfl (HO5.out.later (newb _ _)) ⟨wr.heap.size, 0, none⟩ rfl ?c1 ?c2 ?c3 ?c4)
                case c1 => simp [HPA.out]
                case c2 => rw [pathL_length]; omega
                case c3 => first | omega | (simp; omega)
                case c4 =>
                  intro v' w6 hown6 hgrow
                  have HO6 := Lib.hid hown6
                  have HB6 := Lib.hid (below_grownL ((HB4.out.trans (HB5.out.mono HB4.out.size)).trans ((newb wr _).mono (Nat.le_trans HB4.out.size HB5.out.size))) (HO5.out.later (newb _ _)) hgrow (by have := HB4.out.size; have := HB5.out.size; simp; omega) (by rw [HBB.out]; exact Nat.le_refl _))
                  clear hown6 hgrow
                  go_wp2_with fail
                  go_roundw
                  case rel => exact ⟨0 + 1, by omega, by go_num, by rw [pathL_succ]; exact HO6.out, HB6.out⟩
                  case measure => simp [intOf]; omega
          · have hI : (0 : Int) < t := by omega
            obtain ⟨q, oc, ho, hq⟩ := hown.ints
            rw [pathL_length] at ho hq
            subst ho
            obtain ⟨bb, off, rfl, hbs, hcell⟩ := hq.at (by omega)
            obtain ⟨x, hx⟩ : ∃ x, x = path p F (t - 1) := ⟨_, rfl⟩
            have HXE := Lib.hid hx
            have HX := Lib.hid (show p.low ≤ x ∧ x ≤ p.high by rw [hx]; exact path_range p F HP.out.lh HP.out.s1 (t - 1))
            have HOC := Lib.hid (show wr.cell? ⟨bb, off + (t - 1), none⟩ = some (.int .i64 x) by rw [hcell (t - 1) (by omega), pathL_get (by omega), hx])
            clear hcell hx
            subst hw4
            clear hown
            have hxb := HX.out
            go_wp2_with fail
            clear a0 a1 a2 a3 a4 a5
            go_loopw [12, 13, 14] (fun av lv u wi => ∃ k : Nat, k ≤ W ∧ u = .int .i64 k ∧ av = .int .i64 (scan (nextOk p x) (nextC p (rst p (F - 1 - t) t) x) k).1 ∧ lv = .int .i64 (scan (nextOk p x) (nextC p (rst p (F - 1 - t) t) x) k).2 ∧ Below w4.heap.size w4 wi) (fun _ _ u _ => W - (intOf u).toNat)
            case atStart => exact ⟨0, Nat.zero_le _, rfl, rfl, rfl, Below.refl _ _⟩
            case round =>
              obtain ⟨k, hk, rfl, rfl, rfl, hb⟩ := hrel
              have HB5 := Lib.hid hb
              obtain ⟨a0, a1, a2, a3, a4, a5⟩ := (HN4.out.later hb).cells
              clear hb a0 a2 a5
              by_cases hltk : k < W
              · have hx : p.low + ↑k ≤ p.high := by have := HW.out; omega
                have cR := keepc HB5.out (HR4.out.cell (Nat.zero_le t) hlt)
                have ck := keepc HB5.out (HR4.out.at (j := k) (Nat.zero_le t) hlt hltk)
                rw [HD.out t k (Nat.zero_le t) hlt hltk] at ck
                have hsc := scan_small (ok := (nextOk p x)) (c := (nextC p (rst p (F - 1 - t) t) x)) (M := 3600024000200000000) (by omega) (k := k) fun i hi => by
                  rw [nextC_eq]
                  exact step_bd HP.out (by omega) (by omega) (by have := HW.out; omega) HX.out.1 HX.out.2
                obtain ⟨sa, hsa⟩ : ∃ sa, sa = (scan (nextOk p x) (nextC p (rst p (F - 1 - t) t) x) k).1 := ⟨_, rfl⟩
                obtain ⟨sl, hsl⟩ : ∃ sl, sl = (scan (nextOk p x) (nextC p (rst p (F - 1 - t) t) x) k).2 := ⟨_, rfl⟩
                rw [← hsa, ← hsl] at hsc
                rw [← hsa, ← hsl]
                have HSA := Lib.hid hsa
                have HSL := Lib.hid hsl
                obtain ⟨⟨s1, s2⟩, s3, s4⟩ := hsc
                clear hsa hsl
                obtain ⟨rv, hrv⟩ : ∃ rv, rv = rst p (F - 1 - t) t (p.low + (k : Int)) := ⟨_, rfl⟩
                rw [← hrv] at ck
                have HRV := Lib.hid hrv
                have rb := rst_bd' HP.out (r := F - 1 - t) (t := t) (x := p.low + (k : Int)) (by omega) (by omega) hx
                rw [← hrv] at rb
                have co := keepc HB5.out HOC.out
                have h0 := Lib.hid (show IntKind.i64.wrap ((t : Int) - 1) = (t : Int) - 1 from IntWalk.i64_in _ (by omega))
                have h2 := Lib.hid (show ((t : Int) - 1).toNat = t - 1 by omega)
                have e1 : (0 : Int) ≤ (t : Int) - 1 := by omega
                have e3 : (t : Int) - 1 < t := by omega
                clear hrv
                go_wp2_with fail
                have e0 := h0.out
                have e2 := h2.out
                go_quiet (fail)
                clear e0 e2
                obtain ⟨dv, hdv⟩ : ∃ dv, dv = p.low + (k : Int) - x := ⟨_, rfl⟩
                rw [← hdv]
                have HDV := Lib.hid hdv
                have hdb : -400 ≤ dv ∧ dv ≤ 400 := by have := HW.out; omega
                clear hdv
                go_wp2_with fail
                refine (in_any dv (-p.slope) p.slope _).mono ?_
                rintro e w' ⟨rfl, rfl⟩
                cases gi : inB dv (-p.slope) p.slope with
                | false =>
                  have HOK := Lib.hid (show (nextOk p x) k = false by unfold nextOk; rw [← HDV.out]; exact gi)
                  have HS1 := Lib.hid (show scan (nextOk p x) (nextC p (rst p (F - 1 - t) t) x) (k + 1) = scan (nextOk p x) (nextC p (rst p (F - 1 - t) t) x) k by
                    show (if (nextOk p x) k = true ∧ ((scan (nextOk p x) (nextC p (rst p (F - 1 - t) t) x) k).1 < 0 ∨ (nextC p (rst p (F - 1 - t) t) x) k < (scan (nextOk p x) (nextC p (rst p (F - 1 - t) t) x) k).2) then ((k : Int), (nextC p (rst p (F - 1 - t) t) x) k) else scan (nextOk p x) (nextC p (rst p (F - 1 - t) t) x) k) = _
                    rw [if_neg (fun h => by rw [HOK.out] at h; cases h.1)])
                  clear gi
                  go_wp2_with fail
                  go_roundw
                  case rel => exact ⟨k + 1, by omega, by go_num, by rw [HS1.out, HSA.out], by rw [HS1.out, HSL.out], by repeat first | exact HB5.out | refine below_drewN ?_ _⟩
                  case measure => simp [intOf]; omega
                | true =>
                  have HOK := Lib.hid (show (nextOk p x) k = true by unfold nextOk; rw [← HDV.out]; exact gi)
                  clear gi
                  have hm1 : -(1000 * 400) ≤ p.smooth * dv ∧ p.smooth * dv ≤ 1000 * 400 := mul_bd (by omega) (by omega) (by omega) (by omega)
                  have hm2 : -(400000 * 400) ≤ p.smooth * dv * dv ∧ p.smooth * dv * dv ≤ 400000 * 400 := mul_bd (by omega) (by omega) (by omega) (by omega)
                  obtain ⟨cv, hcv⟩ : ∃ cv, cv = rv + p.smooth * dv * dv := ⟨_, rfl⟩
                  have HCV := Lib.hid (show cv = (nextC p (rst p (F - 1 - t) t) x) k by rw [hcv, HRV.out, HDV.out]; rfl)
                  have cb : 0 ≤ cv ∧ cv ≤ 3600024000200000000 := by
                    rw [HCV.out, nextC_eq]
                    exact step_bd HP.out (by omega) (by omega) hx HX.out.1 HX.out.2
                  have hs9 := Lib.hid hcv
                  rcases (show sa < 0 ∨ (0 ≤ sa ∧ cv < sl) ∨ (0 ≤ sa ∧ sl ≤ cv) by omega) with c1 | ⟨c1, c2⟩ | ⟨c1, c2⟩
                  all_goals
                    rw [hcv] at cb
                  all_goals
                    first | rw [hcv] at c2 | skip
                  · have HS1 := Lib.hid (show scan (nextOk p x) (nextC p (rst p (F - 1 - t) t) x) (k + 1) = ((k : Int), cv) by
                      show (if (nextOk p x) k = true ∧ ((scan (nextOk p x) (nextC p (rst p (F - 1 - t) t) x) k).1 < 0 ∨ (nextC p (rst p (F - 1 - t) t) x) k < (scan (nextOk p x) (nextC p (rst p (F - 1 - t) t) x) k).2) then ((k : Int), (nextC p (rst p (F - 1 - t) t) x) k) else scan (nextOk p x) (nextC p (rst p (F - 1 - t) t) x) k) = _
                      rw [← HSA.out, ← HCV.out, if_pos ⟨HOK.out, .inl c1⟩])
                    clear hcv
                    go_wp2_with fail
                    go_roundw
                    case rel => exact ⟨k + 1, by omega, by go_num, by rw [HS1.out], by rw [HS1.out, hs9.out], by repeat first | exact HB5.out | refine below_drewN ?_ _⟩
                    case measure => simp [intOf]; omega
                  · have HS1 := Lib.hid (show scan (nextOk p x) (nextC p (rst p (F - 1 - t) t) x) (k + 1) = ((k : Int), cv) by
                      show (if (nextOk p x) k = true ∧ ((scan (nextOk p x) (nextC p (rst p (F - 1 - t) t) x) k).1 < 0 ∨ (nextC p (rst p (F - 1 - t) t) x) k < (scan (nextOk p x) (nextC p (rst p (F - 1 - t) t) x) k).2) then ((k : Int), (nextC p (rst p (F - 1 - t) t) x) k) else scan (nextOk p x) (nextC p (rst p (F - 1 - t) t) x) k) = _
                      rw [← HSA.out, ← HSL.out, ← HCV.out, if_pos ⟨HOK.out, .inr (by rw [hs9.out]; exact c2)⟩])
                    clear hcv
                    go_wp2_with fail
                    go_roundw
                    case rel => exact ⟨k + 1, by omega, by go_num, by rw [HS1.out], by rw [HS1.out, hs9.out], by repeat first | exact HB5.out | refine below_drewN ?_ _⟩
                    case measure => simp [intOf]; omega
                  · have HS1 := Lib.hid (show scan (nextOk p x) (nextC p (rst p (F - 1 - t) t) x) (k + 1) = scan (nextOk p x) (nextC p (rst p (F - 1 - t) t) x) k by
                      show (if (nextOk p x) k = true ∧ ((scan (nextOk p x) (nextC p (rst p (F - 1 - t) t) x) k).1 < 0 ∨ (nextC p (rst p (F - 1 - t) t) x) k < (scan (nextOk p x) (nextC p (rst p (F - 1 - t) t) x) k).2) then ((k : Int), (nextC p (rst p (F - 1 - t) t) x) k) else scan (nextOk p x) (nextC p (rst p (F - 1 - t) t) x) k) = _
                      rw [← HSA.out, ← HSL.out, ← HCV.out, if_neg (fun h => by rcases h.2 with h | h <;> omega)])
                    clear hcv
                    go_wp2_with fail
                    go_roundw
                    case rel => exact ⟨k + 1, by omega, by go_num, by rw [HS1.out, HSA.out], by rw [HS1.out, HSL.out], by repeat first | exact HB5.out | refine below_drewN ?_ _⟩
                    case measure => simp [intOf]; omega
              · have hlek : W ≤ k := by omega
                have hkW : k = W := by omega
                have HPA := Lib.hid (show p.low + (scan (nextOk p x) (nextC p (rst p (F - 1 - t) t) x) k).1 = path p F t by
                  rw [hkW]
                  rw [Int.add_comm, scan_next HW.out HX.out HP.out.s1, HXE.out]
                  have e : t = (t - 1) + 1 := by omega
                  show _ = path p F t
                  rw [e]
                  show _ = (next p (rst p (F - 1 - (t - 1 + 1)) (t - 1 + 1)) (path p F (t - 1))).1
                  rw [← e])
                have hpr := path_range p F HP.out.lh HP.out.s1 t
                obtain ⟨sa, hsa⟩ : ∃ sa, sa = (scan (nextOk p x) (nextC p (rst p (F - 1 - t) t) x) k).1 := ⟨_, rfl⟩
                rw [← hsa] at HPA
                rw [← hsa]
                have hsb : 0 ≤ sa ∧ sa ≤ 400 := by have := HPA.out; have := HW.out; omega
                have HO5 := Lib.hid (HO.out.later HB5.out)
                have hBs : B ≤ wr.heap.size := by have := HBB.out; have := HB4.out.size; have := HB5.out.size; omega
                clear hsa hkW
                go_wp2_with (at_builtin; refine append_list Tryd.underlying34 info3 _ rfl _ _ rfl B _ (pathL p F t) (path p F t) rfl (HO5.out.later (newb _ _)) ⟨wr.heap.size, 0, none⟩ rfl ?c1 ?c2 ?c3 ?c4)
                case c1 => simp [HPA.out]
                case c2 => rw [pathL_length]; omega
                case c3 => first | omega | (simp; omega)
                case c4 =>
                  intro v' w6 hown6 hgrow
                  have HO6 := Lib.hid hown6
                  have HB6 := Lib.hid (below_grownL ((HB4.out.trans (HB5.out.mono HB4.out.size)).trans ((newb wr _).mono (Nat.le_trans HB4.out.size HB5.out.size))) (HO5.out.later (newb _ _)) hgrow (by have := HB4.out.size; have := HB5.out.size; simp; omega) (by rw [HBB.out]; exact Nat.le_refl _))
                  clear hown6 hgrow
                  go_wp2_with fail
                  go_roundw
                  case rel => exact ⟨t + 1, by omega, by go_num, by rw [pathL_succ]; exact HO6.out, HB6.out⟩
                  case measure => simp [intOf]; omega
        · have hle : F ≤ t := by omega
          have HJ := Lib.hid (show t = F by omega)
          go_wp2_with fail
          obtain ⟨q, oc, ho, hq⟩ := hown.ints
          rw [pathL_length, HJ.out] at ho hq
          subst ho
          go_ret
          exact ⟨q, oc, rfl, hq.congr (g := path p F) (fun i hi => pathL_get hi), HB.out.trans (HB4.out.mono HB.out.size)⟩
    | succ t =>
      rw [show (((t + 1 : Nat) : Int) - 1) = (t : Int) by omega]
      have ht : t < F := hs
      have htF : (t : Int) < F := by omega
      have c0 := HR.out.old (t := t) (by omega) ht
      have f0 := HR.out.free t
      have hRl := HR.out.lt
      have hmw := HMW.out
      go_wp2_with fail
      clear hmw c0 f0 a0 a1 a2 a3 a4 a5
      refine wp_gen (fun w3 => RRows w3 R F W t (fun r => if r = t then wr.heap.size else g r) (fun r => if r = t then fun _ => 0 else G r) ∧ ProbBlk w3 N p a c ∧ Below w.heap.size w w3) (by
        rw [set_alloc hRl]
        exact ⟨HR.out.make ht, (HN.out.later (newb wr _)).other' hNR _, (HB.out.alloc HB.out.size _).setCell (p := ⟨R, t, none⟩) HRN.out _⟩) ?_
      obtain ⟨g2, hg2⟩ : ∃ g2, g2 = fun r => if r = t then wr.heap.size else g r := ⟨_, rfl⟩
      rw [← hg2]
      clear hg2
      rintro w3 ⟨hr3, hn3, hb3⟩
      have HR3 := Lib.hid hr3
      have HN3 := Lib.hid hn3
      have HB3 := Lib.hid hb3
      have HD3 := Lib.hid (show RDone p F W (fun r => if r = t then fun _ => 0 else G r) (t + 1) from fun r j h1 h2 h3 => by
        show (if r = t then fun _ => (0 : Int) else G r) j = _
        rw [if_neg (by omega)]
        exact HD.out r j h1 h2 h3)
      clear hr3 hn3 hb3 HR HD HN HB
      go_loopw [6] (fun u wr => ∃ i : Nat, i ≤ W ∧ u = .int .i64 i ∧ ∃ G, RRows wr R F W t g2 G ∧ RDone p F W G (t + 1) ∧ RTo p F G t i ∧ ProbBlk wr N p a c ∧ Below w.heap.size w wr) (fun u _ => W - (intOf u).toNat)
      case atStart => exact ⟨0, Nat.zero_le _, rfl, _, HR3.out, HD3.out, fun j hj => by omega, HN3.out, HB3.out⟩
      case round =>
        obtain ⟨i, hi, rfl, G1, hr, hdn, hto, hn, hb⟩ := hrel
        have HR := Lib.hid hr
        have HD := Lib.hid hdn
        have HTo := Lib.hid hto
        have HN := Lib.hid hn
        have HB := Lib.hid hb
        obtain ⟨a0, a1, a2, a3, a4, a5⟩ := hn.cells
        clear hr hdn hto hn hb HR3 HN3 HB3 HD3
        by_cases hlt : i < W
        · have hx : p.low + ↑i ≤ p.high := by have := HW.out; omega
          have cR := HR.out.cell (Nat.le_refl t) ht
          have HCr := Lib.hid (HC.out.mono HB.out)
          have q0 := later_cell a0
          have q1 := later_cell a1
          have q2 := later_cell a2
          have q3 := later_cell a3
          have q4 := later_cell a4
          have q5 := later_cell a5
          have qR := later_cell cR
          have h53 := Lib.hid (show IntKind.i64.wrap (p.low + ↑i) = p.low + ↑i from IntWalk.i64_in _ (by omega))
          go_wp2_with fail
          have e53 := h53.out
          refine wp_region_later_tail 12 (by kernel_rfl) (by kernel_rfl) ?_
          simp only [List.take_succ_cons, List.take_zero, List.drop_succ_cons, List.drop_zero]
          repeat (go_big_quiet_step ((go_at_call 61; exact Calls.later_of (here_any p t _ a c _ HP.out (by clear e53; omega) (by clear e53; omega) (HCr.out.mono (Later.below _))))))
          clear e53 q0 q1 q2 q3 q4 q5 qR
          refine wpQuiet_nil ?_
          rintro w5 ⟨x5, hx5⟩
          have hb5 : Below wr.heap.size wr w5 := hx5 ▸ x5.below
          clear hx5 x5
          have HR5 := Lib.hid (HR.out.later hb5)
          have HN5 := Lib.hid (HN.out.later hb5)
          have HB5 := Lib.hid (HB.out.trans (hb5.mono HB.out.size))
          have hgt := (HR5.out.row t (Nat.le_refl t) ht).1
          have k0 := HR5.out.at (j := i) (Nat.le_refl t) ht hlt
          have k1 := (HR5.out.row t (Nat.le_refl t) ht).2.free i
          clear hb5 a0 a1 a2 a3 a4 a5 cR
          go_upto_region 11 with (fail)
          refine wp_gen (fun w6 => ∃ G2, RRows w6 R F W t g2 G2 ∧ RDone p F W G2 (t + 1) ∧ RTo p F G2 t i ∧ G2 t i = node p t (p.low + ↑i) ∧ ProbBlk w6 N p a c ∧ Below w.heap.size w w6)
            ⟨_, HR5.out.set (Nat.le_refl t) ht hlt (node p t (p.low + ↑i)), HD.out.set _, HTo.out.keep _, rset_at _ _ _ _, HN5.out.other' (by have := HNR.out; omega) _, HB5.out.setCell (p := ⟨g2 t, i, none⟩) (by show w.heap.size ≤ g2 t; have := HRN.out; omega) _⟩ ?_
          clear HR HD HTo HN HB HR5 HN5 HB5 k0 k1 w5 G1 HCr hgt
          rintro w6 ⟨G2, hr, hdn, hto, hg, hn, hb⟩
          have HR := Lib.hid hr
          have HD := Lib.hid hdn
          have HTo := Lib.hid hto
          have HG := Lib.hid hg
          have HN := Lib.hid hn
          have HB := Lib.hid hb
          obtain ⟨a0, a1, a2, a3, a4, a5⟩ := hn.cells
          rw [← HF.out] at a0
          clear hr hdn hto hg hn hb
          by_cases hlast : t + 1 < F
          · have heq : ((t : Int) == (F : Int) - 1) = false := by simp; omega
            obtain ⟨x, hxx⟩ : ∃ x, x = p.low + ↑i := ⟨_, rfl⟩
            obtain ⟨i0, hi0⟩ : ∃ i0 : Nat, lo' p x = p.low + i0 := ⟨(lo' p x - p.low).toNat, by unfold lo'; omega⟩
            obtain ⟨n, hn⟩ : ∃ n : Nat, hi' p x = p.low + i0 + n := ⟨(hi' p x - (p.low + i0)).toNat, by rw [← hi0]; unfold hi' lo'; omega⟩
            have h0 : (i0 : Int) = max 0 ((i : Int) - p.slope) := by unfold lo' at hi0; omega
            have h1 : (i0 : Int) + n = min ((W : Int) - 1) ((i : Int) + p.slope) := by have := HW.out; unfold hi' at hn; omega
            have HX := Lib.hid hxx
            have HI0 := Lib.hid hi0
            have HIN := Lib.hid hn
            have H0 := Lib.hid h0
            have H1 := Lib.hid h1
            clear hxx hi0 hn h0 h1
            obtain ⟨ff, hff⟩ : ∃ ff, ff = step p (rst p (F - 1 - (t + 1)) (t + 1)) x := ⟨_, rfl⟩
            have HFF := Lib.hid hff
            have hfb : ∀ u, p.low ≤ u → u ≤ p.high → 0 ≤ ff u ∧ ff u ≤ 3600024000200000000 := fun u h1 h2 => by
              rw [hff]; exact step_bd HP.out (by omega) h1 h2 (by have := HX.out; omega) (by have := HX.out; omega)
            have HFB := Lib.hid hfb
            clear hff hfb
            go_wp2_with fail
            all_goals
              clear a0 a1 a2 a3 a4 a5
              go_loopw [7, 8] (fun b k wr => ∃ j : Nat, j ≤ n + 1 ∧ k = .int .i64 (i0 + j : Nat) ∧ b = .int .i64 (bst ff (p.low + i0) j) ∧ Below w6.heap.size w6 wr) (fun _ k _ => (W - intOf k).toNat)
              case atStart => exact ⟨0, by omega, by have := H0.out; congr 1; omega, rfl, Below.refl _ _⟩
              case round =>
                obtain ⟨j, hj, rfl, rfl, hb⟩ := hrel
                have HB7 := Lib.hid hb
                obtain ⟨a0, a1, a2, a3, a4, a5⟩ := (HN.out.later hb).cells
                obtain ⟨k, hk⟩ : ∃ k, k = i0 + j := ⟨_, rfl⟩
                have HK := Lib.hid hk
                rw [← hk]
                have hbb := bst_bd (f := ff) (lo := p.low + i0) (j := j) (M := 3600024000200000000) (by omega) fun u h1 h2 => HFB.out u (by omega) (by have := H1.out; have := HW.out; omega)
                obtain ⟨bb, hbb0⟩ : ∃ bb, bb = bst ff (p.low + i0) j := ⟨_, rfl⟩
                rw [← hbb0] at hbb
                rw [← hbb0]
                have HBB := Lib.hid hbb0
                clear hb hk hbb0
                by_cases hltj : j ≤ n
                · have hk1 : (k : Int) ≤ (W : Int) - 1 := by have := H1.out; have := HK.out; omega
                  have hk2 : (k : Int) ≤ (i : Int) + p.slope := by have := H1.out; have := HK.out; omega
                  have hk3 : (i : Int) - p.slope ≤ k := by have := H0.out; have := HK.out; omega
                  have hkW : k < W := by omega
                  have HR7 := Lib.hid (HR.out.later HB7.out)
                  have cR := HR7.out.cell (t := t + 1) (by omega) hlast
                  have ck := HR7.out.at (t := t + 1) (j := k) (by omega) hlast hkW
                  obtain ⟨rv, hrv⟩ : ∃ rv, rv = G2 (t + 1) k := ⟨_, rfl⟩
                  rw [← hrv] at ck
                  obtain ⟨vv, hvv⟩ : ∃ vv, vv = ff (p.low + i0 + j) := ⟨_, rfl⟩
                  have hvb := HFB.out (p.low + i0 + j) (by omega) (by have := H1.out; have := HW.out; omega)
                  rw [← hvv] at hvb
                  have hval : p.smooth * ((k : Int) - i) * ((k : Int) - i) + rv = vv := by
                    rw [hvv, hrv, HFF.out, HD.out (t + 1) k (Nat.le_refl _) hlast hkW]
                    unfold step sq
                    rw [HX.out, show p.low + (i0 : Int) + (j : Int) = p.low + (k : Int) by have := HK.out; omega, show p.low + (k : Int) - (p.low + (i : Int)) = (k : Int) - i by omega, Int.mul_assoc]
                    omega
                  have hm1 : -(1000 * 400) ≤ p.smooth * ((k : Int) - i) ∧ p.smooth * ((k : Int) - i) ≤ 1000 * 400 := mul_bd (by omega) (by omega) (by omega) (by omega)
                  have hm2 : -(400000 * 400) ≤ p.smooth * ((k : Int) - i) * ((k : Int) - i) ∧ p.smooth * ((k : Int) - i) * ((k : Int) - i) ≤ 400000 * 400 := mul_bd (by omega) (by omega) (by omega) (by omega)
                  have h9 := Lib.hid (show IntKind.i64.wrap (p.smooth * ((k : Int) - i) * ((k : Int) - i) + rv) = vv by rw [hval]; exact IntWalk.i64_in _ (by omega))
                  have h0 := Lib.hid (show IntKind.i64.wrap ((t : Int) + 1) = (t : Int) + 1 from IntWalk.i64_in _ (by omega))
                  have h2 := Lib.hid (show ((t : Int) + 1).toNat = t + 1 by omega)
                  have HVV := Lib.hid hvv
                  have HNX := Lib.hid (bst_next (f := ff) (lo := p.low + i0) (j := j) fun u h1 h2 => (HFB.out u (by omega) (by have := H1.out; have := HW.out; omega)).1)
                  clear hval hrv hvv
                  have hlastI : (t : Int) + 1 < F := by omega
                  have ht0 : (0 : Int) ≤ (t : Int) + 1 := by omega
                  go_wp2_with fail
                  all_goals
                    have e9 := h9.out
                    have e0 := h0.out
                    have e2 := h2.out
                    go_quiet (fail)
                    clear e9 e0 e2 cR ck a0 a1 a2 a3 a4 a5
                    rcases (show bb < 0 ∨ (0 ≤ bb ∧ vv < bb) ∨ (0 ≤ bb ∧ bb ≤ vv) by omega) with c1 | ⟨c1, c2⟩ | ⟨c1, c2⟩
                    · have HN1 := Lib.hid (show bst ff (p.low + i0) (j + 1) = vv by rw [HNX.out, ← HBB.out, ← HVV.out, if_pos (.inl c1)])
                      go_wp2_with fail
                      go_roundw
                      case rel => exact ⟨j + 1, by omega, by have := HK.out; congr 1; omega, by rw [HN1.out], by repeat first | exact HB7.out | refine below_drewN ?_ _⟩
                      case measure => simp [intOf]; omega
                    · have HN1 := Lib.hid (show bst ff (p.low + i0) (j + 1) = vv by rw [HNX.out, ← HBB.out, ← HVV.out, if_pos (.inr c2)])
                      go_wp2_with fail
                      go_roundw
                      case rel => exact ⟨j + 1, by omega, by have := HK.out; congr 1; omega, by rw [HN1.out], by repeat first | exact HB7.out | refine below_drewN ?_ _⟩
                      case measure => simp [intOf]; omega
                    · have HN1 := Lib.hid (show bst ff (p.low + i0) (j + 1) = bb by rw [HNX.out, ← HBB.out, ← HVV.out, if_neg (by omega)])
                      go_wp2_with fail
                      go_roundw
                      case rel => exact ⟨j + 1, by omega, by have := HK.out; congr 1; omega, by rw [HN1.out], by repeat first | exact HB7.out | refine below_drewN ?_ _⟩
                      case measure => simp [intOf]; omega
                · have hjn : j = n + 1 := by omega
                  have g0 : ((W : Int) - 1 ≤ (i : Int) + p.slope ∧ (W : Int) - 1 < k) ∨ ((i : Int) + p.slope < (W : Int) - 1 ∧ (i : Int) + p.slope < k) := by have := H1.out; have := HK.out; omega
                  have HR7 := Lib.hid (HR.out.later HB7.out)
                  have HN7 := Lib.hid (HN.out.later HB7.out)
                  have HB8 := Lib.hid (HB.out.trans (HB7.out.mono HB.out.size))
                  have cR := HR7.out.cell (Nat.le_refl t) ht
                  have ck := HR7.out.at (j := i) (Nat.le_refl t) ht hlt
                  rw [HG.out] at ck
                  have cf := (HR7.out.row t (Nat.le_refl t) ht).2.free i
                  obtain ⟨nd, hnd⟩ : ∃ nd, nd = node p t (p.low + ↑i) := ⟨_, rfl⟩
                  obtain ⟨vv, hvv⟩ : ∃ vv, vv = rst p (F - 1 - t) t (p.low + ↑i) := ⟨_, rfl⟩
                  have hvb := rst_bd' HP.out (r := F - 1 - t) (t := t) (x := p.low + ↑i) (by omega) (by omega) hx
                  rw [← hvv] at hvb
                  rw [← hnd] at ck
                  have hsum : nd + bb = vv := by
                    rw [hnd, hvv, HBB.out, hjn, show F - 1 - t = (F - 1 - (t + 1)) + 1 by omega, HFF.out, ← HX.out]
                    show node p t x + (fm _ _ n).2 = node p t x + (next p (rst p (F - 1 - (t + 1)) (t + 1)) x).2
                    unfold next
                    rw [HIN.out, HI0.out, show (p.low + (i0 : Int) + n - (p.low + i0)).toNat = n by omega]
                  have h9 := Lib.hid (show IntKind.i64.wrap (nd + bb) = vv by rw [hsum]; exact IntWalk.i64_in _ (by omega))
                  have HVV := Lib.hid hvv
                  have hgt := (HR7.out.row t (Nat.le_refl t) ht).1
                  clear hnd hvv hsum hjn
                  rcases g0 with ⟨g0, g1⟩ | ⟨g0, g1⟩
                  all_goals
                    go_wp2_with fail
                    clear a0 a1 a2 a3 a4 a5
                    have e9 := h9.out
                    go_region
                    have HRn := Lib.hid ((HR7.out.set (Nat.le_refl t) ht hlt vv).later (w' := (wr.setCell ⟨g2 t, i, none⟩ (.int .i64 vv)).drew) ⟨rfl, rfl, rfl, Nat.le_refl _, fun _ _ => rfl⟩)
                    have HNn := Lib.hid ((HN7.out.other' (R := g2 t) (j := i) (by have := HNR.out; omega) (.int .i64 vv)).later (w' := (wr.setCell ⟨g2 t, i, none⟩ (.int .i64 vv)).drew) ⟨rfl, rfl, rfl, Nat.le_refl _, fun _ _ => rfl⟩)
                    have HBn := Lib.hid ((HB8.out.setCell (p := ⟨g2 t, i, none⟩) (by show w.heap.size ≤ g2 t; have := HRN.out; omega) (.int .i64 vv)).trans (c := (wr.setCell ⟨g2 t, i, none⟩ (.int .i64 vv)).drew) ⟨rfl, rfl, rfl, Nat.le_refl _, fun _ _ => rfl⟩)
                    clear e9 cR ck cf
                    go_wp2_with fail
                    go_roundw
                    case rel => exact ⟨i + 1, by omega, by go_num, _, HRn.out, HD.out.set _, HTo.out.set HVV.out, HNn.out, HBn.out⟩
                    case measure => simp [intOf]; omega
          · have heq : ((t : Int) == (F : Int) - 1) = true := by simp; omega
            have HE := Lib.hid (show node p t (p.low + ↑i) = rst p (F - 1 - t) t (p.low + ↑i) by rw [show F - 1 - t = 0 by omega]; rfl)
            go_wp2_with fail
            go_roundw
            case rel => exact ⟨i + 1, by omega, by go_num, G2, HR.out, HD.out, fun j hj => by
              by_cases e : j = i
              · rw [e, HG.out, HE.out]
              · exact HTo.out j (by omega), HN.out, HB.out⟩
            case measure => simp [intOf]; omega
        · have hle : W ≤ i := by omega
          have HJ := Lib.hid (show i = W by omega)
          go_wp2_with fail
          go_roundw
          case rel => exact ⟨t, by omega, by go_num, g2, G1, HR.out, HD.out.down (HJ.out ▸ HTo.out), HN.out, HB.out⟩
          case measure => simp [intOf]
end Go.Proofs.YtijonghofghocaaDoor
