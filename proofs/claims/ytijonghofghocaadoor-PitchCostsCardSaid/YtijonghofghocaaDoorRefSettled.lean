/-
  The walk of declaimref05.Settled: no shift of neighbouring values is a contour that costs less. Conditions: the problem is as defined, the list is a contour; the slices read as their elements.
-/
import Derived.Test.YtijonghofghocaaDoorPSettled
namespace Go.Proofs.YtijonghofghocaaDoor
open Go.RowKit

/-- Block G holds n integers, and perhaps more behind them. -/
def Lst (w : World) (G n : Nat) (F : Nat → Int) : Prop := ∃ cur : Array Value, w.heap[G]? = some (.cells cur 3 (0, 0)) ∧ ∀ j, j < n → cur[j]? = some (.int .i64 (F j))
theorem Lst.lt {w : World} {G n : Nat} {F : Nat → Int} (h : Lst w G n F) : G < w.heap.size := lt_of_block h.choose_spec.1
theorem Lst.cell {w : World} {G n : Nat} {F : Nat → Int} (h : Lst w G n F) {j : Nat} (hj : j < n) : w.cell? ⟨G, j, none⟩ = some (.int .i64 (F j)) := by
  obtain ⟨cur, h1, h2⟩ := h
  simp only [World.cell?, h1]
  exact h2 j hj
theorem Lst.free {w : World} {G n : Nat} {F : Nat → Int} (h : Lst w G n F) (j : Nat) : w.frozen? ⟨G, j, none⟩ = false := by
  obtain ⟨cur, h1, h2⟩ := h
  simp [World.frozen?, h1]
theorem Lst.later {w w' : World} {G n : Nat} {F : Nat → Int} (h : Lst w G n F) (hb : Below w.heap.size w w') : Lst w' G n F := by
  obtain ⟨cur, h1, h2⟩ := h
  exact ⟨cur, block_later h1 hb, h2⟩
theorem Lst.set {w : World} {G n : Nat} {F : Nat → Int} (h : Lst w G n F) {j : Nat} (hj : j < n) (u : Int) : Lst (w.setCell ⟨G, j, none⟩ (.int .i64 u)) G n (fun i => if i = j then u else F i) := by
  obtain ⟨cur, h1, h2⟩ := h
  refine ⟨_, heap_setCell_same w G j _ 3 _ h1, fun i hi => ?_⟩
  have hjs : j < cur.size := (Array.getElem?_eq_some_iff.1 (h2 j hj)).1
  show _ = some (Value.int .i64 (if i = j then u else F i))
  by_cases e : i = j
  · rw [if_pos e, e]
    simp [hjs]
  · rw [if_neg e, Array.getElem?_setIfInBounds, if_neg (fun q => e q.symm)]
    exact h2 i hi
theorem Lst.congr {w : World} {G n : Nat} {F F' : Nat → Int} (h : Lst w G n F) (e : ∀ i, i < n → F i = F' i) : Lst w G n F' := by
  obtain ⟨cur, h1, h2⟩ := h
  exact ⟨cur, h1, fun j hj => by rw [← e j hj]; exact h2 j hj⟩
theorem Lst.ints {w : World} {G n : Nat} {F : Nat → Int} (h : Lst w G n F) : Ints w (some ⟨G, 0, none⟩) n F :=
  .inr ⟨G, 0, rfl, h.lt, fun i hi => by rw [Nat.zero_add]; exact h.cell hi⟩
/-- append([]int(nil), v...): a copy in a new block. -/
theorem append_copy {P : Program} (hP : P.underlying 34 = some (.slice 3)) (hI : (P.info? 3).map (fun i => (i.zero, i.size, i.bytes)) = some (some (.int .i64 0), 1, 8)) (w : World) {ops : Array Oper} {rest : List Oper} {o : Oper} {a : Act} {Q : Exit → Act → World → Prop}
    (hgd : o.guard = none) (s x : Operand) (ho : o.op = .call { callee := .builtin .append, args := #[s, x], argTypes := #[34, 34] })
    (n : Nat) (F : Nat → Int) (b off c : Nat) (hs : a.eval s = .slice none 0 0) (hx : a.eval x = .slice (some ⟨b, off, none⟩) n c) (hc : ∀ i, i < n → w.cell? ⟨b, off + i, none⟩ = some (.int .i64 (F i))) (h1n : 1 ≤ n) (hn : n ≤ 1000000)
    (h : ∀ G cap w', w.heap.size ≤ G → Lst w' G n F → Below w.heap.size w w' → wpList P ops Q rest (a.put o.dst (.slice (some ⟨G, 0, none⟩) n cap)) w') : wpList P ops Q (o :: rest) a w := by
  obtain ⟨i0, hi, hz0, hz1, hz2⟩ := info_parts hI
  refine wpList_append_own w hgd s x 34 ho w.heap.size 3 i0 (.int .i64 0) 1 8 hP hi hz0 hz1 hz2 rfl (by decide) (.slice none 0 0) 0 [] hs (World.ownsRow_nil w w.heap.size 3 1) ⟨b, off, none⟩ n c (rowOf n F) hx (by simp [rowOf]) ?_ ?_ (by unfold maxLen; omega) (by omega) (Nat.le_refl _) ?_
  · intro j u hj
    have hjn : j < n := by
      have := (List.getElem?_eq_some_iff.1 hj).1
      simpa [rowOf] using this
    rw [rowOf_get hjn] at hj
    cases hj
    have e : (⟨b, off, none⟩ : Addr).add j = ⟨b, off + j, none⟩ := by unfold Addr.add; split <;> simp_all
    rw [e]
    exact hc j hjn
  · intro u hu
    simp [rowOf] at hu
    obtain ⟨_, _, rfl⟩ := hu
    rfl
  · intro v' w' h1 h2 _
    rcases h1.2 with ⟨_, h0⟩ | ⟨g, cap, cur, rfl, hb, hgb, _⟩
    · omega
    · rw [Nat.zero_add] at h1 ⊢
      refine h g cap w' hb ⟨cur, hgb, fun j hj => ?_⟩ ((Below.refl _ _).grown h2 (Nat.le_refl _) (fun k hk => by simp [Value.ownBlock] at hk))
      have := World.ownsRow.cellAt h1 j (by omega)
      rw [List.nil_append, rowOf_get hj] at this
      simp only [World.cell?, hgb] at this
      exact this

/-- The ways, as the specification goes through them. -/
def de (s : Nat) : Int := 2 * (s : Int) - 1
theorem de_or {s : Nat} (h : s < 2) : de s = 1 ∨ de s = -1 := by unfold de; omega
theorem de_all {p : Prob} {n : Nat} {v : Nat → Int} {i j : Nat} (h : ∀ s, s < 2 → ¬ bad p n v i j (de s)) (d : Int) (hd : d = 1 ∨ d = -1) : ¬ bad p n v i j d := by
  rcases hd with rfl | rfl
  · exact h 1 (by omega)
  · exact h 0 (by omega)

set_option maxRecDepth 100000 in
set_option maxHeartbeats 8000000 in
theorem refsettled_any (p : Prob) (n : Nat) (v : Nat → Int) (a q : Option Addr) (c cq : Nat) (w : World) (hp : PB p) (hn : (n : Int) = p.frames) (hv : okN p n v) (hc : Row w a p.m 3 (tgtCell p.tg)) (hq : Ints w q n v) :
    Calls Tryd.prog 31 #[.agg #[.int .i64 p.frames, .int .i64 p.low, .int .i64 p.high, .int .i64 p.slope, .int .i64 p.smooth, .slice a p.m c], .slice q n cq] w
      fun e w' => (∃ b : Bool, (b = true ↔ settledN p n v) ∧ e = .returned (.bool b)) ∧ Below w.heap.size w w' := by
  have hn' : (n : Int) ≤ 200 := by have := hp.f2; omega
  have h1n : 0 < n := by have := hp.f1; omega
  obtain ⟨C, hC⟩ : ∃ C, C = costN p n v := ⟨_, rfl⟩
  have HC := Lib.hid hC
  have HP := Lib.hid hp
  have HV := Lib.hid hv
  have HF := Lib.hid hn
  have HQ := Lib.hid hq
  have dl := hp.l1
  have dh := hp.h1
  have dr := hp.rg
  clear hp hv hn hq hC
  go_enter Tryd.func31, Tryd.ntmps31
  go_wp2_with fail
  have h0 : ProbBlk (w.alloc (.cells #[.int .i64 p.frames, .int .i64 p.low, .int .i64 p.high, .int .i64 p.slope, .int .i64 p.smooth, .slice a p.m c] 43)) w.heap.size p a c := heap_alloc_new _ _
  refine (refcost_any p n v a q c cq _ HP.out HF.out HV.out (hc.mono (newb _ _)) (HQ.out.mono (newb _ _))).mono ?_
  rintro e w1 ⟨rfl, hb1⟩
  rw [← HC.out]
  have HN1 := Lib.hid (h0.later hb1)
  have HB1 := Lib.hid ((newb w _).trans (hb1.mono (by simp)))
  have HQ1 := Lib.hid (HQ.out.mono HB1.out)
  have HR1 := Lib.hid (hc.mono HB1.out)
  clear h0 hb1
  obtain ⟨N, hN⟩ : ∃ N, N = w.heap.size := ⟨_, rfl⟩
  rw [← hN] at HN1
  rw [← hN]
  clear hN
  go_wp2_with fail
  go_loopw [6] (fun u wr => ∃ i : Nat, i ≤ n ∧ u = .int .i64 i ∧ (∀ i', i' < i → ∀ j, i' ≤ j → j < n → ∀ d : Int, d = 1 ∨ d = -1 → ¬ bad p n v i' j d) ∧ Below w1.heap.size w1 wr) (fun u _ => n - (intOf u).toNat)
  case atStart => exact ⟨0, by omega, rfl, fun r hr => by omega, Below.refl _ _⟩
  case round =>
    obtain ⟨i, hi, rfl, hbad, hb⟩ := hrel
    have HAI := Lib.hid hbad
    have HBI := Lib.hid hb
    clear hbad hb
    by_cases hlt : i < n
    · go_wp2_with fail
      go_loopw [7] (fun u wr => ∃ j : Nat, i ≤ j ∧ j ≤ n ∧ u = .int .i64 j ∧ (∀ j', i ≤ j' → j' < j → ∀ d : Int, d = 1 ∨ d = -1 → ¬ bad p n v i j' d) ∧ Below w1.heap.size w1 wr) (fun u _ => n - (intOf u).toNat)
      case atStart => exact ⟨i, Nat.le_refl _, hi, rfl, fun r h1 h2 => by omega, HBI.out⟩
      case round =>
        obtain ⟨j, hij, hj, rfl, hbad, hb⟩ := hrel
        have HAJ := Lib.hid hbad
        have HBJ := Lib.hid hb
        clear hbad hb
        by_cases hltj : j < n
        · go_wp2_with fail
          go_loopw [8] (fun u wr => ∃ s : Nat, s ≤ 2 ∧ u = .int .i64 (de s) ∧ (∀ r, r < s → ¬ bad p n v i j (de r)) ∧ Below w1.heap.size w1 wr) (fun u _ => (3 - intOf u).toNat)
          case atStart => exact ⟨0, by omega, rfl, fun r hr => by omega, HBJ.out⟩
          case round =>
            obtain ⟨s, hs, rfl, hbad, hb⟩ := hrel
            have HAS := Lib.hid hbad
            have HBS := Lib.hid hb
            clear hbad hb
            by_cases hs2 : s < 2
            · obtain ⟨d, hd⟩ : ∃ d, d = de s := ⟨_, rfl⟩
              have hdo : d = 1 ∨ d = -1 := by rw [hd]; exact de_or hs2
              have HDD := Lib.hid hd
              rw [← hd]
              clear hd
              obtain ⟨b, off, rfl, hbs, hcell⟩ := HQ1.out.at (by omega)
              have hcr : ∀ t, t < n → wr.cell? ⟨b, off + t, none⟩ = some (.int .i64 (v t)) := fun t ht => by rw [HBS.out.cell hbs]; exact hcell t ht
              have HCR := Lib.hid hcr
              clear hcell hcr
              go_wp2_with (at_builtin; refine append_copy Tryd.underlying34 info3 _ rfl _ _ rfl n v b off cq rfl rfl HCR.out (by omega) (by omega) ?_)
              intro G cap w2 hG hL hb2
              have HL2 := Lib.hid hL
              have HB2 := Lib.hid (HBS.out.trans (hb2.mono HBS.out.size))
              have HG := Lib.hid (Nat.le_trans HBS.out.size hG)
              clear hL hb2 hG
              go_wp2_with fail
              go_loopw [10] (fun u wr => ∃ k : Nat, i ≤ k ∧ k ≤ j + 1 ∧ u = .int .i64 k ∧ Lst wr G n (fun t => if i ≤ t ∧ t < k then v t + d else v t) ∧ Below w1.heap.size w1 wr) (fun u _ => j + 1 - (intOf u).toNat)
              case atStart => exact ⟨i, Nat.le_refl _, by omega, rfl, HL2.out.congr fun t _ => by rw [if_neg (by omega)], HB2.out⟩
              case round =>
                obtain ⟨k, hik, hk, rfl, hL, hb⟩ := hrel
                have HL := Lib.hid hL
                have HB := Lib.hid hb
                clear hL hb
                by_cases hkj : k ≤ j
                · have k0 := HL.out.cell (j := k) (by omega)
                  rw [if_neg (by omega)] at k0
                  have k1 := HL.out.free k
                  have hg := HL.out.lt
                  have wk := HV.out.1 k (by omega)
                  go_wp2_with fail
                  go_roundw
                  case rel => exact ⟨k + 1, by omega, by omega, by go_num, (HL.out.set (j := k) (by omega) (v k + d)).congr fun t _ => by
                    by_cases e : t = k
                    · rw [if_pos e, if_pos (by omega), e]
                    · rw [if_neg e]
                      by_cases e2 : i ≤ t ∧ t < k
                      · rw [if_pos e2, if_pos (by omega)]
                      · rw [if_neg e2, if_neg (by omega)], HB.out.setCell (p := ⟨G, k, none⟩) HG.out _⟩
                  case measure => simp [intOf]; omega
                · have hle : j + 1 ≤ k := by omega
                  have HI := Lib.hid (Ints.congr (g := shift v i j d) HL.out.ints fun t _ => by
                    by_cases e : i ≤ t ∧ t ≤ j
                    · rw [shift_in e, if_pos (by omega)]
                    · rw [shift_out e, if_neg (by omega)])
                  have HNr := Lib.hid (HN1.out.later HB.out)
                  obtain ⟨a0, a1, a2, a3, a4, a5⟩ := HNr.out.cells
                  have hj1 : (j : Int) < k := by omega
                  go_wp2_with fail
                  refine (refcontour_any p n (shift v i j d) a (some ⟨G, 0, none⟩) c cap _ HP.out HI.out (by omega)).mono ?_
                  rintro e w5 ⟨rfl, hb5⟩
                  have HI5 := Lib.hid (HI.out.mono hb5)
                  have HN5 := Lib.hid (HNr.out.later hb5)
                  have HB5 := Lib.hid (HB.out.trans (hb5.mono HB.out.size))
                  clear a0 a1 a2 a3 a4 a5 hb5
                  obtain ⟨a0, a1, a2, a3, a4, a5⟩ := HN5.out.cells
                  rcases Bool.eq_false_or_eq_true (contB p n (shift v i j d)) with gc | gc
                  · have HOK := Lib.hid (contB_iff.1 gc).2
                    rw [gc]
                    clear gc
                    go_wp2_with fail
                    refine (refcost_any p n (shift v i j d) a (some ⟨G, 0, none⟩) c cap _ HP.out HF.out HOK.out (HR1.out.mono HB5.out) HI5.out).mono ?_
                    rintro e w6 ⟨rfl, hb6⟩
                    have HB6 := Lib.hid (HB5.out.trans (hb6.mono HB5.out.size))
                    clear a0 a1 a2 a3 a4 a5 hb6
                    obtain ⟨C2, hC2⟩ : ∃ C2, C2 = costN p n (shift v i j d) := ⟨_, rfl⟩
                    rw [← hC2]
                    have HC2 := Lib.hid hC2
                    clear hC2
                    by_cases hneg : C2 < C
                    · have HNS := Lib.hid (not_settled hij hltj hdo (show bad p n v i j d from ⟨HOK.out, by rw [← HC2.out, ← HC.out]; exact hneg⟩))
                      go_wp2_with fail
                      go_ret
                      exact ⟨⟨false, by simpa using HNS.out, rfl⟩, HB1.out.trans (HB6.out.mono HB1.out.size)⟩
                    · have HNB := Lib.hid (show ¬ bad p n v i j (de s) from fun h => by
                        have h2 := h.2
                        rw [← HDD.out, ← HC2.out, ← HC.out] at h2
                        exact hneg h2)
                      have hneg' : C ≤ C2 := by omega
                      have hnum : d + 2 = de (s + 1) := by rw [HDD.out]; unfold de; omega
                      have HNM := Lib.hid hnum
                      clear hnum hneg
                      go_wp2_with fail
                      go_roundw
                      case rel => exact ⟨s + 1, by omega, by rw [← HNM.out], fun r hr => by
                        by_cases e : r = s
                        · rw [e]; exact HNB.out
                        · exact HAS.out r (by omega), HB6.out⟩
                      case measure => simp [intOf]; omega
                  · have HNB := Lib.hid (show ¬ bad p n v i j (de s) from fun h => by
                      have h2 := h.1
                      rw [← HDD.out] at h2
                      rw [contB_iff.2 ⟨HF.out, h2⟩] at gc
                      cases gc)
                    have hnum : d + 2 = de (s + 1) := by rw [HDD.out]; unfold de; omega
                    have HNM := Lib.hid hnum
                    rw [gc]
                    clear gc hnum
                    go_wp2_with fail
                    go_roundw
                    case rel => exact ⟨s + 1, by omega, by rw [← HNM.out], fun r hr => by
                      by_cases e : r = s
                      · rw [e]; exact HNB.out
                      · exact HAS.out r (by omega), HB5.out⟩
                    case measure => simp [intOf]; omega
            · have hd3 : (1 : Int) < de s := by unfold de; omega
              have hs3 : s = 2 := by omega
              go_wp2_with fail
              go_roundw
              case rel => exact ⟨j + 1, by omega, by omega, by go_num, fun j' h1 h2 => by
                by_cases e : j' = j
                · rw [e]; exact de_all fun r hr => HAS.out r (by omega)
                · exact HAJ.out j' h1 (by omega), HBS.out⟩
              case measure => simp [intOf]; omega
        · have hle : n ≤ j := by omega
          go_wp2_with fail
          go_roundw
          case rel => exact ⟨i + 1, by omega, by go_num, fun i' hi' j' h1 h2 => by
            by_cases e : i' = i
            · rw [e] at h1 ⊢
              exact HAJ.out j' h1 (by omega)
            · exact HAI.out i' (by omega) j' h1 h2, HBJ.out⟩
          case measure => simp [intOf]; omega
    · have hle : n ≤ i := by omega
      have HST := Lib.hid (settled_iff.2 fun i' j' h1 h2 d hd => HAI.out i' (by omega) j' h1 h2 d hd)
      go_wp2_with fail
      go_ret
      exact ⟨⟨true, by simpa using HST.out, rfl⟩, HB1.out.trans (HBI.out.mono HB1.out.size)⟩
end Go.Proofs.YtijonghofghocaaDoor
