/-
  The walk of pitch.best. Condition: the problem is as defined.
-/
import Derived.Test.YtijonghofghocaaDoorSea
import Derived.Test.YtijonghofghocaaDoorRefSing
import Derived.Deep.Cut
import Derived.Laws.EntriesVeiled
namespace Go.Proofs.YtijonghofghocaaDoor
open Go.RowKit

/-- The best contour, in new memory. -/
def pathL (p : Prob) (n k : Nat) : List Int := (List.range k).map (path p n)

theorem row0_any (A Ba Bw F W : Nat) (w : World) (hF : F ≤ 200) (hW : W ≤ 401) (hW1 : 1 ≤ W) (ht : 1 ≤ F) (ha : w.cell? ⟨Ba, 0, none⟩ = some (.slice (some ⟨A, 0, none⟩) (F * W) (F * W))) (hw : w.cell? ⟨Bw, 0, none⟩ = some (.int .i64 W)) :
    Calls Tryd.prog 74 #[.int .i64 0, .pointer (some ⟨Ba, 0, none⟩), .pointer (some ⟨Bw, 0, none⟩)] w fun e w' => e = .returned (.slice (some ⟨A, 0, none⟩) W W) ∧ w' = w := by
  have := rowt_any A Ba Bw F W 0 w hF hW hW1 ht ha hw
  simpa using this
theorem missed_node (p : Prob) (t : Nat) (x : Int) (ta : Option Addr) (tc : Nat) (w : World) (hp : PB p) (h1 : -100001 ≤ x) (h2 : x ≤ 100001) (hr : Row w ta (selL p t p.m).length 3 (tgtCell (selF (selL p t p.m)))) :
    Calls Tryd.prog 60 #[.slice ta (selL p t p.m).length tc, .int .i64 x] w fun e w' => e = .returned (.int .i64 (node p t x)) ∧ Below w.heap.size w w' :=
  (missed_any (selF (selL p t p.m)) (selL p t p.m).length x ta tc w (selF_ok hp t) (Nat.le_trans (selL_length p t p.m) hp.m1) h1 h2 hr).mono fun _ _ ⟨h1, h2⟩ => ⟨by rw [h1, lsum_node], h2⟩
theorem field0 (x y : Int) (w : World) : (Instr.field 104 (.agg #[.int .i64 x, .int .i64 y]) 0).run Tryd.prog w = .ok (.int .i64 x) w := by kernel_rfl
theorem field1 (x y : Int) (w : World) : (Instr.field 104 (.agg #[.int .i64 x, .int .i64 y]) 1).run Tryd.prog w = .ok (.int .i64 y) w := by kernel_rfl
/-- The best next value, where the rows behind hold what the search says. -/
theorem next_kept (p : Prob) (a : Option Addr) (c A F W Bp Bw t s : Nat) (x τ : Int) (G : Nat → Int) (w0 : World) (hp : PB p) (hF : (F : Int) = p.frames) (hW : (W : Int) = p.high - p.low + 1) (ht : t < F) (hx : p.low ≤ x ∧ x ≤ p.high)
    (hpb : ProbBlk w0 Bp p a c) (hwb : w0.cell? ⟨Bw, 0, none⟩ = some (.int .i64 W)) (hA : A = w0.heap.size) (hd : Done p F W G s) (hs : s ≤ t) (hτ : τ = t) (rr : Int × Int) (hr : next p (rst p (F - 1 - t) t) x = rr) (y : Stay (SeaR w0 A F W Bw G)) :
    Calls Tryd.prog 76 #[.int .i64 τ, .int .i64 x, .pointer (some ⟨A + 2, 0, none⟩), .pointer (some ⟨Bp, 0, none⟩), .pointer (some ⟨A + 4, 0, none⟩)] y.w fun e w' => e = .returned (.agg #[.int .i64 rr.1, .int .i64 rr.2]) ∧ ∃ z : Stay (SeaR w0 A F W Bw G), w' = z.w := by
  obtain ⟨v, hv⟩ := y.holds
  subst hτ
  refine Calls.stay_of ((next_any p a c A F W Bp Bw t x G v w0 y.w hp hF hW ht hx.1 hx.2 hpb hwb hA hv fun i hi => ?_).mono ?_)
  · rw [hd t i hs ht hi]
    exact rst_bd' hp (by have := hp.f2; omega) (by omega) (by omega)
  · rintro e w' ⟨v', rfl, h1, h2⟩
    refine ⟨?_, v', hv.took h1 h2⟩
    rw [hd.next hW hp.s1 hs ht hx, hr]
theorem next_took (p : Prob) (a : Option Addr) (c A F W Bp Bw t s : Nat) (x τ : Int) (G : Nat → Int) (v : Value) (w0 w : World) (hp : PB p) (hF : (F : Int) = p.frames) (hW : (W : Int) = p.high - p.low + 1) (ht : t < F) (hx : p.low ≤ x ∧ x ≤ p.high)
    (hpb : ProbBlk w0 Bp p a c) (hwb : w0.cell? ⟨Bw, 0, none⟩ = some (.int .i64 W)) (hA : A = w0.heap.size) (hd : Done p F W G s) (hs : s ≤ t) (hτ : τ = t) (rr : Int × Int) (hr : next p (rst p (F - 1 - t) t) x = rr) (hv : Sea w0 w A F W Bw G v []) :
    Calls Tryd.prog 76 #[.int .i64 τ, .int .i64 x, .pointer (some ⟨A + 2, 0, none⟩), .pointer (some ⟨Bp, 0, none⟩), .pointer (some ⟨A + 4, 0, none⟩)] w (Took (A + 3) v rr w) := by
  subst hτ
  have h := next_any p a c A F W Bp Bw t x G v w0 w hp hF hW ht hx.1 hx.2 hpb hwb hA hv fun i hi => by
    rw [hd t i hs ht hi]
    exact rst_bd' hp (by have := hp.f2; omega) (by omega) (by omega)
  rw [hd.next hW hp.s1 hs ht hx, hr] at h
  exact h
theorem pathL_succ (p : Prob) (n k : Nat) : pathL p n (k + 1) = pathL p n k ++ [path p n k] := by simp [pathL, List.range_succ]
theorem pathL_length (p : Prob) (n k : Nat) : (pathL p n k).length = k := by simp [pathL]
theorem pathL_get {p : Prob} {n k i : Nat} (h : i < k) : (pathL p n k).getD i 0 = path p n i := by simp [pathL, h]
theorem hidden {F W : Nat} {A : Nat} {w : World} {G : Nat → Int} (h : Blk w A (F * W) G) {t i : Nat} (ht : t < F) (hi : i < W) : w.cell? ⟨A, t * W + i, none⟩ = some (.int .i64 (G (t * W + i))) ∧ w.frozen? ⟨A, t * W + i, none⟩ = false := ⟨h.cell (idx_lt ht hi), h.free _⟩

/-- The costs, and the box of their slice. -/
structure Sea1 (w0 w : World) (A F W : Nat) : Prop where
  below : Below A w0 w
  size : w.heap.size = A + 2
  dat : Blk w A (F * W) (fun _ => 0)
  all : w.heap[A + 1]? = some (.cells #[.slice (some ⟨A, 0, none⟩) (F * W) (F * W)] 34 (0, 0))
/-- And the box of the row function. -/
structure Sea2 (w0 w : World) (A F W Bw : Nat) : Prop where
  below : Below A w0 w
  size : w.heap.size = A + 3
  dat : Blk w A (F * W) (fun _ => 0)
  all : w.heap[A + 1]? = some (.cells #[.slice (some ⟨A, 0, none⟩) (F * W) (F * W)] 34 (0, 0))
  row : w.heap[A + 2]? = some (.cells #[.func (.func 74) #[] #[.pointer (some ⟨A + 1, 0, none⟩), .pointer (some ⟨Bw, 0, none⟩)]] 101 (0, 0))
theorem sea1_new (w0 : World) (A F W : Nat) (hA : A = w0.heap.size) : Sea1 w0 ((w0.alloc (.cells (cellsOf (F * W) fun _ => 0) 3)).alloc (.cells #[.slice (some ⟨A, 0, none⟩) (F * W) (F * W)] 34)) A F W := by
  subst hA
  refine ⟨(newb _ _).trans ((newb _ _).mono (by simp)), by simp, (blk_new w0 _ _).later (newb _ _), ?_⟩
  have := heap_alloc_new (w0.alloc (.cells (cellsOf (F * W) fun _ => 0) 3)) (.cells #[.slice (some ⟨w0.heap.size, 0, none⟩) (F * W) (F * W)] 34)
  simpa using this
theorem sea2_new {w0 w : World} {A F W : Nat} (Bw : Nat) (h : Sea1 w0 w A F W) : Sea2 w0 (w.alloc (.cells #[.func (.func 74) #[] #[.pointer (some ⟨A + 1, 0, none⟩), .pointer (some ⟨Bw, 0, none⟩)]] 101)) A F W Bw := by
  refine ⟨h.below.trans ((newb _ _).mono (by have := h.size; omega)), by simp [h.size], h.dat.later (newb _ _), block_later h.all (newb _ _), ?_⟩
  rw [← h.size]
  exact heap_alloc_new _ _
theorem sea_new {w0 w : World} {A F W Bw : Nat} (h : Sea2 w0 w A F W Bw) : SeaR w0 A F W Bw (fun _ => 0) ((w.alloc (.cells #[.slice none 0 0, .func (.func 75) #[] #[]] 108)).alloc (.cells #[.pointer (some ⟨A + 3, 0, none⟩)] 102)) := by
  have hb : Below w.heap.size w ((w.alloc (.cells #[.slice none 0 0, .func (.func 75) #[] #[]] 108)).alloc (.cells #[.pointer (some ⟨A + 3, 0, none⟩)] 102)) := (newb _ _).trans ((newb _ _).mono (by simp))
  refine ⟨.slice none 0 0, h.below.trans (hb.mono (by have := h.size; omega)), h.dat.later hb, block_later h.all hb, block_later h.row hb, ⟨?_, World.ownsRow_nil _ _ _ _⟩, ?_⟩
  · rw [← h.size]
    exact block_later (heap_alloc_new w _) (newb _ _)
  · have := heap_alloc_new (w.alloc (.cells #[.slice none 0 0, .func (.func 75) #[] #[]] 108)) (.cells #[.pointer (some ⟨A + 3, 0, none⟩)] 102)
    rw [show (w.alloc (.cells #[.slice none 0 0, .func (.func 75) #[] #[]] 108)).heap.size = A + 4 by simp [h.size]] at this
    exact this

set_option maxRecDepth 100000 in
set_option maxHeartbeats 8000000 in
theorem best_any (p : Prob) (F : Nat) (a : Option Addr) (c : Nat) (w : World) (hp : PB p) (hF : (F : Int) = p.frames) (hc : Row w a p.m 3 (tgtCell p.tg)) :
    Calls Tryd.prog 62 #[.agg #[.int .i64 p.frames, .int .i64 p.low, .int .i64 p.high, .int .i64 p.slope, .int .i64 p.smooth, .slice a p.m c]] w (ListOnly (pathL p F F) w) := by
  have hF' : F ≤ 200 := by have := hp.f2; omega
  have hF1 : 1 ≤ F := by have := hp.f1; omega
  obtain ⟨W, hW⟩ : ∃ W : Nat, (W : Int) = p.high - p.low + 1 := ⟨(p.high - p.low + 1).toNat, by have := hp.lh; omega⟩
  have hW' : W ≤ 401 := by have := hp.rg; omega
  have hW1 : 1 ≤ W := by have := hp.lh; omega
  have HP := Lib.hid hp
  have HF := Lib.hid hF
  have HW := Lib.hid hW
  have d1 := hp.l1
  have d2 := hp.h1
  have d5 := hp.lh
  have d6 := hp.rg
  have hm1 : 0 ≤ p.frames * (p.high - p.low + 1) ∧ p.frames * (p.high - p.low + 1) ≤ 80200 := by
    rw [← hF, ← hW, ← Int.natCast_mul]
    have := Nat.mul_le_mul hF' hW'
    omega
  have mk : ∀ w, (Instr.makeSlice 34 (.int .i64 (p.frames * (p.high - p.low + 1))) (.int .i64 (p.frames * (p.high - p.low + 1)))).run Tryd.prog w = .ok (.slice (some ⟨w.heap.size, 0, none⟩) (F * W) (F * W)) (w.alloc (.cells (cellsOf (F * W) (fun _ => 0)) 3)) := by
    rw [← hF, ← hW, ← Int.natCast_mul]; exact make_ints (F * W) (by have := Nat.mul_le_mul hF' hW'; omega)
  clear hp hF hW
  go_enter Tryd.func62, Tryd.ntmps62
  go_wp2_with fail
  refine (targets_any p F a c _ HP.out HF.out (hc.mono ((newb _ _).trans ((newb _ _).mono (by simp))))).mono ?_
  rintro e w0 ⟨T, cap, rfl, hL, hb1⟩
  have h0 : ProbBlk w0 w.heap.size p a c := (show ProbBlk ((w.alloc (.cells #[.int .i64 p.frames, .int .i64 p.low, .int .i64 p.high, .int .i64 p.slope, .int .i64 p.smooth, .slice a p.m c] 43)).alloc (.cells #[.int .i64 (p.high - p.low + 1)] 3)) w.heap.size p a c from
    ProbBlk.later (w := w.alloc (.cells #[.int .i64 p.frames, .int .i64 p.low, .int .i64 p.high, .int .i64 p.slope, .int .i64 p.smooth, .slice a p.m c] 43)) (heap_alloc_new _ _) (newb _ _)).later hb1
  have hw0 : w0.cell? ⟨w.heap.size + 1, 0, none⟩ = some (.int .i64 W) := by
    rw [hb1.cell (p := ⟨w.heap.size + 1, 0, none⟩) (by simp), HW.out]
    simp
  have HL0 := Lib.hid hL
  have HP0 := Lib.hid h0
  have HW0 := Lib.hid hw0
  have HB0 := Lib.hid (((newb w _).trans ((newb _ _).mono (by simp))).trans (hb1.mono (by simp; omega)))
  obtain ⟨Bp, hBp⟩ : ∃ Bp, Bp = w.heap.size := ⟨_, rfl⟩
  rw [← hBp] at HP0 HW0
  rw [← hBp]
  clear hL h0 hb1 hBp hw0
  have hpl := HP0.out.lt
  obtain ⟨a0, a1, a2, a3, a4, a5⟩ := HP0.out.cells
  have hwl := World.block_lt_of_cell? w0 _ HW0.out
  have b0 : w0.cell? ⟨Bp + 1, 0, none⟩ = some (.int .i64 (p.high - p.low + 1)) := by rw [← HW.out]; exact HW0.out
  go_upto_region 4 with (fail)
  obtain ⟨A, hA⟩ : ∃ A, A = w0.heap.size := ⟨_, rfl⟩
  rw [← hA]
  rw [← hA] at hpl hwl
  have HA := Lib.hid hA
  clear hA
  refine wp_gen (fun w1 => Sea1 w0 w1 A F W) (sea1_new w0 A F W HA.out) ?_
  rintro w1 hs1
  have HS1 := Lib.hid hs1
  clear hs1 b0 a0 a1 a2 a3 a4 a5 mk
  go_upto_region 5 with (fail)
  rw [HS1.out.size]
  refine wp_gen (fun w2 => Sea2 w0 w2 A F W (Bp + 1)) (sea2_new _ HS1.out) ?_
  rintro w2 hs2
  have HS2 := Lib.hid hs2
  clear hs2 HS1 w1
  go_upto_region 7 with (fail)
  rw [HS2.out.size]
  refine wp_gen (fun w3 => SeaR w0 A F W (Bp + 1) (fun _ => 0) w3) (sea_new HS2.out) ?_
  rintro w3 hs3
  have HS3 := Lib.hid hs3
  have hpb := hs3.prob HA.out HP0.out
  obtain ⟨a0, a1, a2, a3, a4, a5⟩ := hpb.cells
  rw [← HF.out] at a0
  clear hs3 HS2 w2 hpb a1 a2 a3 a4 a5
  rw [show A + 3 + 1 = A + 4 from rfl]
  have hF1' : (1 : Int) ≤ F := by omega
  have hF2' : (F : Int) ≤ 200 := by omega
  go_wp2_with fail
  clear a0
  go_loopw [9] (fun u wr => ∃ s : Nat, s ≤ F ∧ u = .int .i64 ((s : Int) - 1) ∧ ∃ G, SeaR w0 A F W (Bp + 1) G wr ∧ Done p F W G s) (fun u _ => (intOf u + 1).toNat)
  case atStart => exact ⟨F, Nat.le_refl _, rfl, _, HS3.out, fun r j h1 h2 _ => by omega⟩
  case round =>
    obtain ⟨s, hs, rfl, G, hsea, hdone⟩ := hrel
    have HS := Lib.hid hsea
    have HD := Lib.hid hdone
    clear hsea hdone HS3 w3
    obtain ⟨c0, c1, c2, c4⟩ := HS.out.cells HA.out HW0.out
    cases s with
    | zero =>
      rw [show (((0 : Nat) : Int) - 1) = -1 by omega]
      go_wp2_with (go_at_call 74; refine (row0_any A (A + 1) (Bp + 1) F W _ hF' hW' hW1 hF1 c1 c0).mono ?_; rintro e w' ⟨rfl, rfl⟩)
      clear c0 c1 c2 c4
      obtain ⟨cf, hcf⟩ : ∃ cf, cf = rst p (F - 1) 0 := ⟨_, rfl⟩
      have HCF := Lib.hid hcf
      have HDD := Lib.hid HD.out
      have HD0 := Lib.hid (show ∀ k : Nat, k < W → G (0 * W + k) = cf (p.low + ↑k) from fun k hk => by rw [hcf]; exact HD.out 0 k (Nat.le_refl _) hF1 hk)
      clear hcf
      obtain ⟨v0, hv0⟩ := HS.out
      have HV0 := Lib.hid hv0
      clear hv0
      go_loopw [84] (fun u w' => ∃ k : Nat, k ≤ W ∧ u = .int .i64 k ∧ ∃ v, Sea w0 w' A F W (Bp + 1) G v (cands cf p.low k)) (fun u _ => W - (intOf u).toNat)
      case atStart => exact ⟨0, Nat.zero_le _, rfl, v0, HV0.out⟩
      case round =>
        obtain ⟨k, hk, rfl, v, hsea⟩ := hrel
        clear HS HD HV0 v0
        have HS := Lib.hid hsea
        have hpb := hsea.prob HA.out HP0.out
        obtain ⟨a0, a1, a2, a3, a4, a5⟩ := hpb.cells
        rw [← HF.out] at a0
        have c4 := hsea.cell4
        clear hsea hpb a2 a3 a4 a5
        by_cases hlt : k < W
        · have k0 := (hidden HS.out.dat (t := 0) hF1 hlt).1
          rw [HD0.out k hlt, Nat.zero_mul, Nat.zero_add] at k0
          have hx : p.low + ↑k ≤ p.high := by have := HW.out; omega
          clear hpl hwl
          go_wp2_with fail
          have h1 := push_any (A + 3) v (cands cf p.low k) (p.low + ↑k, cf (p.low + ↑k)) wr HS.out.win (by simp [cands]; omega)
          dsimp only at h1
          refine h1.mono ?_
          clear h1
          rintro e w4 ⟨v4, rfl, p1, p2⟩
          go_wp2_with fail
          go_roundw
          case rel => exact ⟨k + 1, by omega, by go_num, v4, HS.out.took (by rw [cands_succ]; exact p1) p2⟩
          case measure => simp [intOf]; omega
        · have hle : W ≤ k := by omega
          have HJ := Lib.hid (show k = W by omega)
          have HWN := Lib.hid (show Win wr (A + 3) v ((p.low, cf p.low) :: (cands cf p.low (W - 1 + 1)).tail) by
            rw [← cands_cons, show W - 1 + 1 = k by have := HJ.out; omega]; exact HS.out.win)
          have HFB := Lib.hid (fb_cands cf p.low (W - 1))
          have HLT := Lib.hid (show (cands cf p.low (W - 1 + 1)).tail.length ≤ 100000 by simp [cands]; omega)
          have HPT := Lib.hid (show (fm cf p.low (W - 1)).1 = path p F 0 by
            show _ = (fm (rst p (F - 1) 0) p.low (p.high - p.low).toNat).1
            rw [show (p.high - p.low).toNat = W - 1 by have := HW.out; omega, HCF.out])
          go_wp2_with fail
          refine (wbest_any (A + 3) v _ _ wr HWN.out HLT.out).mono ?_
          rintro e w4 ⟨v4, rfl, p1, p2⟩
          rw [HFB.out]
          obtain ⟨r, hr⟩ : ∃ r, r = fm cf p.low (W - 1) := ⟨_, rfl⟩
          rw [← hr]
          have HPT2 := Lib.hid (show r.1 = path p F 0 by rw [hr]; exact HPT.out)
          have HS4 := Lib.hid (HS.out.took p1 p2)
          have ef := field0 r.1 r.2
          have hpb := HS4.out.prob HA.out HP0.out
          clear p1 p2 hr a0 a1 c4
          obtain ⟨a0, a1, a2, a3, a4, a5⟩ := hpb.cells
          rw [← HF.out] at a0
          clear hpb a1 a2 a3 a4 a5
          go_upto_region 24 with (fail)
          have hA5 : A + 5 ≤ w4.heap.size := lt_of_block HS4.out.box
          have HM := Lib.hid (GrowL.made w4 (A + 5) r.1 hA5)
          obtain ⟨N, hN⟩ : ∃ N, N = w4.heap.size := ⟨_, rfl⟩
          rw [← hN] at HM
          rw [← hN]
          refine wp_gen (fun w5 => GrowL w5 (A + 5) (.slice (some ⟨N, 0, none⟩) 1 1) [r.1] ∧ SeaR w0 A F W (Bp + 1) G w5) ⟨HM.out, v4, HS4.out.later (newb _ _)⟩ ?_
          clear HM hN hA5 ef HS4 a0
          clear HS v4 w4 HWN
          rintro w5 ⟨hg5, hs5⟩
          have HG5 := Lib.hid hg5
          have HS5 := Lib.hid hs5
          clear hg5 hs5
          go_upto_region 25 with (fail)
          have HDN := Lib.hid HDD.out
          go_loopw [14, 15] (fun o u w' => ∃ k : Nat, 1 ≤ k ∧ k ≤ F ∧ u = .int .i64 k ∧ GrowL w' (A + 5) o (pathL p F k) ∧ SeaR w0 A F W (Bp + 1) G w') (fun _ u _ => F - (intOf u).toNat)
          case atStart => exact ⟨1, Nat.le_refl _, hF1, rfl, by rw [show pathL p F 1 = [r.1] by rw [HPT2.out]; rfl]; exact HG5.out, HS5.out⟩
          case round =>
            obtain ⟨k, hk1, hk, rfl, hown, hsea⟩ := hrel
            clear HG5 HS5 w5
            obtain ⟨v, hv⟩ := hsea
            have HV := Lib.hid hv
            have HO := Lib.hid hown
            have hpb := hv.prob HA.out HP0.out
            obtain ⟨a0, a1, a2, a3, a4, a5⟩ := hpb.cells
            rw [← HF.out] at a0
            obtain ⟨ptr, oc, ho, hI⟩ := hown.ints
            rw [pathL_length] at ho hI
            subst ho
            clear hv hown hpb a1 a2 a3 a4 a5
            by_cases hlt : k < F
            · obtain ⟨b, off, rfl, hbs, hcell⟩ := hI.at (by omega)
              have k0 : wr.cell? ⟨b, off + (k - 1), none⟩ = some (.int .i64 (path p F (k - 1))) := by rw [hcell (k - 1) (by omega), pathL_get (by omega)]
              clear hcell
              have e0 : IntKind.i64.wrap ((k : Int) - 1) = (k : Int) - 1 := IntWalk.i64_in _ (by omega)
              have e1 : (0 : Int) ≤ (k : Int) - 1 := by omega
              have e2 : ((k : Int) - 1).toNat = k - 1 := by omega
              have e3 : (k : Int) - 1 < k := by omega
              obtain ⟨xx, hxx⟩ : ∃ xx, xx = path p F (k - 1) := ⟨_, rfl⟩
              have hxr := path_range p F HP.out.lh HP.out.s1 (k - 1)
              rw [← hxx] at hxr k0
              have HXR := Lib.hid hxr
              obtain ⟨rr, hrr⟩ : ∃ rr, next p (rst p (F - 1 - k) k) xx = rr := ⟨_, rfl⟩
              have HRR := Lib.hid hrr
              have HPK := Lib.hid (show path p F k = rr.1 by
                rw [← hrr, hxx, show k = (k - 1) + 1 by omega]; rfl)
              clear hxx hrr hxr
              go_wp2_with fail
              have h1 := next_took p a c A F W Bp (Bp + 1) k 0 xx k G v w0 wr HP.out HF.out HW.out hlt HXR.out HP0.out HW0.out HA.out HDN.out (Nat.zero_le _) rfl rr HRR.out HV.out
              refine h1.mono ?_
              clear h1 a0 k0 e0 e1 e2 e3
              rintro e w5 ⟨v5, rfl, p1, p2⟩
              have HV5 := Lib.hid (HV.out.took p1 p2)
              have HO5 := Lib.hid (HO.out.took HV.out.win p2)
              clear p1 p2
              have ef := field0 rr.1 rr.2
              have hA5 : A + 5 ≤ w5.heap.size := lt_of_block HV5.out.box
              go_wp2_with (at_builtin; refine append_list Tryd.underlying34 info3 _ rfl _ _ rfl (A + 5) _ (pathL p F k) (path p F k) rfl (HO5.out.later (newb _ _)) ⟨w5.heap.size, 0, none⟩ rfl ?c1 ?c2 ?c3 ?c4)
              case c1 => simp [HPK.out]
              case c2 => rw [pathL_length]; omega
              case c3 => first | omega | (simp; omega)
              case c4 =>
                intro v' w6 hown6 hgrow
                have HO6 := Lib.hid hown6
                have HV6 := Lib.hid ((HV5.out.later (newb w5 _)).grown (HO5.out.later (newb w5 _)) (Nat.le_refl _) hgrow)
                clear hown6 hgrow
                go_wp2_with fail
                go_roundw
                case rel => exact ⟨k + 1, by omega, by omega, by go_num, by rw [pathL_succ]; exact HO6.out, v5, HV6.out⟩
                case measure => simp [intOf]; omega
            · have hle : F ≤ k := by omega
              have HJ := Lib.hid (show k = F by omega)
              go_wp2_with fail
              go_ret
              have hI2 := hI
              rw [HJ.out] at hI2
              exact ⟨ptr, oc, by show Ending.returned (.slice ptr k oc) = .returned (.slice ptr (pathL p F F).length oc); rw [pathL_length, HJ.out], by rw [pathL_length]; exact hI2, (show SeaR w0 A F W (Bp + 1) G wr from ⟨v, HV.out⟩).below HA.out HB0.out⟩
    | succ t =>
      rw [show (((t + 1 : Nat) : Int) - 1) = (t : Int) by omega]
      have ht : t < F := hs
      go_wp2_with (go_at_call 74; refine (rowt_any A (A + 1) (Bp + 1) F W t _ hF' hW' hW1 ht c1 c0).mono ?_; rintro e w' ⟨rfl, rfl⟩)
      clear c0 c1 c2 c4
      go_loopw [45] (fun u w' => ∃ i : Nat, i ≤ W ∧ u = .int .i64 i ∧ ∃ G, SeaR w0 A F W (Bp + 1) G w' ∧ Done p F W G (t + 1) ∧ DoneTo p F W G t i) (fun u _ => W - (intOf u).toNat)
      case atStart => exact ⟨0, Nat.zero_le _, rfl, _, HS.out, HD.out, fun j hj => by omega⟩
      case round =>
        obtain ⟨i, hi, rfl, G1, hsea, hdone, hto⟩ := hrel
        clear HS HD
        have HS := Lib.hid hsea
        have HD := Lib.hid hdone
        have HT := Lib.hid hto
        clear hsea hdone hto
        have hpb := HS.out.prob HA.out HP0.out
        obtain ⟨a0, a1, a2, a3, a4, a5⟩ := hpb.cells
        rw [← HF.out] at a0
        clear hpb a2 a3 a4 a5
        by_cases hlt : i < W
        · obtain ⟨ta, tc, hT, hR⟩ := (HS.out.lists HA.out HL0.out).2 t ht
          have HR := Lib.hid hR
          have e57 : IntKind.i64.wrap (p.low + ↑i) = p.low + ↑i := IntWalk.i64_in _ (by omega)
          have H57 := Lib.hid e57
          have hx : p.low + ↑i ≤ p.high := by have := HW.out; omega
          have q1 := later_cell a1
          have qT := later_cell hT
          clear hR e57
          go_wp2_with fail
          have e57 := H57.out
          refine wp_region_later_tail 12 (by kernel_rfl) (by kernel_rfl) ?_
          simp only [List.take_succ_cons, List.take_zero, List.drop_succ_cons, List.drop_zero]
          repeat (go_big_quiet_step ((go_at_call 60; exact Calls.later_of (missed_node p t _ ta tc _ HP.out (by clear e57; omega) (by clear e57; omega) (HR.out.mono (Later.below _))))))
          clear e57 q1 qT
          refine wpQuiet_nil ?_
          rintro w3 ⟨x3, hx3⟩
          have hb3 : Below wr.heap.size wr w3 := hx3 ▸ x3.below
          clear hx3 x3
          have HS3 := Lib.hid (HS.out.later hb3)
          obtain ⟨k0, k1⟩ := hidden HS3.out.dat ht hlt
          clear hb3 a0 a1 hT
          go_upto_region 15 with (fail)
          refine wp_gen (fun w4 => ∃ G2, SeaR w0 A F W (Bp + 1) G2 w4 ∧ Done p F W G2 (t + 1) ∧ DoneTo p F W G2 t i ∧ G2 (t * W + i) = node p t (p.low + ↑i)) ⟨_, HS3.out.set (idx_lt ht hlt) _, HD.out.set hlt _, HT.out.keep _, by simp⟩ ?_
          clear HS HD HT HS3 k0 k1 w3 G1 G
          rintro w4 ⟨G2, hsea, hdone, hto, hg2⟩
          have HS := Lib.hid hsea
          have HD := Lib.hid hdone
          have HT := Lib.hid hto
          have HG := Lib.hid hg2
          have hpb := hsea.prob HA.out HP0.out
          obtain ⟨a0, a1, a2, a3, a4, a5⟩ := hpb.cells
          rw [← HF.out] at a0
          clear hsea hdone hto hg2 hpb a1 a2 a3 a4 a5
          have hbn := node_bd HP.out (t := t) (v := p.low + ↑i) (by omega) (by omega)
          by_cases hlast : t + 1 < F
          · have hlast' : (t : Int) + 1 < F := by omega
            obtain ⟨rr, hrr⟩ : ∃ rr, next p (rst p (F - 1 - (t + 1)) (t + 1)) (p.low + ↑i) = rr := ⟨_, rfl⟩
            obtain ⟨vv, hvv⟩ : ∃ vv, rst p (F - 1 - t) t (p.low + ↑i) = vv := ⟨_, rfl⟩
            have hval : vv = node p t (p.low + ↑i) + rr.2 := by
              rw [← hvv, ← hrr, show F - 1 - t = (F - 1 - (t + 1)) + 1 by omega]
              rfl
            have hvb := rst_bd' HP.out (r := F - 1 - t) (t := t) (x := p.low + ↑i) (by omega) (by omega) hx
            rw [hvv] at hvb
            have e78 : IntKind.i64.wrap (node p t (p.low + ↑i) + rr.2) = vv := by rw [← hval]; exact IntWalk.i64_in _ (by omega)
            have e71 : IntKind.i64.wrap ((t : Int) + 1) = (t : Int) + 1 := IntWalk.i64_in _ (by omega)
            have H78 := Lib.hid e78
            have H71 := Lib.hid e71
            have HRR := Lib.hid hrr
            have HVV := Lib.hid hvv
            clear e78 e71 hrr hvv hval
            go_wp2_with fail
            clear a0
            haveI : Inhabited (Stay (SeaR w0 A F W (Bp + 1) G2)) := ⟨⟨w4, HS.out⟩⟩
            have q1 : ∀ x : Stay (SeaR w0 A F W (Bp + 1) G2), x.w.cell? ⟨Bp, 1, none⟩ = some (.int .i64 p.low) := fun x => (x.holds.prob HA.out HP0.out).cells.2.1
            have qk : ∀ x : Stay (SeaR w0 A F W (Bp + 1) G2), x.w.cell? ⟨A, t * W + i, none⟩ = some (.int .i64 (node p t (p.low + ↑i))) := fun x => by
              rw [← HG.out]; exact (hidden x.holds.dat ht hlt).1
            have e57 := H57.out
            have e71 := H71.out
            have e78 := H78.out
            have ef := field1 rr.1 rr.2
            refine wp_region_kept_tail (SeaR w0 A F W (Bp + 1) G2) 15 (by kernel_rfl) (by kernel_rfl) (HS.out.later ⟨rfl, rfl, rfl, Nat.le_refl _, fun _ _ => rfl⟩) ?_
            simp only [List.take_succ_cons, List.take_zero, List.drop_succ_cons, List.drop_zero]
            repeat (go_big_quiet_step ((go_at_call 76; exact next_kept p a c A F W Bp (Bp + 1) (t + 1) (t + 1) _ _ G2 w0 HP.out HF.out HW.out hlast (by clear e57 e71 e78; omega) HP0.out HW0.out HA.out HD.out (Nat.le_refl _) (by clear e57 e71 e78; omega) rr HRR.out _)))
            clear e57 e71 e78 q1 qk ef
            refine wpQuiet_nil ?_
            rintro w5 ⟨x5, hx5⟩
            have HS5 := Lib.hid (show SeaR w0 A F W (Bp + 1) G2 w5 from hx5 ▸ x5.holds)
            clear hx5 x5
            obtain ⟨k0, k1⟩ := hidden HS5.out.dat ht hlt
            go_wp2_with fail
            go_roundw
            case rel => exact ⟨i + 1, by omega, by go_num, _, HS5.out.set (idx_lt ht hlt) _, HD.out.set hlt _, HT.out.set HVV.out.symm⟩
            case measure => simp [intOf]; omega
          · have hlast' : (F : Int) ≤ (t : Int) + 1 := by omega
            have HE := Lib.hid (show node p t (p.low + ↑i) = rst p (F - 1 - t) t (p.low + ↑i) by rw [show F - 1 - t = 0 by omega]; rfl)
            go_wp2_with fail
            go_roundw
            case rel => exact ⟨i + 1, by omega, by go_num, G2, HS.out, HD.out, fun j hj => by
              by_cases e : j = i
              · rw [e, HG.out, HE.out]
              · exact HT.out j (by omega)⟩
            case measure => simp [intOf]; omega
        · have hle : W ≤ i := by omega
          have HJ := Lib.hid (show i = W by omega)
          go_wp2_with fail
          go_roundw
          case rel => exact ⟨t, by omega, by go_num, G1, HS.out, HD.out.down (HJ.out ▸ HT.out)⟩
          case measure => simp [intOf]
end Go.Proofs.YtijonghofghocaaDoor
