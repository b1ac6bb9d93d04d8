/-
  The walks of declaimref05's here, Problem, Contour and Cost. Conditions: the slices read as their elements; of here, Contour and Cost, the problem is as defined; of Cost, the contour is one.
-/
import Derived.Test.YtijonghofghocaaDoorCont
import Derived.Test.YtijonghofghocaaDoorOwnL
namespace Go.Proofs.YtijonghofghocaaDoor
open Go.RowKit


theorem tgt_at {w wr : World} {tg : Nat → Tgt} {b off k m : Nat} (hb : Below w.heap.size w wr) (hbs : b < w.heap.size) (hcell : ∀ i, i < m → ∀ j, j < 3 → w.cell? ⟨b, off + i * 3 + j, none⟩ = some (tgtCell tg i j)) (hk : k < m) :
    wr.cell? ⟨b, off + k * 3, none⟩ = some (.int .i64 (tg k).time) ∧ wr.cell? ⟨b, off + k * 3 + 1, none⟩ = some (.int .i64 (tg k).value) ∧ wr.cell? ⟨b, off + k * 3 + 2, none⟩ = some (.int .i64 (tg k).weight) := by
  refine ⟨?_, ?_, ?_⟩
  · rw [hb.cell hbs]; exact hcell k hk 0 (by omega)
  · rw [hb.cell hbs]; exact hcell k hk 1 (by omega)
  · rw [hb.cell hbs]; exact hcell k hk 2 (by omega)

/-- The box of a problem. -/
def ProbBlk (w : World) (N : Nat) (p : Prob) (a : Option Addr) (c : Nat) : Prop :=
  w.heap[N]? = some (.cells #[.int .i64 p.frames, .int .i64 p.low, .int .i64 p.high, .int .i64 p.slope, .int .i64 p.smooth, .slice a p.m c] 43 (0, 0))
theorem ProbBlk.cells {w : World} {N : Nat} {p : Prob} {a : Option Addr} {c : Nat} (h : ProbBlk w N p a c) : w.cell? ⟨N, 0, none⟩ = some (.int .i64 p.frames) ∧ w.cell? ⟨N, 1, none⟩ = some (.int .i64 p.low) ∧
    w.cell? ⟨N, 2, none⟩ = some (.int .i64 p.high) ∧ w.cell? ⟨N, 3, none⟩ = some (.int .i64 p.slope) ∧ w.cell? ⟨N, 4, none⟩ = some (.int .i64 p.smooth) ∧ w.cell? ⟨N, 5, none⟩ = some (.slice a p.m c) := by
  simp [World.cell?, show w.heap[N]? = _ from h]
theorem ProbBlk.later {w w' : World} {N : Nat} {p : Prob} {a : Option Addr} {c : Nat} (h : ProbBlk w N p a c) (hb : Below w.heap.size w w') : ProbBlk w' N p a c := block_later h hb
theorem ProbBlk.lt {w : World} {N : Nat} {p : Prob} {a : Option Addr} {c : Nat} (h : ProbBlk w N p a c) : N < w.heap.size := lt_of_block h

set_option maxRecDepth 100000 in
set_option maxHeartbeats 2000000 in
theorem here_any (p : Prob) (t : Nat) (v : Int) (a : Option Addr) (c : Nat) (w : World) (hp : PB p) (hv1 : -100001 ≤ v) (hv2 : v ≤ 100001) (hc : Row w a p.m 3 (tgtCell p.tg)) :
    Calls Tryd.prog 61 #[.agg #[.int .i64 p.frames, .int .i64 p.low, .int .i64 p.high, .int .i64 p.slope, .int .i64 p.smooth, .slice a p.m c], .int .i64 t, .int .i64 v] w fun e w' => e = .returned (.int .i64 (node p t v)) ∧ Below w.heap.size w w' := by
  have hm' : (p.m : Int) ≤ 200 := by have := hp.m1; omega
  have HP := Lib.hid hp
  clear hp
  go_enter Tryd.func61, Tryd.ntmps61
  go_wp2_with fail
  refine wp_gen (fun w2 => ProbBlk w2 w.heap.size p a c ∧ Below w.heap.size w w2) ⟨heap_alloc_new _ _, newb _ _⟩ ?_
  obtain ⟨N, hN⟩ : ∃ N, N = w.heap.size := ⟨_, rfl⟩
  rw [← hN]
  rintro w2 ⟨hN2, hb2⟩
  have HN2 := Lib.hid hN2
  have HB2 := Lib.hid (show Below w.heap.size w w2 by rw [← hN]; exact hb2)
  clear hN2 hb2 hN
  go_loopw [7, 8] (fun n i wr => ∃ k : Nat, k ≤ p.m ∧ i = .int .i64 k ∧ n = .int .i64 (sumTo (tcost p t v) k) ∧ ProbBlk wr N p a c ∧ Below w.heap.size w wr) (fun _ i _ => p.m - (intOf i).toNat)
  case atStart => exact ⟨0, Nat.zero_le _, rfl, rfl, HN2.out, HB2.out⟩
  case round =>
    obtain ⟨k, hk, rfl, rfl, hn, hb⟩ := hrel
    have HB := Lib.hid hb
    have HN := Lib.hid hn
    obtain ⟨a0, a1, a2, a3, a4, a5⟩ := hn.cells
    clear hb hn a0 a1 a2 a3 a4
    by_cases hlt : k < p.m
    · obtain ⟨b, off, rfl, hbs, hcell⟩ := hc.at (by omega)
      obtain ⟨k0, k1, k2⟩ := tgt_at HB.out hbs hcell hlt
      have hbr : b < wr.heap.size := Nat.lt_of_lt_of_le hbs HB.out.size
      clear hcell
      have htg := HP.out.tg k hlt
      have hbd := nodeN_bd HP.out (t := t) hv1 hv2 (j := k) (by omega)
      have hbd2 := tcost_bd HP.out (t := t) hv1 hv2 hlt
      have hd1 := wsq_bd (w := (p.tg k).weight) (x := v - (p.tg k).value) (W := 1000) (B := 300001) (by omega) (by omega) (by omega) (by omega)
      have e0 : (p.tg k).weight * (v - (p.tg k).value) * (v - (p.tg k).value) = (p.tg k).weight * sq (v - (p.tg k).value) := by unfold sq; rw [Int.mul_assoc]
      have hd2 : -(1000 * 300001) ≤ (p.tg k).weight * (v - (p.tg k).value) ∧ (p.tg k).weight * (v - (p.tg k).value) ≤ 1000 * 300001 := mul_bd (by omega) (by omega) (by omega) (by omega)
      by_cases e : (p.tg k).time = t
      · have e' : ((p.tg k).time == (t : Int)) = true := by simpa using e
        have HE := Lib.hid (show tcost p t v k = (p.tg k).weight * sq (v - (p.tg k).value) by simp [tcost, e])
        rw [HE.out] at hbd2
        clear e
        go_wp2_with fail
        go_roundw
        case rel => exact ⟨k + 1, by omega, by go_num, by rw [nodeN_succ, HE.out], HN.out.later (newb _ _), HB.out.trans ((newb _ _).mono HB.out.size)⟩
        case measure => simp [intOf]; omega
      · have e' : ((p.tg k).time == (t : Int)) = false := by simpa using e
        have HE := Lib.hid (show tcost p t v k = 0 by simp [tcost, e])
        clear e
        go_wp2_with fail
        go_roundw
        case rel => exact ⟨k + 1, by omega, by go_num, by rw [nodeN_succ, HE.out, Int.add_zero], HN.out.later (newb _ _), HB.out.trans ((newb _ _).mono HB.out.size)⟩
        case measure => simp [intOf]; omega
    · have hle : p.m ≤ k := by omega
      have HJ := Lib.hid (show k = p.m by omega)
      go_wp2_with fail
      go_ret
      exact ⟨ret_int (by rw [HJ.out]; rfl), HB.out⟩
end Go.Proofs.YtijonghofghocaaDoor
