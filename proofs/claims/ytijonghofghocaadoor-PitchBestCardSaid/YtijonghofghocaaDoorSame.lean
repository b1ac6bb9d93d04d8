/-
  The walks of declaimref05.Same and declaimref05.Curve. Conditions: the slices read as their elements; of Curve, what it is given is as defined.
-/
import Derived.Test.YtijonghofghocaaDoorCurve
namespace Go.Proofs.YtijonghofghocaaDoor
open Go.RowKit

def sameB (n : Nat) (f : Nat → Int) (m : Nat) (g : Nat → Int) : Bool := decide (n = m) && allTo (fun i => decide (f i = g i)) n
theorem sameB_of {n : Nat} {f g : Nat → Int} (h : ∀ i, i < n → f i = g i) : sameB n f n g = true := by
  simp only [sameB, decide_true, Bool.true_and, allTo_iff, decide_eq_true_eq]; exact h

set_option maxRecDepth 100000 in
set_option maxHeartbeats 2000000 in
theorem same_any (n m : Nat) (f g : Nat → Int) (p q : Option Addr) (cp cq : Nat) (w : World) (hp : Ints w p n f) (hq : Ints w q m g) (hn : n ≤ 9223372036854775807) (hm : m ≤ 9223372036854775807) :
    Calls Tryd.prog 23 #[.slice p n cp, .slice q m cq] w fun e w' => e = .returned (.bool (sameB n f m g)) ∧ Below w.heap.size w w' := by
  have hn' : (n : Int) ≤ 9223372036854775807 := by omega
  have hm' : (m : Int) ≤ 9223372036854775807 := by omega
  by_cases hnm : n = m
  · subst hnm
    go_enter Tryd.func23, Tryd.ntmps23
    go_wp2_with fail
    go_loopw [5] (fun i wr => ∃ k : Nat, k ≤ n ∧ i = .int .i64 k ∧ allTo (fun i => decide (f i = g i)) k = true ∧ Below w.heap.size w wr) (fun i _ => n - (intOf i).toNat)
    case atStart => exact ⟨0, Nat.zero_le _, rfl, rfl, Below.refl _ _⟩
    case round =>
      obtain ⟨k, hk, rfl, hall, hb⟩ := hrel
      have HA := Lib.hid hall
      have HB := Lib.hid hb
      clear hall hb
      by_cases hlt : k < n
      · obtain ⟨b, off, rfl, hbs, hcell⟩ := hp.at (by omega)
        obtain ⟨b2, off2, rfl, hbs2, hcell2⟩ := hq.at (by omega)
        have k0 : wr.cell? ⟨b, off + k, none⟩ = some (.int .i64 (f k)) := by rw [HB.out.cell hbs]; exact hcell k hlt
        have k1 : wr.cell? ⟨b2, off2 + k, none⟩ = some (.int .i64 (g k)) := by rw [HB.out.cell hbs2]; exact hcell2 k hlt
        clear hcell hcell2
        by_cases e : f k = g k
        · have HE := Lib.hid (show (fun i => decide (f i = g i)) k = true by simpa using e)
          have e' : (f k == g k) = true := by simpa using e
          have e2 : (f k != g k) = false := by simp [bne, e']
          clear e
          go_wp2_with fail
          go_quiet (fail)
          go_wp2_with fail
          go_roundw
          case rel => exact ⟨k + 1, by omega, by go_num, allTo_succ HA.out HE.out, below_drewN HB.out _⟩
          case measure => simp [intOf]; omega
        · have HE := Lib.hid (show (fun i => decide (f i = g i)) k = false by simpa using e)
          have e' : (f k == g k) = false := by simpa using e
          have e2 : (f k != g k) = true := by simp [bne, e']
          clear e
          go_wp2_with fail
          go_quiet (fail)
          go_wp2_with fail
          go_ret
          exact ⟨ret_bool (by simp only [sameB]; rw [allTo_false hlt HE.out]; simp), below_drewN HB.out _⟩
      · have hle : n ≤ k := by omega
        have HJ := Lib.hid (show k = n by omega)
        go_wp2_with fail
        go_ret
        exact ⟨ret_bool (by simp only [sameB]; rw [← HJ.out, HA.out]; simp), HB.out⟩
  · have HE := Lib.hid (show sameB n f m g = false by simp [sameB, hnm])
    have e' : ((n : Int) == m) = false := by simp; omega
    have e2 : ((n : Int) != m) = true := by simp [bne, e']
    clear hnm
    go_enter Tryd.func23, Tryd.ntmps23
    go_wp2_with fail
    go_ret
    exact ⟨ret_bool HE.out.symm, Below.refl _ _⟩

/-- A slice alone. -/
def SliceOnly (n : Nat) (F : Nat → Int) (w : World) (e : Ending) (w' : World) : Prop :=
  ∃ p cap, e = .returned (.slice p n cap) ∧ Ints w' p n F ∧ Below w.heap.size w w'

set_option maxRecDepth 100000 in
set_option maxHeartbeats 2000000 in
theorem refcurve_any (n : Nat) (base : Int) (l : Nat → Cmd) (sp : Nat → Option Addr) (sc : Nat → Nat) (p : Option Addr) (m cap : Nat) (w : World) (hc : Cmds w p m l sp sc) (hn : n ≤ 4000)
    (hb1 : -100000 ≤ base) (hb2 : base ≤ 100000) (hm : m ≤ 200) (hl : allTo (fun i => (l i).valid) m = true) :
    Calls Tryd.prog 24 #[.int .i64 n, .int .i64 base, .slice p m cap] w (SliceOnly n (fun t => crvN l base t m) w) := by
  have hn' : (n : Int) ≤ 4000 := by omega
  have hm' : (m : Int) ≤ 200 := by omega
  have HL := Lib.hid (allTo_iff.1 hl)
  clear hl
  go_enter Tryd.func24, Tryd.ntmps24
  go_wp2_with fail
  go_loopw [7, 8] (fun v i wr => ∃ k : Nat, k ≤ n ∧ i = .int .i64 k ∧ Grow wr w.heap.size v k (fun t => crvN l base t m) ∧ Below w.heap.size w wr) (fun _ i _ => n - (intOf i).toNat)
  case atStart => exact ⟨0, Nat.zero_le _, rfl, Grow.none _ _ _, Below.refl _ _⟩
  case round =>
    obtain ⟨k, hk, rfl, hown, hb⟩ := hrel
    have HK := Lib.hid hown
    have HB := Lib.hid hb
    clear hown hb
    by_cases hlt : k < n
    · go_wp2_with fail
      obtain ⟨wo, rfl⟩ : ∃ wo : World, wo = wr := ⟨_, rfl⟩
      go_loopw [9, 10] (fun s i wr => ∃ j : Nat, j ≤ m ∧ i = .int .i64 j ∧ s = .int .i64 (crvN l base k j) ∧ Below wo.heap.size wo wr) (fun _ i _ => m - (intOf i).toNat)
      case atStart => exact ⟨0, Nat.zero_le _, rfl, by simp [crvN, sumTo], Below.refl _ _⟩
      case round =>
        obtain ⟨j, hj, rfl, rfl, hb⟩ := hrel
        have HB1 := Lib.hid hb
        clear hb
        by_cases hjm : j < m
        · obtain ⟨b, off, rfl, hbs, hcell⟩ := hc.1.at (by omega)
          have k0 : wr.cell? ⟨b, off + j * 3, none⟩ = some (.int .i64 (l j).ca) := by rw [HB1.out.cell (Nat.lt_of_lt_of_le hbs HB.out.size), HB.out.cell hbs]; exact hcell j hjm 0 (by omega)
          have k1 : wr.cell? ⟨b, off + j * 3 + 1, none⟩ = some (.int .i64 (l j).ch) := by rw [HB1.out.cell (Nat.lt_of_lt_of_le hbs HB.out.size), HB.out.cell hbs]; exact hcell j hjm 1 (by omega)
          have k2 : wr.cell? ⟨b, off + j * 3 + 2, none⟩ = some (.slice (sp j) (l j).n (sc j)) := by rw [HB1.out.cell (Nat.lt_of_lt_of_le hbs HB.out.size), HB.out.cell hbs]; exact hcell j hjm 2 (by omega)
          have HS := Lib.hid (((hc.2 j hjm).2.mono HB.out).mono HB1.out)
          clear hcell
          have bd := crvN_bd (l := l) (base := base) (t := k) (j := j) (m := m) hb1 hb2 HL.out hm (by omega)
          have bd2 := val_bd (t := (k : Int)) (HL.out j hjm)
          go_wp2_with fail
          refine (refvalue_any (l j) k (sp j) (sc j) _ (HL.out j hjm) (by omega) (by omega) HS.out).mono ?_
          rintro e w1 ⟨rfl, hb1⟩
          have HB2 := Lib.hid (HB1.out.trans (hb1.mono HB1.out.size))
          clear hb1 k0 k1 k2
          go_wp2_with fail
          go_roundw
          case rel => exact ⟨j + 1, by omega, by go_num, by rw [crvN_succ], HB2.out⟩
          case measure => simp [intOf]; omega
        · have hle : m ≤ j := by omega
          have HJ := Lib.hid (show j = m by omega)
          have HK1 := Lib.hid (HK.out.later HB1.out)
          have HB2 := Lib.hid (HB.out.trans (HB1.out.mono HB.out.size))
          have hsz : w.heap.size ≤ wr.heap.size := HB2.out.size
          go_wp2_with (at_builtin; refine append_int Tryd.underlying34 info3 _ rfl _ _ rfl w.heap.size _ k (fun t => crvN l base t m) (crvN l base k j) rfl (HK1.out.later (newb _ _)) ⟨wr.heap.size, 0, none⟩ rfl ?c1 ?c2 ?c3 ?c4)
          case c1 => simp
          case c2 => omega
          case c3 => simp; omega
          case c4 =>
            intro v' w' hown' hgrow _
            have HO := Lib.hid hown'
            have HG := Lib.hid (below_grown (HB2.out.alloc (by omega) _) (HK1.out.later (newb _ _)) hgrow (by simp; omega) (Nat.le_refl _))
            clear hown' hgrow
            go_wp2_with fail
            go_roundw
            case rel => exact ⟨k + 1, by omega, by go_num, HO.out.congr (fun i hi => by
              by_cases e : i = k
              · subst e; simp [HJ.out]
              · simp [e]), HG.out⟩
            case measure => simp [intOf]; omega
    · have hle : n ≤ k := by omega
      have HJ := Lib.hid (show k = n by omega)
      go_wp2_with fail
      go_ret
      obtain ⟨q, c, h1, h2⟩ := HK.out.ints
      exact ⟨q, c, by rw [← HJ.out]; exact congrArg _ h1, by rw [← HJ.out]; exact h2, HB.out⟩
end Go.Proofs.YtijonghofghocaaDoor
