/-
  The walks of slices.IndexFunc and slices.ContainsFunc at commands, targets and frequencies, with the closures that are handed in: does one fall short of what is defined? Conditions: the slice reads as its elements; the captured cells hold what they hold.
-/
import Derived.Test.YtijonghofghocaaDoorArgs
import Derived.Test.YtijonghofghocaaDoorValid
namespace Go.Proofs.YtijonghofghocaaDoor
open Go.RowKit

set_option maxRecDepth 100000 in
set_option maxHeartbeats 1000000 in
theorem curve1_any (c : Cmd) (p : Option Addr) (cap : Nat) (w : World) (hn : c.n ≤ 9223372036854775807) (hp : Row w p c.n 2 (knotCell c.kt c.kv)) :
    Calls Tryd.prog 53 #[.agg #[.int .i64 c.ca, .int .i64 c.ch, .slice p c.n cap]] w fun e w' => e = .returned (.bool (!c.valid)) ∧ Below w.heap.size w w' := by
  go_enter Tryd.func53, Tryd.ntmps53
  go_wp2_with fail
  refine (valid_any c p cap _ hn (hp.mono (newb _ _))).mono ?_
  rintro e w1 ⟨rfl, hb1⟩
  have HB := Lib.hid ((newb w _).trans (hb1.mono (by simp)))
  clear hb1
  go_wp2_with fail
  go_ret
  exact ⟨ret_bool rfl, HB.out⟩

def tgtOk (fr : Int) (x : Tgt) : Bool := inB x.time 0 (fr - 1) && inB x.value (-200000) 200000 && inB x.weight 0 1000
set_option maxRecDepth 100000 in
set_option maxHeartbeats 1000000 in
theorem problem1_any (x : Tgt) (fr : Int) (B : Nat) (w : World) (h1 : 1 ≤ fr) (h2 : fr ≤ 200) (hc : w.cell? ⟨B, 0, none⟩ = some (.int .i64 fr)) :
    Calls Tryd.prog 73 #[.agg #[.int .i64 x.time, .int .i64 x.value, .int .i64 x.weight], .pointer (some ⟨B, 0, none⟩)] w fun e w' => e = .returned (.bool (!tgtOk fr x)) ∧ Below w.heap.size w w' := by
  have hB := World.block_lt_of_cell? w _ hc
  simp only at hB
  rcases Bool.eq_false_or_eq_true (inB x.time 0 (fr - 1)) with g1 | g1
  rcases Bool.eq_false_or_eq_true (inB x.value (-200000) 200000) with g2 | g2
  · have HE := Lib.hid (show tgtOk fr x = inB x.weight 0 1000 by simp [tgtOk, g1, g2])
    go_enter Tryd.func73, Tryd.ntmps73
    go_wp2_with (go_at_call 48; refine (within_any _ _ _ _).mono ?_; rintro e w' ⟨rfl, rfl⟩)
    go_ret
    exact ⟨ret_bool (by rw [HE.out]), newb _ _⟩
  · have HE := Lib.hid (show tgtOk fr x = false by simp [tgtOk, g2])
    go_enter Tryd.func73, Tryd.ntmps73
    go_wp2_with (go_at_call 48; refine (within_any _ _ _ _).mono ?_; rintro e w' ⟨rfl, rfl⟩)
    go_ret
    exact ⟨ret_bool (by rw [HE.out]; rfl), newb _ _⟩
  · have HE := Lib.hid (show tgtOk fr x = false by simp [tgtOk, g1])
    go_enter Tryd.func73, Tryd.ntmps73
    go_wp2_with (go_at_call 48; refine (within_any _ _ _ _).mono ?_; rintro e w' ⟨rfl, rfl⟩)
    go_ret
    exact ⟨ret_bool (by rw [HE.out]; rfl), newb _ _⟩

set_option maxRecDepth 100000 in
set_option maxHeartbeats 1000000 in
theorem sampled1_any (x rate : Int) (B : Nat) (w : World) (h1 : 1 ≤ rate) (h2 : rate ≤ 192000) (hc : w.cell? ⟨B, 0, none⟩ = some (.int .i64 rate)) :
    Calls Tryd.prog 80 #[.int .i64 x, .pointer (some ⟨B, 0, none⟩)] w fun e w' => e = .returned (.bool (!inB x 0 (500 * rate))) ∧ Below w.heap.size w w' := by
  go_enter Tryd.func80, Tryd.ntmps80
  go_wp2_with (go_at_call 48; refine (within_any _ _ _ _).mono ?_; rintro e w' ⟨rfl, rfl⟩)
  go_ret
  exact ⟨ret_bool rfl, Below.refl _ _⟩

theorem all_next {f : Nat → Bool} {k : Nat} (h : allTo f k = true) (h1 : f k = true) : allTo f (k + 1) = true := allTo_succ h h1

set_option maxRecDepth 100000 in
set_option maxHeartbeats 1000000 in
theorem index_cmd (l : Nat → Cmd) (sp : Nat → Option Addr) (sc : Nat → Nat) (p : Option Addr) (m cap : Nat) (w : World) (hm : m ≤ 9223372036854775807) (hc : Cmds w p m l sp sc) :
    Calls Tryd.prog 71 #[.slice p m cap, .func (.func 53) #[] #[]] w (SomeInt (Idx (allTo (fun i => (l i).valid) m)) w) := by
  have hm' : (m : Int) ≤ 9223372036854775807 := by omega
  go_enter Tryd.func71, Tryd.ntmps71
  go_wp2_with fail
  go_loopw [8] (fun i wr => ∃ k : Nat, k ≤ m ∧ i = .int .i64 k ∧ allTo (fun i => (l i).valid) k = true ∧ Below w.heap.size w wr) (fun i _ => m - (intOf i).toNat)
  case atStart => exact ⟨0, Nat.zero_le _, rfl, rfl, Below.refl _ _⟩
  case round =>
    obtain ⟨k, hk, rfl, hall, hb⟩ := hrel
    have HA := Lib.hid hall
    have HB := Lib.hid hb
    clear hall hb
    by_cases hlt : k < m
    · obtain ⟨b, off, rfl, hbs, hcell⟩ := hc.1.at (by omega)
      have k0 : wr.cell? ⟨b, off + k * 3, none⟩ = some (.int .i64 (l k).ca) := by rw [HB.out.cell hbs]; exact hcell k hlt 0 (by omega)
      have k1 : wr.cell? ⟨b, off + k * 3 + 1, none⟩ = some (.int .i64 (l k).ch) := by rw [HB.out.cell hbs]; exact hcell k hlt 1 (by omega)
      have k2 : wr.cell? ⟨b, off + k * 3 + 2, none⟩ = some (.slice (sp k) (l k).n (sc k)) := by rw [HB.out.cell hbs]; exact hcell k hlt 2 (by omega)
      have HS := Lib.hid (hc.2 k hlt)
      clear hcell
      rcases Bool.eq_false_or_eq_true ((fun i => (l i).valid) k) with g | g
      · have HG := Lib.hid g
        clear g
        go_wp2_with fail
        refine (curve1_any (l k) (sp k) (sc k) _ HS.out.1 (HS.out.2.mono HB.out)).mono ?_
        rintro e w1 ⟨rfl, hb1⟩
        rw [show ((l k).valid) = true from HG.out]
        have HB1 := Lib.hid (HB.out.trans (hb1.mono HB.out.size))
        clear hb1 k0 k1 k2
        go_wp2_with fail
        go_roundw
        case rel => exact ⟨k + 1, by omega, by go_num, all_next HA.out HG.out, HB1.out⟩
        case measure => simp [intOf]; omega
      · have HG := Lib.hid g
        clear g
        go_wp2_with fail
        refine (curve1_any (l k) (sp k) (sc k) _ HS.out.1 (HS.out.2.mono HB.out)).mono ?_
        rintro e w1 ⟨rfl, hb1⟩
        rw [show ((l k).valid) = false from HG.out]
        have HB1 := Lib.hid (HB.out.trans (hb1.mono HB.out.size))
        clear hb1 k0 k1 k2
        go_wp2_with fail
        go_ret
        exact ⟨k, ⟨fun h => (by rw [allTo_false hlt HG.out] at h; cases h), fun _ => by omega⟩, rfl, HB1.out⟩
    · have hle : m ≤ k := by omega
      have HK := Lib.hid (show k = m by omega)
      go_wp2_with fail
      go_ret
      exact ⟨-1, ⟨fun _ => rfl, fun h => (by rw [← HK.out, HA.out] at h; cases h)⟩, rfl, HB.out⟩

set_option maxRecDepth 100000 in
set_option maxHeartbeats 1000000 in
theorem contains_cmd (l : Nat → Cmd) (sp : Nat → Option Addr) (sc : Nat → Nat) (p : Option Addr) (m cap : Nat) (w : World) (hm : m ≤ 9223372036854775807) (hc : Cmds w p m l sp sc) :
    Calls Tryd.prog 52 #[.slice p m cap, .func (.func 53) #[] #[]] w fun e w' => e = .returned (.bool (!allTo (fun i => (l i).valid) m)) ∧ Below w.heap.size w w' := by
  go_enter Tryd.func52, Tryd.ntmps52
  go_wp2_with fail
  refine (index_cmd l sp sc p m cap w hm hc).mono ?_
  rintro e w1 ⟨r, hr, rfl, hb1⟩
  rcases Bool.eq_false_or_eq_true (allTo (fun i => (l i).valid) m) with g | g
  · have h := hr.1 g
    subst h
    have HG := Lib.hid g
    clear hr g
    go_wp2_with fail
    go_ret
    exact ⟨ret_bool (by rw [HG.out]; rfl), hb1⟩
  · have h := hr.2 g
    have HG := Lib.hid g
    clear hr g
    go_wp2_with fail
    go_ret
    exact ⟨ret_bool (by rw [HG.out]; simp), hb1⟩

set_option maxRecDepth 100000 in
set_option maxHeartbeats 1000000 in
theorem index_tgt (tg : Nat → Tgt) (fr : Int) (B : Nat) (p : Option Addr) (m cap : Nat) (w : World) (hm : m ≤ 9223372036854775807) (h1 : 1 ≤ fr) (h2 : fr ≤ 200) (hcap : w.cell? ⟨B, 0, none⟩ = some (.int .i64 fr)) (hc : Row w p m 3 (tgtCell tg)) :
    Calls Tryd.prog 82 #[.slice p m cap, .func (.func 73) #[] #[.pointer (some ⟨B, 0, none⟩)]] w (SomeInt (Idx (allTo (fun i => tgtOk fr (tg i)) m)) w) := by
  have hm' : (m : Int) ≤ 9223372036854775807 := by omega
  go_enter Tryd.func82, Tryd.ntmps82
  go_wp2_with fail
  go_loopw [8] (fun i wr => ∃ k : Nat, k ≤ m ∧ i = .int .i64 k ∧ allTo (fun i => tgtOk fr (tg i)) k = true ∧ Below w.heap.size w wr) (fun i _ => m - (intOf i).toNat)
  case atStart => exact ⟨0, Nat.zero_le _, rfl, rfl, Below.refl _ _⟩
  case round =>
    obtain ⟨k, hk, rfl, hall, hb⟩ := hrel
    have HA := Lib.hid hall
    have HB := Lib.hid hb
    clear hall hb
    by_cases hlt : k < m
    · obtain ⟨b, off, rfl, hbs, hcell⟩ := hc.at (by omega)
      have k0 : wr.cell? ⟨b, off + k * 3, none⟩ = some (.int .i64 (tg k).time) := by rw [HB.out.cell hbs]; exact hcell k hlt 0 (by omega)
      have k1 : wr.cell? ⟨b, off + k * 3 + 1, none⟩ = some (.int .i64 (tg k).value) := by rw [HB.out.cell hbs]; exact hcell k hlt 1 (by omega)
      have k2 : wr.cell? ⟨b, off + k * 3 + 2, none⟩ = some (.int .i64 (tg k).weight) := by rw [HB.out.cell hbs]; exact hcell k hlt 2 (by omega)
      clear hcell
      rcases Bool.eq_false_or_eq_true ((fun i => tgtOk fr (tg i)) k) with g | g
      · have HG := Lib.hid g
        clear g
        go_wp2_with fail
        refine (problem1_any (tg k) fr B _ h1 h2 (keepc HB.out hcap)).mono ?_
        rintro e w1 ⟨rfl, hb1⟩
        rw [show (tgtOk fr (tg k)) = true from HG.out]
        have HB1 := Lib.hid (HB.out.trans (hb1.mono HB.out.size))
        clear hb1 k0 k1 k2
        go_wp2_with fail
        go_roundw
        case rel => exact ⟨k + 1, by omega, by go_num, all_next HA.out HG.out, HB1.out⟩
        case measure => simp [intOf]; omega
      · have HG := Lib.hid g
        clear g
        go_wp2_with fail
        refine (problem1_any (tg k) fr B _ h1 h2 (keepc HB.out hcap)).mono ?_
        rintro e w1 ⟨rfl, hb1⟩
        rw [show (tgtOk fr (tg k)) = false from HG.out]
        have HB1 := Lib.hid (HB.out.trans (hb1.mono HB.out.size))
        clear hb1 k0 k1 k2
        go_wp2_with fail
        go_ret
        exact ⟨k, ⟨fun h => (by rw [allTo_false hlt HG.out] at h; cases h), fun _ => by omega⟩, rfl, HB1.out⟩
    · have hle : m ≤ k := by omega
      have HK := Lib.hid (show k = m by omega)
      go_wp2_with fail
      go_ret
      exact ⟨-1, ⟨fun _ => rfl, fun h => (by rw [← HK.out, HA.out] at h; cases h)⟩, rfl, HB.out⟩

set_option maxRecDepth 100000 in
set_option maxHeartbeats 1000000 in
theorem contains_tgt (tg : Nat → Tgt) (fr : Int) (B : Nat) (p : Option Addr) (m cap : Nat) (w : World) (hm : m ≤ 9223372036854775807) (h1 : 1 ≤ fr) (h2 : fr ≤ 200) (hcap : w.cell? ⟨B, 0, none⟩ = some (.int .i64 fr)) (hc : Row w p m 3 (tgtCell tg)) :
    Calls Tryd.prog 72 #[.slice p m cap, .func (.func 73) #[] #[.pointer (some ⟨B, 0, none⟩)]] w fun e w' => e = .returned (.bool (!allTo (fun i => tgtOk fr (tg i)) m)) ∧ Below w.heap.size w w' := by
  go_enter Tryd.func72, Tryd.ntmps72
  go_wp2_with fail
  refine (index_tgt tg fr B p m cap w hm h1 h2 hcap hc).mono ?_
  rintro e w1 ⟨r, hr, rfl, hb1⟩
  rcases Bool.eq_false_or_eq_true (allTo (fun i => tgtOk fr (tg i)) m) with g | g
  · have h := hr.1 g
    subst h
    have HG := Lib.hid g
    clear hr g
    go_wp2_with fail
    go_ret
    exact ⟨ret_bool (by rw [HG.out]; rfl), hb1⟩
  · have h := hr.2 g
    have HG := Lib.hid g
    clear hr g
    go_wp2_with fail
    go_ret
    exact ⟨ret_bool (by rw [HG.out]; simp), hb1⟩

set_option maxRecDepth 100000 in
set_option maxHeartbeats 1000000 in
theorem index_freq (f : Nat → Int) (rate : Int) (B : Nat) (p : Option Addr) (m cap : Nat) (w : World) (hm : m ≤ 9223372036854775807) (h1 : 1 ≤ rate) (h2 : rate ≤ 192000) (hcap : w.cell? ⟨B, 0, none⟩ = some (.int .i64 rate)) (hc : Ints w p m f) :
    Calls Tryd.prog 83 #[.slice p m cap, .func (.func 80) #[] #[.pointer (some ⟨B, 0, none⟩)]] w (SomeInt (Idx (allTo (fun i => inB (f i) 0 (500 * rate)) m)) w) := by
  have hm' : (m : Int) ≤ 9223372036854775807 := by omega
  go_enter Tryd.func83, Tryd.ntmps83
  go_wp2_with fail
  go_loopw [8] (fun i wr => ∃ k : Nat, k ≤ m ∧ i = .int .i64 k ∧ allTo (fun i => inB (f i) 0 (500 * rate)) k = true ∧ Below w.heap.size w wr) (fun i _ => m - (intOf i).toNat)
  case atStart => exact ⟨0, Nat.zero_le _, rfl, rfl, Below.refl _ _⟩
  case round =>
    obtain ⟨k, hk, rfl, hall, hb⟩ := hrel
    have HA := Lib.hid hall
    have HB := Lib.hid hb
    clear hall hb
    by_cases hlt : k < m
    · obtain ⟨b, off, rfl, hbs, hcell⟩ := hc.at (by omega)
      have k0 : wr.cell? ⟨b, off + k, none⟩ = some (.int .i64 (f k)) := by rw [HB.out.cell hbs]; exact hcell k hlt
      clear hcell
      rcases Bool.eq_false_or_eq_true ((fun i => inB (f i) 0 (500 * rate)) k) with g | g
      · have HG := Lib.hid g
        clear g
        go_wp2_with fail
        refine (sampled1_any (f k) rate B _ h1 h2 (keepc HB.out hcap)).mono ?_
        rintro e w1 ⟨rfl, hb1⟩
        rw [show (inB (f k) 0 (500 * rate)) = true from HG.out]
        have HB1 := Lib.hid (HB.out.trans (hb1.mono HB.out.size))
        clear hb1 k0
        go_wp2_with fail
        go_roundw
        case rel => exact ⟨k + 1, by omega, by go_num, all_next HA.out HG.out, HB1.out⟩
        case measure => simp [intOf]; omega
      · have HG := Lib.hid g
        clear g
        go_wp2_with fail
        refine (sampled1_any (f k) rate B _ h1 h2 (keepc HB.out hcap)).mono ?_
        rintro e w1 ⟨rfl, hb1⟩
        rw [show (inB (f k) 0 (500 * rate)) = false from HG.out]
        have HB1 := Lib.hid (HB.out.trans (hb1.mono HB.out.size))
        clear hb1 k0
        go_wp2_with fail
        go_ret
        exact ⟨k, ⟨fun h => (by rw [allTo_false hlt HG.out] at h; cases h), fun _ => by omega⟩, rfl, HB1.out⟩
    · have hle : m ≤ k := by omega
      have HK := Lib.hid (show k = m by omega)
      go_wp2_with fail
      go_ret
      exact ⟨-1, ⟨fun _ => rfl, fun h => (by rw [← HK.out, HA.out] at h; cases h)⟩, rfl, HB.out⟩

set_option maxRecDepth 100000 in
set_option maxHeartbeats 1000000 in
theorem contains_freq (f : Nat → Int) (rate : Int) (B : Nat) (p : Option Addr) (m cap : Nat) (w : World) (hm : m ≤ 9223372036854775807) (h1 : 1 ≤ rate) (h2 : rate ≤ 192000) (hcap : w.cell? ⟨B, 0, none⟩ = some (.int .i64 rate)) (hc : Ints w p m f) :
    Calls Tryd.prog 79 #[.slice p m cap, .func (.func 80) #[] #[.pointer (some ⟨B, 0, none⟩)]] w fun e w' => e = .returned (.bool (!allTo (fun i => inB (f i) 0 (500 * rate)) m)) ∧ Below w.heap.size w w' := by
  go_enter Tryd.func79, Tryd.ntmps79
  go_wp2_with fail
  refine (index_freq f rate B p m cap w hm h1 h2 hcap hc).mono ?_
  rintro e w1 ⟨r, hr, rfl, hb1⟩
  rcases Bool.eq_false_or_eq_true (allTo (fun i => inB (f i) 0 (500 * rate)) m) with g | g
  · have h := hr.1 g
    subst h
    have HG := Lib.hid g
    clear hr g
    go_wp2_with fail
    go_ret
    exact ⟨ret_bool (by rw [HG.out]; rfl), hb1⟩
  · have h := hr.2 g
    have HG := Lib.hid g
    clear hr g
    go_wp2_with fail
    go_ret
    exact ⟨ret_bool (by rw [HG.out]; simp), hb1⟩
end Go.Proofs.YtijonghofghocaaDoor
