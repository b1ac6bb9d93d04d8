/-
  What each law's row wants beside its walk: that arguments which are only read read again, the table of semitones, the laid world. No condition.
-/
import Derived.Test.YtijonghofghocaaDoorKnown
import Derived.Test.YtijonghofghocaaDoorCards
import Derived.Test.YtijonghofghocaaDoorTie
import Derived.ProofKit
import Derived.OpenShut
import Derived.ReadAgain
import Derived.ChangeSame
import Derived.Deep.DeepHandedRow
import Derived.Lib.LaidTab
import Derived.Lib.SmallJoins
namespace Go.Proofs.YtijonghofghocaaDoor
open Go.ChangeShapes Go.WideShapes Go.ChangeAt Go.RowKit

theorem kids : Kids Tryd.prog (· < Tryd.prog.types.size) := kids_rows (by kernel_rfl) (by kernel_rfl)
theorem full : ∀ t e, t < Tryd.prog.types.size → Tryd.prog.underlying t = some (.slice e) → 0 < Tryd.prog.cellsOf e := slices_full_of Tryd.prog (by kernel_rfl)
theorem own : ownKnob Tryd.prog.godebug = none := by kernel_rfl
theorem gTab : Tryd.prog.globalNamed "declaim/api.Semitones" = some 0 := by kernel_rfl
theorem gTabType : (Tryd.prog.globals[0]?).map (·.type) = some 96 := by kernel_rfl
theorem cells96 : Tryd.prog.cellsOf 96 = 13 := by kernel_rfl
theorem cells3 : Tryd.prog.cellsOf 3 = 1 := by kernel_rfl

/-- What each row lists. -/
def laidHere {H : Type} : List (String × DataW H) := [("declaim/api.Semitones", Rows.laid_declaim_api_Semitones)]
theorem table {W : World} (h : laidMetH Tryd.prog laidHere W) : Table W := by
  have t : Lib.TabIs Tryd.prog W "declaim/api.Semitones" .i64 [1048576, 1110928, 1176987, 1246974, 1321123, 1399681, 1482910, 1571089, 1664511, 1763488, 1868350, 1979448, 2097152] :=
    Lib.tabIs_of_head (rest := []) gTab gTabType Tryd.underlying96 Tryd.underlying3 cells3 cells96 h
  intro i hi
  have := t.cell gTab i (by simpa using hi)
  rw [this]
  rfl

section
variable {H : Type} {enc : TypeId × Value → H}
/-- Arguments that are only read read again, in a later world. -/
theorem args_again {W W' : World} {sp : Nat → Bool} {ts : List TypeId} {vs : List Value} {ds : List (DataW H)} {ps : List MemPlace} (ht : ∀ t ∈ ts, t < Tryd.prog.types.size)
    (h : DataW.TrodAll enc Tryd.prog W 0 (fun _ => true) true ts vs ds ps) (hlt : ∀ p ∈ ps, p.block < W.heap.size) (hb : Below W.heap.size W W') (hsp : ∀ p ∈ ps, sp p.block = true) : DataW.TrodAll enc Tryd.prog W' 0 sp true ts vs ds ps := by
  have h1 := DataW.TrodAll.respare kids full ht h hsp
  have key : ∀ {ts : List TypeId} {vs : List Value} {ds : List (DataW H)} {ps : List MemPlace}, (∀ p ∈ ps, p.block < W.heap.size) → DataW.TrodAll enc Tryd.prog W 0 sp true ts vs ds ps → DataW.TrodAll enc Tryd.prog W' 0 sp true ts vs ds ps := by
    intro ts
    induction ts with
    | nil =>
      intro vs ds ps _ h
      obtain ⟨rfl, rfl, rfl⟩ := trodAll_nil h
      exact h
    | cons t ts ih =>
      intro vs ds ps hlt h
      obtain ⟨v, vs1, d, ds1, a, b, rfl, rfl, rfl, ⟨n, hn⟩, h2⟩ := trodAll_cons h
      refine ⟨a, b, ⟨n, DataW.trod_carry n _ _ _ hn fun p hp => ?_⟩, ih (fun p hp => hlt p (by simp [hp])) h2, rfl⟩
      have hp' := hlt p (by simp [hp])
      cases p with
      | cell b off => exact hb.cell (p := ⟨b, off, none⟩) hp'
      | map b => exact hb.block b hp'
  exact key hlt h1
/-- A law's end: true, and each argument reads as it did. -/
theorem law_post {f : Func} {s : ChangeSpec} {W W' : World} {args : Array Value} {ds : List (DataW H)} {p : List MemPlace} (hf : ∀ t ∈ f.params.toList, t < Tryd.prog.types.size) (hr : f.resultTypes = #[4])
    (hs : s.vars = []) (hW : DataW.Whole enc Tryd.prog f.params.toList s.vars false W args.toList ds [] p) (hfn : s.fn H (ds ++ []) = { results := [.lit (.bool true)], args := ds }) (hb : Below W.heap.size W W') :
    s.post enc Tryd.prog f false true false false W args (.bool true) W' := by
  have hlt : ∀ q ∈ p, q.block < W.heap.size := fun q hq => hW.lt q hq
  have hW2 := hW
  obtain ⟨p1, p2, h1, h2, he, hz, hn⟩ := hW2
  have hp2 : p2 = [] := by
    rw [hs] at h2
    exact (trodVars_none h2).2
  subst hp2
  rw [List.append_nil] at he
  subst he
  refine ⟨ds, [], p, [], p, [], hW, ?_, ?_, ?_, World.keptBut_mono (fun q hq => ⟨hq, .inr (.inl hq)⟩) (hb.frame (· ∈ p)), fun h => by cases h⟩
  · rw [hr, hfn]
    exact trodAll_cons_mk (shut_bool Tryd.underlying4 _) trodAll_mk0
  · rw [hfn]
    exact args_again hf h1 hlt hb fun q hq => by simpa using hlt q hq
  · rw [hs, hfn]
    rfl
/-- A law that answers true and only makes memory, met by its row. -/
theorem law_contract {fid : FuncId} {f : Func} {s : ChangeSpec} {W : World} {args : Array Value} {ds : List (DataW H)} {p : List MemPlace} (hw : Calls Tryd.prog fid args W fun e w' => e = .returned (.bool true) ∧ Below W.heap.size W w')
    (hf : ∀ t ∈ f.params.toList, t < Tryd.prog.types.size) (hr : f.resultTypes = #[4])
    (hs : s.vars = []) (hW : DataW.Whole enc Tryd.prog f.params.toList s.vars false W args.toList ds [] p) (hfn : s.fn H (ds ++ []) = { results := [.lit (.bool true)], args := ds }) :
    Calls Tryd.prog fid args W fun e W' => ∃ v, e = .returned v ∧ s.post enc Tryd.prog f false true false false W args v W' :=
  hw.mono fun _ _ ⟨he, hb⟩ => ⟨_, he, law_post hf hr hs hW hfn hb⟩
end

/-- A world in which the table holds what its initialiser lays. -/
noncomputable def laidWorld (os : Os) : World :=
  { World.holding Tryd.prog os ⟨#[], #[], []⟩ with heap := (World.holding Tryd.prog os ⟨#[], #[], []⟩).heap.modify 0 fun
      | .cells _ t frozen => .cells (#[1048576, 1110928, 1176987, 1246974, 1321123, 1399681, 1482910, 1571089, 1664511, 1763488, 1868350, 1979448, 2097152].map (Value.int .i64)) t frozen
      | o => o }
theorem laid_met (os : Os) (args : Array Value) : laidMet Tryd.prog laidHere ((laidWorld os).forCall (fun _ _ => 0) ⟨#[], args, []⟩).memory :=
  laidMet_of_run' 8 (by kernel_rfl) (by kernel_rfl)
end Go.Proofs.YtijonghofghocaaDoor
