/-
  What the closings of all laws of the seat share: the table that the rows list, a world for the witnesses. Own work; after the guide's toy of a row that lists a table.
-/
import Derived.Test.YtecocfcaeenaoaaDoorAmY
import Derived.Test.YtecocfcaeenaoaaDoorHamX
import Derived.Test.YtecocfcaeenaoaaDoorRows
import Derived.WalkKit
import Derived.ProofKit
import Derived.OpenShut
import Derived.Deep.DeepHandedRow
import Derived.Lib.LaidTab
namespace Go.Am.Close
open Go Go.Am Go.ChangeShapes Go.WideShapes Go.ChangeAt Go.RowKit Go.Proofs Go.Proofs.YtecocfcaeenaoaaDoor
set_option maxRecDepth 100000

theorem own : ownKnob Tryd.prog.godebug = none := by kernel_rfl
theorem laidOut : laidOutB Tryd.prog = true := by kernel_rfl
theorem gTab : Tryd.prog.globalNamed "math/bits.deBruijn64tab" = some 0 := by kernel_rfl
theorem gTabType : (Tryd.prog.globals[0]?).map (·.type) = some 109 := by kernel_rfl
theorem cellsT : Tryd.prog.cellsOf 109 = 64 := by kernel_rfl
theorem cellsE : Tryd.prog.cellsOf 5 = 1 := by kernel_rfl
def tab : List Int := Ham.tzTab.map fun n => ((n : Nat) : Int)
theorem gok {W : World} (h : laidMetH Tryd.prog [("math/bits.deBruijn64tab", Rows.laid_math_bits_deBruijn64tab)] W) : GOk Ham.G0 W := by
  intro g vs hg
  unfold Ham.G0 at hg
  split at hg
  · cases hg
    have ht : Lib.TabIs Tryd.prog W "math/bits.deBruijn64tab" .u8 tab := Lib.tabIs_of_head (rest := []) gTab gTabType Tryd.underlying109 Tryd.underlying5 cellsE cellsT h
    have hc (i : Nat) (hi : i < 64) : W.cell? ⟨0, i, none⟩ = some (.int .u8 (tab.getD i 0)) := ht.cell gTab i (by show i < 64; exact hi)
    have h0 := hc 0 (by omega)
    unfold World.cell? at h0
    have hlt : 0 < W.heap.size := by
      rcases Nat.eq_zero_or_pos W.heap.size with e | e
      · rw [Array.getElem?_eq_none (by omega)] at h0; cases h0
      · exact e
    have hob : W.heap[0]? = some (W.heap[0]'hlt) := Array.getElem?_eq_getElem hlt
    generalize W.heap[0]'hlt = ob at hob
    cases ob with
    | cells cs t fr =>
      refine ⟨by decide, hlt, cs, t, fr, cs.toList.drop 64, hob, ?_⟩
      have hsz : ∀ i : Nat, i < 64 → cs.toList[i]? = some (.int .u8 (tab.getD i 0)) := fun i hi => by
        have := hc i hi
        unfold World.cell? at this
        simp only [hob] at this
        simpa using this
      rw [← List.take_append_drop 64 cs.toList]
      congr 1
      · apply List.ext_getElem?
        intro i
        by_cases hi : i < 64
        · rw [List.getElem?_take_of_lt hi, hsz i hi]
          have : ∀ j : Fin 64, Ham.tzVals[j.val]? = some (.int .u8 (tab.getD j.val 0)) := by
            intro j
            have hj : j.val < Ham.tzTab.length := j.isLt
            simp only [Ham.tzVals, tab, List.getElem?_map, List.getD_eq_getElem?_getD, List.getElem?_eq_getElem hj, Option.map_some, Option.getD_some]
          exact (this ⟨i, hi⟩).symm
        · rw [List.getElem?_eq_none (by simp; omega), List.getElem?_eq_none (by show 64 ≤ i; omega)]
      · rw [List.take_append_drop]
    | _ => rw [hob] at h0; cases h0
  · cases hg

/-- A world for the witness: the settled one, the table (block 0) holding what its initialiser lays. -/
noncomputable def laidWorld (os : Os) : World :=
  { World.holding Tryd.prog os ⟨#[], #[], []⟩ with heap := (World.holding Tryd.prog os ⟨#[], #[], []⟩).heap.modify 0 fun
      | .cells _ t frozen => .cells Ham.tzVals.toArray t frozen
      | o => o }

/-! ### the closed facts of a row: those that are the same for every row of the seat, and the others -/
def light (P : Program) (fn : Func) (s : ChangeSpec) (c : OpenClaim) : Bool :=
  c.wf (OpenSpec.ofChange s) && (fn.params.all (P.readableRec ·) && (namedTie P c.named s.vars && ((c.stops == []) && ((P.stops == []) && ((c.knobs == []) && ((P.stopKnobs == []) &&
  ((c.maps == (fn.params.toList ++ s.plain.varTypes P).any (P.mapsRec ·)) && ((c.ifaces == (fn.params.toList ++ s.plain.varTypes P).any (P.ifacesRec ·)) && ((c.mapsOut == P.mapsAmong fn.resultTypes.toList) &&
  ((c.loops == (fn.params.toList ++ s.plain.varTypes P).any (P.loopsFrom ·)) && ((c.wideKeys == (fn.params.toList ++ s.plain.varTypes P ++ fn.resultTypes.toList).any (P.wideKeysFrom ·)) &&
  (s.vars.all (P.varReadable ·) && (fn.resultTypes.all (fun t => P.readableRec t && decide (t < P.types.size)) && ((c.ifacesOut == fn.resultTypes.toList.any (P.ifacesRec ·)) && ((c.loopsOut == fn.resultTypes.toList.any (P.loopsFrom ·)) && (c.shortTexts.isNone &&
  ((c.kinds == (if c.domain.isEmpty then [] else fn.params.toList.map fun t => match P.underlying t with | some (.int k) => some k | _ => none)) && ((c.pinned == c.pinnedBy) &&
  ((c.veiled == (fn.params.toList ++ s.plain.varTypes P ++ fn.resultTypes.toList).any (P.veiledRec ·)) && c.veiledFits P fn.params.toList (fn.params.toList ++ s.plain.varTypes P ++ fn.resultTypes.toList))))))))))))))))))))
theorem joined_of {P : Program} {f : FuncId} {fn : Func} {s : ChangeSpec} {c : OpenClaim} (hl : light P fn s c = true) (h2 : laidOutB P = true) (h3 : mapsRowed P = true) (h10 : (c.inPlace == P.inPlace f) = true) (h11 : (c.unfollowed == P.unfollowed f) = true)
    (h12 : (c.recurses == P.recurses f) = true) (h13 : (c.named == P.varsNamed f) = true) (h23 : (c.plainKeys == P.plainKeys) = true) (h25 : P.stopsHeard = true) (h26 : P.mayEnter = true) (h27 : (c.lifted == P.liftsFinal) = true) (h28 : (P.make == some c.make) = true) :
    joinedFacts P f fn s c = true := by
  unfold light at hl
  unfold joinedFacts
  simp only [Bool.and_eq_true] at hl ⊢
  obtain ⟨a1, a2, a3, a4, a5, a6, a7, a8, a9, a10, a11, a12, a13, a14, a15, a16, a17, a18, a19, a20, a21⟩ := hl
  and_intros <;> assumption
theorem mapsRow : mapsRowed Tryd.prog = true := by kernel_rfl
theorem heard : Tryd.prog.stopsHeard = true := by kernel_rfl
theorem enter : Tryd.prog.mayEnter = true := by kernel_rfl
theorem lifts : (Rows.patchesVersionsRow.lifted == Tryd.prog.liftsFinal) = true := by kernel_rfl
theorem makes : (Tryd.prog.make == some Rows.patchesVersionsRow.make) = true := by kernel_rfl
theorem keys : (Rows.patchesVersionsRow.plainKeys == Tryd.prog.plainKeys) = true := by kernel_rfl
theorem bounds (k : IntKind) {x : Int} (w : (Lit.int k x).wf = true) : k.min ≤ x ∧ x ≤ k.max := by simpa [Lit.wf] using w
end Go.Am.Close
