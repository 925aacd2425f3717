/-
  What the closings of all laws of the seat share: the table that the rows list, a world for the witnesses. Own work; after the guide's toy of a row that lists a table.
-/
import Derived.Test.YtoeepogoogcbiaaDoorAmY
import Derived.Test.YtoeepogoogcbiaaDoorCltE
import Derived.Test.YtoeepogoogcbiaaDoorRows
import Derived.WalkKit
import Derived.ProofKit
import Derived.OpenShut
import Derived.Deep.DeepHandedRow
import Derived.Lib.LaidTab
import Derived.LaidSub
namespace Go.Am.Close
open Go Go.Am Go.ChangeShapes Go.WideShapes Go.ChangeAt Go.RowKit Go.Proofs Go.Proofs.YtoeepogoogcbiaaDoor
set_option maxRecDepth 100000

theorem own : ownKnob Tryd.prog.godebug = none := by kernel_rfl
theorem laidOut : laidOutB Tryd.prog = true := by kernel_rfl
theorem gS : Tryd.prog.globalNamed "perigee/cltu.start" = some 0 := by kernel_rfl
theorem gH : Tryd.prog.globalNamed "perigee/cltu.halves" = some 1 := by kernel_rfl
theorem gST : (Tryd.prog.globals[0]?).map (·.type) = some 64 := by kernel_rfl
theorem gHT : (Tryd.prog.globals[1]?).map (·.type) = some 68 := by kernel_rfl
theorem cellsS : Tryd.prog.cellsOf 64 = 2 := by kernel_rfl
theorem cellsH : Tryd.prog.cellsOf 68 = 16 := by kernel_rfl
theorem cellsE : Tryd.prog.cellsOf 5 = 1 := by kernel_rfl
def tabS : List Int := [235, 144]
def tabH : List Int := [0, 69, 79, 10, 91, 30, 20, 81, 115, 54, 60, 121, 40, 109, 103, 34]
theorem cells_tab {W : World} {name : String} {g n : Nat} {tab : List Int} {vals : List Value} (hn : tab.length = n) (h0n : 0 < n) (hv : vals = tab.map (Value.int .u8)) (hg : Tryd.prog.globalNamed name = some g) (ht : Lib.TabIs Tryd.prog W name .u8 tab) :
    g < W.heap.size ∧ ∃ cs t fr rest, W.heap[g]? = some (.cells cs t fr) ∧ cs.toList = vals ++ rest := by
  have hc (i : Nat) (hi : i < n) : W.cell? ⟨g, i, none⟩ = some (.int .u8 (tab.getD i 0)) := ht.cell hg i (by omega)
  have h0 := hc 0 h0n
  unfold World.cell? at h0
  have hlt : g < W.heap.size := by
    rcases Nat.lt_or_ge g W.heap.size with e | e
    · exact e
    · rw [Array.getElem?_eq_none e] at h0; cases h0
  refine ⟨hlt, ?_⟩
  have hob : W.heap[g]? = some (W.heap[g]'hlt) := Array.getElem?_eq_getElem hlt
  generalize W.heap[g]'hlt = ob at hob
  cases ob with
  | cells cs t fr =>
    refine ⟨cs, t, fr, cs.toList.drop n, hob, ?_⟩
    have hsz : ∀ i : Nat, i < n → cs.toList[i]? = some (.int .u8 (tab.getD i 0)) := fun i hi => by
      have := hc i hi
      unfold World.cell? at this
      simp only [hob] at this
      simpa using this
    rw [← List.take_append_drop n cs.toList]
    congr 1
    · apply List.ext_getElem?
      intro i
      by_cases hi : i < n
      · rw [List.getElem?_take_of_lt hi, hsz i hi, hv]
        have hj : i < tab.length := by omega
        simp only [List.getElem?_map, List.getD_eq_getElem?_getD, List.getElem?_eq_getElem hj, Option.map_some, Option.getD_some]
      · rw [List.getElem?_eq_none (by simp; omega), List.getElem?_eq_none (by rw [hv, List.length_map]; omega)]
    · rw [List.take_append_drop]
  | _ => rw [hob] at h0; cases h0
def laidL : List (String × DataW Unit) := [("perigee/cltu.start", Rows.laid_perigee_cltu_start), ("perigee/cltu.halves", Rows.laid_perigee_cltu_halves)]
theorem laidH_only : laidL.filter (fun x => x.1 == "perigee/cltu.halves") = [("perigee/cltu.halves", Rows.laid_perigee_cltu_halves)] := by kernel_rfl
theorem gok {W : World} (h : laidMetH Tryd.prog laidL W) : GOk Clt.G0 W := by
  have h' : laidMet Tryd.prog laidL W := h
  have hS : Lib.TabIs Tryd.prog W "perigee/cltu.start" .u8 tabS := Lib.tabIs_of_head (rest := [("perigee/cltu.halves", Rows.laid_perigee_cltu_halves)]) gS gST Tryd.underlying64 Tryd.underlying5 cellsE cellsS h'
  have h2 := laidMet.filter (fun x => x.1 == "perigee/cltu.halves") h'
  rw [laidH_only] at h2
  have hH : Lib.TabIs Tryd.prog W "perigee/cltu.halves" .u8 tabH := Lib.tabIs_of_head (rest := []) gH gHT Tryd.underlying68 Tryd.underlying5 cellsE cellsH h2
  intro g vs hg
  unfold Clt.G0 at hg
  split at hg
  · cases hg
    exact ⟨by decide, cells_tab (n := 2) rfl (by omega) rfl gS hS⟩
  · cases hg
    exact ⟨by decide, cells_tab (n := 16) rfl (by omega) rfl gH hH⟩
  · cases hg

def withCells (vs : List Value) (o : Obj) : Obj := match o with
  | .cells _ t frozen => .cells vs.toArray t frozen
  | o => o
/-- A world for the witness: the settled one, the two variables (blocks 0 and 1) holding what their initialisers lay. -/
noncomputable def laidWorld (os : Os) : World :=
  { World.holding Tryd.prog os ⟨#[], #[], []⟩ with heap := ((World.holding Tryd.prog os ⟨#[], #[], []⟩).heap.modify 0 (withCells Clt.startV)).modify 1 (withCells Clt.halvesV) }

/-! ### the closed facts of a row: those that are the same for every row of the seat, and the others -/
def light (P : Program) (fn : Func) (s : ChangeSpec) (c : OpenClaim) : Bool :=
  c.wf (OpenSpec.ofChange s) && (fn.params.all (P.readableRec ·) && (namedTie P c.named s.vars && ((c.stops == []) && ((P.stops == []) && ((c.knobs == []) && ((P.stopKnobs == []) &&
  ((c.maps == (fn.params.toList ++ s.plain.varTypes P).any (P.mapsRec ·)) && ((c.ifaces == (fn.params.toList ++ s.plain.varTypes P).any (P.ifacesRec ·)) && ((c.mapsOut == P.mapsAmong fn.resultTypes.toList) &&
  ((c.loops == (fn.params.toList ++ s.plain.varTypes P).any (P.loopsFrom ·)) && ((c.wideKeys == (fn.params.toList ++ s.plain.varTypes P ++ fn.resultTypes.toList).any (P.wideKeysFrom ·)) &&
  (s.vars.all (P.varReadable ·) && (fn.resultTypes.all (fun t => P.readableRec t && decide (t < P.types.size)) && ((c.ifacesOut == fn.resultTypes.toList.any (P.ifacesRec ·)) && ((c.loopsOut == fn.resultTypes.toList.any (P.loopsFrom ·)) && (c.shortTexts.isNone &&
  ((c.kinds == (if c.domain.isEmpty then [] else fn.params.toList.map fun t => match P.underlying t with | some (.int k) => some k | _ => none)) && ((c.pinned == c.pinnedBy) &&
  ((c.veiled == (fn.params.toList ++ s.plain.varTypes P ++ fn.resultTypes.toList).any (P.veiledRec ·)) && c.veiledFits P fn.params.toList (fn.params.toList ++ s.plain.varTypes P ++ fn.resultTypes.toList))))))))))))))))))))
theorem joined_of {P : Program} {f : FuncId} {fn : Func} {s : ChangeSpec} {c : OpenClaim} (hl : light P fn s c = true) (h2 : laidOutB P = true) (h3 : mapsRowed P = true) (h10 : (c.inPlace == P.inPlace f) = true) (h11 : (c.unfollowed == P.unfollowed f) = true)
    (h12 : (c.recurses == P.recurses f) = true) (h13 : (c.named == P.varsNamed f) = true) (h23 : (c.plainKeys == P.plainKeys) = true) (h25 : P.stopsHeard = true) (h26 : P.mayEnter = true) (h27 : (c.lifted == P.liftsFinal) = true) (h28 : (P.make == some c.make) = true) :
    joinedFacts P f fn s c = true := by
  unfold light at hl
  unfold joinedFacts
  simp only [Bool.and_eq_true] at hl ⊢
  obtain ⟨a1, a2, a3, a4, a5, a6, a7, a8, a9, a10, a11, a12, a13, a14, a15, a16, a17, a18, a19, a20, a21⟩ := hl
  and_intros <;> assumption
theorem mapsRow : mapsRowed Tryd.prog = true := by kernel_rfl
theorem heard : Tryd.prog.stopsHeard = true := by kernel_rfl
theorem enter : Tryd.prog.mayEnter = true := by kernel_rfl
theorem lifts : (Rows.cltuBlocksRow.lifted == Tryd.prog.liftsFinal) = true := by kernel_rfl
theorem makes : (Tryd.prog.make == some Rows.cltuBlocksRow.make) = true := by kernel_rfl
theorem keys : (Rows.cltuBlocksRow.plainKeys == Tryd.prog.plainKeys) = true := by kernel_rfl
theorem sized_string {H : Type} {P : Program} {l : List UInt8} {t : TypeId} : ∀ {ts : List TypeId} {ds : List (DataW H)} {j : Nat}, (DataW.weightsEach P ts ds).all (· ≤ reachBytes) = true → ts[j]? = some t → ds[j]? = some (.lit (.string l)) → l.length ≤ reachBytes
  | [], _, _, _, h, _ => by simp at h
  | _ :: _, [], _, _, _, h => by simp at h
  | t0 :: ts, d :: ds, 0, h, _, h2 => by
    simp only [List.getElem?_cons_zero, Option.some.injEq] at h2
    subst h2
    rw [DataW.weightsEach, List.all_append, Bool.and_eq_true] at h
    have h3 := h.1
    rw [DataW.weights] at h3
    simpa using h3
  | t0 :: ts, d :: ds, j + 1, h, h1, h2 => by
    rw [DataW.weightsEach, List.all_append, Bool.and_eq_true] at h
    exact sized_string (ts := ts) (ds := ds) (j := j) h.2 (by simpa using h1) (by simpa using h2)
theorem size_ok {s : ByteArray} (h : s.data.toList.length ≤ reachBytes) : s.size < 2 ^ 62 := by
  have e : s.data.toList.length = s.size := by rw [Array.length_toList]; rfl
  rw [e] at h
  exact Nat.lt_of_le_of_lt h (by decide)
theorem bounds (k : IntKind) {x : Int} (w : (Lit.int k x).wf = true) : k.min ≤ x ∧ x ≤ k.max := by simpa [Lit.wf] using w
end Go.Am.Close
