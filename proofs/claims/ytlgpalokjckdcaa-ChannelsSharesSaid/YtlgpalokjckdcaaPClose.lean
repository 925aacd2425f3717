/-
  What the closings of all laws of the seat share: a world for the witnesses, the closed facts. Own work; after the guide's toys.
-/
import Derived.Test.YtlgpalokjckdcaaAmY
import Derived.Test.YtlgpalokjckdcaaPktX
import Derived.Test.YtlgpalokjckdcaaRows
import Derived.WalkKit
import Derived.ProofKit
import Derived.OpenShut
import Derived.Deep.DeepHandedRow
namespace Go.Am.Close
open Go Go.Am Go.ChangeShapes Go.WideShapes Go.ChangeAt Go.RowKit Go.Proofs Go.Proofs.Ytlgpalokjckdcaa
set_option maxRecDepth 100000

theorem own : ownKnob Try.prog.godebug = none := by kernel_rfl
theorem laidOut : laidOutB Try.prog = true := by kernel_rfl
theorem gok {W : World} : GOk Pkt.G0 W := fun _ _ h => by cases h

/-- A world for the witness. -/
noncomputable def laidWorld (os : Os) : World := World.holding Try.prog os ⟨#[], #[], []⟩

/-! ### the closed facts of a row: those that are the same for every row of the seat, and the others -/
def light (P : Program) (fn : Func) (s : ChangeSpec) (c : OpenClaim) : Bool :=
  c.wf (OpenSpec.ofChange s) && (fn.params.all (P.readableRec ·) && (namedTie P c.named s.vars && ((c.stops == []) && ((P.stops == []) && ((c.knobs == []) && ((P.stopKnobs == []) &&
  ((c.maps == (fn.params.toList ++ s.plain.varTypes P).any (P.mapsRec ·)) && ((c.ifaces == (fn.params.toList ++ s.plain.varTypes P).any (P.ifacesRec ·)) && ((c.mapsOut == P.mapsAmong fn.resultTypes.toList) &&
  ((c.loops == (fn.params.toList ++ s.plain.varTypes P).any (P.loopsFrom ·)) && ((c.wideKeys == (fn.params.toList ++ s.plain.varTypes P ++ fn.resultTypes.toList).any (P.wideKeysFrom ·)) &&
  (s.vars.all (P.varReadable ·) && (fn.resultTypes.all (fun t => P.readableRec t && decide (t < P.types.size)) && ((c.ifacesOut == fn.resultTypes.toList.any (P.ifacesRec ·)) && ((c.loopsOut == fn.resultTypes.toList.any (P.loopsFrom ·)) && (c.shortTexts.isNone &&
  ((c.kinds == (if c.domain.isEmpty then [] else fn.params.toList.map fun t => match P.underlying t with | some (.int k) => some k | _ => none)) && ((c.pinned == c.pinnedBy) &&
  ((c.veiled == (fn.params.toList ++ s.plain.varTypes P ++ fn.resultTypes.toList).any (P.veiledRec ·)) && c.veiledFits P fn.params.toList (fn.params.toList ++ s.plain.varTypes P ++ fn.resultTypes.toList))))))))))))))))))))
theorem joined_of {P : Program} {f : FuncId} {fn : Func} {s : ChangeSpec} {c : OpenClaim} (hl : light P fn s c = true) (h2 : laidOutB P = true) (h3 : mapsRowed P = true) (h10 : (c.inPlace == P.inPlace f) = true) (h11 : (c.unfollowed == P.unfollowed f) = true)
    (h12 : (c.recurses == P.recurses f) = true) (h13 : (c.named == P.varsNamed f) = true) (h23 : (c.plainKeys == P.plainKeys) = true) (h25 : P.stopsHeard = true) (h26 : P.mayEnter = true) (h27 : (c.lifted == P.liftsFinal) = true) (h28 : (P.make == some c.make) = true) :
    joinedFacts P f fn s c = true := by
  unfold light at hl
  unfold joinedFacts
  simp only [Bool.and_eq_true] at hl ⊢
  obtain ⟨a1, a2, a3, a4, a5, a6, a7, a8, a9, a10, a11, a12, a13, a14, a15, a16, a17, a18, a19, a20, a21⟩ := hl
  and_intros <;> assumption
theorem mapsRow : mapsRowed Try.prog = true := by kernel_rfl
theorem heard : Try.prog.stopsHeard = true := by kernel_rfl
theorem enter : Try.prog.mayEnter = true := by kernel_rfl
theorem lifts : (Rows.channelsDemuxRow.lifted == Try.prog.liftsFinal) = true := by kernel_rfl
theorem makes : (Try.prog.make == some Rows.channelsDemuxRow.make) = true := by kernel_rfl
theorem keys : (Rows.channelsDemuxRow.plainKeys == Try.prog.plainKeys) = true := by kernel_rfl
theorem sized_string {H : Type} {P : Program} {l : List UInt8} {t : TypeId} : ∀ {ts : List TypeId} {ds : List (DataW H)} {j : Nat}, (DataW.weightsEach P ts ds).all (· ≤ reachBytes) = true → ts[j]? = some t → ds[j]? = some (.lit (.string l)) → l.length ≤ reachBytes
  | [], _, _, _, h, _ => by simp at h
  | _ :: _, [], _, _, _, h => by simp at h
  | t0 :: ts, d :: ds, 0, h, _, h2 => by
    simp only [List.getElem?_cons_zero, Option.some.injEq] at h2
    subst h2
    rw [DataW.weightsEach, List.all_append, Bool.and_eq_true] at h
    have h3 := h.1
    rw [DataW.weights] at h3
    simpa using h3
  | t0 :: ts, d :: ds, j + 1, h, h1, h2 => by
    rw [DataW.weightsEach, List.all_append, Bool.and_eq_true] at h
    exact sized_string (ts := ts) (ds := ds) (j := j) h.2 (by simpa using h1) (by simpa using h2)
theorem sized_at {H : Type} {P : Program} {t : TypeId} {d : DataW H} : ∀ {ts : List TypeId} {ds : List (DataW H)} {j : Nat}, (DataW.weightsEach P ts ds).all (· ≤ reachBytes) = true → ts[j]? = some t → ds[j]? = some d → (DataW.weights P t d).all (· ≤ reachBytes) = true
  | [], _, _, _, h, _ => by simp at h
  | _ :: _, [], _, _, _, h => by simp at h
  | t0 :: ts, d0 :: ds, 0, h, h1, h2 => by
    simp only [List.getElem?_cons_zero, Option.some.injEq] at h1 h2
    subst h1
    subst h2
    rw [DataW.weightsEach, List.all_append, Bool.and_eq_true] at h
    exact h.1
  | t0 :: ts, d0 :: ds, j + 1, h, h1, h2 => by
    rw [DataW.weightsEach, List.all_append, Bool.and_eq_true] at h
    exact sized_at (ts := ts) (ds := ds) (j := j) h.2 (by simpa using h1) (by simpa using h2)
/-- A string that is a cell of a struct. -/
theorem sized_field {H : Type} {enc : TypeId × Value → H} {P : Program} {w : World} {base : Nat} {spare held : _} {t : TypeId} {fs : Array Field} {cs : List Value} {d : DataW H} {p : List MemPlace} (ht : P.underlying t = some (.struct fs)) (h : DataW.Trod enc P w base spare held t (.agg ⟨cs⟩) d p) (hw : (DataW.weights P t d).all (· ≤ reachBytes) = true)
    {i : Nat} {f : Field} {s : ByteArray} (hf : fs[i]? = some f) (hs : P.underlying f.type = some .string) (hc : (cs.drop f.offset).take (P.cellsOf f.type) = [.string s]) : s.size ≤ reachBytes := by
  obtain ⟨m, hm⟩ := h
  obtain ⟨xs, m', _, e, _, hxl, hx⟩ := DataW.trod_struct ht hm
  have e1 : d = .agg (xs.map (·.1)) := congrArg Prod.fst e
  subst e1
  have h1 := hx i f hf
  have hc' : ((Value.agg ⟨cs⟩).cells.toList.drop f.offset).take (P.cellsOf f.type) = [.string s] := hc
  rw [hc'] at h1
  have hi : i < fs.size := (Array.getElem?_eq_some_iff.1 hf).1
  rw [List.getElem?_eq_getElem (by omega)] at h1
  obtain ⟨s', q, ex, _⟩ := DataW.trod_string hs h1
  have hss : s' = s := by simpa using q.symm
  subst hss
  rw [DataW.weights, ht] at hw
  have := sized_string (l := s'.data.toList) (t := f.type) (j := i) hw (by simp [hf]) (by rw [List.getElem?_map, List.getElem?_eq_getElem (by omega), Option.map_some, ex])
  rw [Array.length_toList] at this
  exact this
theorem bounds (k : IntKind) {x : Int} (w : (Lit.int k x).wf = true) : k.min ≤ x ∧ x ≤ k.max := by simpa [Lit.wf] using w
end Go.Am.Close
