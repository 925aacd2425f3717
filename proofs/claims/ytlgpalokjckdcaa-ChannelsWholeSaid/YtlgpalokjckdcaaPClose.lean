/-
 What the closings of all laws of the seat share: a world for the witnesses, the closed facts. Own work; after the guide's toys.
-/
import Derived.Test.YtlgpalokjckdcaaAmY
import Derived.Test.YtlgpalokjckdcaaPktX
import Derived.Test.YtlgpalokjckdcaaRows
import Derived.WalkKit
import Derived.ProofKit
import Derived.OpenShut
import Derived.Deep.DeepHandedRow
namespace Go.Am.Close
open Go Go.Am Go.ChangeShapes Go.WideShapes Go.ChangeAt Go.RowKit Go.Proofs Go.Proofs.Ytlgpalokjckdcaa
set_option maxRecDepth 100000

theorem own:ownKnob Try.prog.godebug = none:=by kernel_rfl
theorem laidOut:laidOutB Try.prog = true:=by kernel_rfl

/-- A world for the witness. -/
noncomputable def laidWorld (os:Os):World:=World.holding Try.prog os ⟨#[],#[],[]⟩

/-! ### the closed facts of a row: those that are the same for every row of the seat,and the others -/
def light (P:Program) (fn:Func) (s:ChangeSpec) (c:OpenClaim):Bool :=
 c.wf (OpenSpec.ofChange s) && (fn.params.all (P.readableRec ·) && (namedTie P c.named s.vars && ((c.stops == []) && ((P.stops == []) && ((c.knobs == []) && ((P.stopKnobs == []) &&
 ((c.maps == (fn.params.toList ++ s.plain.varTypes P).any (P.mapsRec ·)) && ((c.ifaces == (fn.params.toList ++ s.plain.varTypes P).any (P.ifacesRec ·)) && ((c.mapsOut == P.mapsAmong fn.resultTypes.toList) &&
 ((c.loops == (fn.params.toList ++ s.plain.varTypes P).any (P.loopsFrom ·)) && ((c.wideKeys == (fn.params.toList ++ s.plain.varTypes P ++ fn.resultTypes.toList).any (P.wideKeysFrom ·)) &&
 (s.vars.all (P.varReadable ·) && (fn.resultTypes.all (fun t=>P.readableRec t && decide (t < P.types.size)) && ((c.ifacesOut == fn.resultTypes.toList.any (P.ifacesRec ·)) && ((c.loopsOut == fn.resultTypes.toList.any (P.loopsFrom ·)) && (c.shortTexts.isNone &&
 ((c.kinds == (if c.domain.isEmpty then [] else fn.params.toList.map fun t=>match P.underlying t with | some (.int k)=>some k | _=>none)) && ((c.pinned == c.pinnedBy) &&
 ((c.veiled == (fn.params.toList ++ s.plain.varTypes P ++ fn.resultTypes.toList).any (P.veiledRec ·)) && c.veiledFits P fn.params.toList (fn.params.toList ++ s.plain.varTypes P ++ fn.resultTypes.toList))))))))))))))))))))
theorem joined_of {P:Program} {f:FuncId} {fn:Func} {s:ChangeSpec} {c:OpenClaim} (hl:light P fn s c = true) (h2:laidOutB P = true) (h3:mapsRowed P = true) (h10:(c.inPlace == P.inPlace f) = true) (h11:(c.unfollowed == P.unfollowed f) = true)
 (h12:(c.recurses == P.recurses f) = true) (h13:(c.named == P.varsNamed f) = true) (h23:(c.plainKeys == P.plainKeys) = true) (h25:P.stopsHeard = true) (h26:P.mayEnter = true) (h27:(c.lifted == P.liftsFinal) = true) (h28:(P.make == some c.make) = true) :
 joinedFacts P f fn s c = true:=by
 unfold light at hl
 unfold joinedFacts
 simp only [Bool.and_eq_true] at hl ⊢
 obtain ⟨a1,a2,a3,a4,a5,a6,a7,a8,a9,a10,a11,a12,a13,a14,a15,a16,a17,a18,a19,a20,a21⟩:=hl
 and_intros <;> assumption
theorem mapsRow:mapsRowed Try.prog = true:=by kernel_rfl
theorem heard:Try.prog.stopsHeard = true:=by kernel_rfl
theorem enter:Try.prog.mayEnter = true:=by kernel_rfl
theorem lifts:(Rows.channelsDemuxRow.lifted == Try.prog.liftsFinal) = true:=by kernel_rfl
theorem makes:(Try.prog.make == some Rows.channelsDemuxRow.make) = true:=by kernel_rfl
theorem keys:(Rows.channelsDemuxRow.plainKeys == Try.prog.plainKeys) = true:=by kernel_rfl
theorem bounds (k:IntKind) {x:Int} (w:(Lit.int k x).wf = true):k.min ≤ x ∧ x ≤ k.max:=by simpa [Lit.wf] using w
end Go.Am.Close
