/-
  PROVED: Tryd's 'patchesNone': a store that is nil or was not returned by New answers ErrNil; Words; there is no store of a wrong size, or outside of the safe words: the tied card of its row. CONDITIONS: those of the row (the table math/bits.deBruijn64tab as the program's text lays it) and no other. Own work; the closing after the guide's toy of a row that lists a table.
-/
import Derived.Test.YtecocfcaeenaoaaDoorPatN2
import Derived.Test.YtecocfcaeenaoaaDoorHClose
import Derived.Test.YtecocfcaeenaoaaDoorCards
import Derived.Test.YtecocfcaeenaoaaDoorTie
namespace Go.Proofs.YtecocfcaeenaoaaDoor.patchesNone
open Go Go.Am Go.ChangeShapes Go.WideShapes Go.ChangeAt Go.RowKit
set_option maxRecDepth 100000


theorem contract (H : Type) (enc : TypeId × Value → H) (W : World) (base : Nat) (args : Array Value) (ds gs : List (DataW H)) (before : List MemPlace)
    (hval : ∀ (j : Nat) t v, Tryd.f7.params[j]? = some t → args[j]? = some v → Value.okWide Tryd.prog W .any base t v)
    (hW : DataW.Whole enc Tryd.prog Tryd.f7.params.toList Rows.patchesNoneSpec.vars false W args.toList ds gs before) (hL : laidMetH Tryd.prog Rows.patchesNoneRow.laid W) :
    Calls Tryd.prog 7 args W fun e W' => ∃ v, e = .returned v ∧ Rows.patchesNoneSpec.post enc Tryd.prog Tryd.f7 false true false false W args v W' := by
  have hW' := hW
  obtain ⟨p, q, hA0, hV, hpq, hfz, hnd⟩ := hW
  have hA : DataW.TrodAll enc Tryd.prog W 0 (fun _ => true) true Tryd.f7.params.toList args.toList ds p := hA0
  rw [Tryd.params7] at hA hval
  obtain ⟨v0, vs0, d0, ds0, p0, q0, hargs0, rfl, rfl, h0, r0⟩ := trodAll_cons hA
  obtain ⟨v1, vs1, d1, ds1, p1, q1, hargs1, rfl, rfl, h1, r1⟩ := trodAll_cons r0
  obtain ⟨v2, vs2, d2, ds2, p2, q2, hargs2, rfl, rfl, h2, r2⟩ := trodAll_cons r1
  obtain ⟨hlast, rfl, rfl⟩ := trodAll_nil r2
  subst hlast
  subst hargs2
  subst hargs1
  obtain rfl : args = #[v0, v1, v2] := by cases args; simp_all
  obtain ⟨rfl, rfl⟩ := trodVars_none hV
  clear hA0 hpq
  have fin : ∀ W', Below W.heap.size W W' → Rows.patchesNoneSpec.post enc Tryd.prog Tryd.f7 false true false false W #[v0, v1, v2] (.bool true) W' := fun W' hg => post_law Close.laidOut (by kernel_rfl) rfl hW' rfl rfl rfl (by kernel_rfl) Tryd.underlying4 hg
  clear hW'
  obtain ⟨x0, rfl, rfl, rfl, w0⟩ := open_int Tryd.underlying3 (hval 0 3 v0 rfl rfl) h0
  have b0 := Close.bounds _ w0
  simp only [IntKind.min, IntKind.max, IntKind.signed, IntKind.bits] at b0
  obtain ⟨x1, rfl, rfl, rfl, w1⟩ := open_int Tryd.underlying3 (hval 1 3 v1 rfl rfl) h1
  have b1 := Close.bounds _ w1
  simp only [IntKind.min, IntKind.max, IntKind.signed, IntKind.bits] at b1
  obtain ⟨x2, rfl, rfl, rfl, w2⟩ := open_int Tryd.underlying3 (hval 2 3 v2 rfl rfl) h2
  have b2 := Close.bounds _ w2
  simp only [IntKind.min, IntKind.max, IntKind.signed, IntKind.bits] at b2
  have walk : Calls Tryd.prog 7 #[.int .i64 x0, .int .i64 x1, .int .i64 x2] W fun e W' => e = .returned (.bool true) ∧ Below W.heap.size W W' :=
    law_of_spec Pat.okPN (Close.gok hL) rfl rfl
  exact walk.mono fun e W' ⟨he, hg⟩ => by
    subst he
    exact ⟨_, rfl, fin W' hg⟩

theorem laid_met (os : Os) : laidMet Tryd.prog Rows.patchesNoneRow.laid ((Close.laidWorld os).forCall (fun _ _ => 0) ⟨#[], #[.int .i64 0, .int .i64 0, .int .i64 0], []⟩).memory :=
  laidMet_of_run' 80 (by kernel_rfl) (by kernel_rfl)
theorem reads (os : Os) {H : Type} (enc : TypeId × Value → H) : ∃ places, DataW.whole enc Tryd.prog ((Close.laidWorld os).forCall (fun _ _ => 0) ⟨#[], #[.int .i64 0, .int .i64 0, .int .i64 0], []⟩).memory Tryd.f7.params.toList Rows.patchesNoneSpec.vars false (#[.int .i64 0, .int .i64 0, .int .i64 0] : Array Value).toList 8 = some ([.lit (.int .i64 0), .lit (.int .i64 0), .lit (.int .i64 0)], [], places) :=
  ⟨[], by kernel_rfl⟩

theorem light : Close.light Tryd.prog Tryd.f7 Rows.patchesNoneSpec Rows.patchesNoneRow = true := by kernel_rfl
theorem place : (Rows.patchesNoneRow.inPlace == Tryd.prog.inPlace 7) = true := by kernel_rfl
theorem follow : (Rows.patchesNoneRow.unfollowed == Tryd.prog.unfollowed 7) = true := by kernel_rfl
theorem recur : (Rows.patchesNoneRow.recurses == Tryd.prog.recurses 7) = true := by kernel_rfl
theorem names : (Rows.patchesNoneRow.named == Tryd.prog.varsNamed 7) = true := by kernel_rfl
theorem lifted (os : Os) (started : os.Started) (H : Type) (enc : TypeId × Value → H) (F : Stop.Interp) :
    ReturnsInHanded {} Tryd.checked os 7 .any ((OpenSpec.ofChange Rows.patchesNoneSpec).preRow enc Tryd.prog Tryd.f7 Rows.patchesNoneRow.domain false Rows.patchesNoneRow.laid) (((OpenSpec.ofChange Rows.patchesNoneSpec).at F).post enc Tryd.prog Tryd.f7 false true false false) := by
  obtain ⟨places, hx⟩ := reads os enc
  refine returnsInHanded_of_row (C := Tryd.checked) (s := OpenSpec.ofChange Rows.patchesNoneSpec) Close.own started (by kernel_rfl) Tryd.func7
    (witness_row_at (enc := enc) (C := Tryd.checked) false (Close.laidWorld os) #[.int .i64 0, .int .i64 0, .int .i64 0] rfl (by kernel_rfl) (by kernel_rfl) (by kernel_rfl)
      (OpenSpec.preRow_of_cond 8 hx (by kernel_rfl) (fun k hk => by cases hk) (by kernel_rfl) (laid_met os))) ?_
  intro W base args ds gs before hval hW _ _ _ hL _ _
  exact contract H enc W base args ds gs before hval hW hL

theorem facts : joinedFacts Tryd.prog 7 Tryd.f7 Rows.patchesNoneSpec Rows.patchesNoneRow = true :=
  Close.joined_of light Close.laidOut Close.mapsRow place follow recur names
    (Eq.trans (congrArg (· == Tryd.prog.plainKeys) (rfl : Rows.patchesNoneRow.plainKeys = Rows.patchesVersionsRow.plainKeys)) Close.keys) Close.heard Close.enter
    (Eq.trans (congrArg (· == Tryd.prog.liftsFinal) (rfl : Rows.patchesNoneRow.lifted = Rows.patchesVersionsRow.lifted)) Close.lifts)
    (Eq.trans (congrArg (fun x => Tryd.prog.make == some x) (rfl : Rows.patchesNoneRow.make = Rows.patchesVersionsRow.make)) Close.makes)
theorem said : Rows.PatchesNoneSaid :=
  OpenClaim.holds_of_cond 7 Tryd.f7 rfl rfl rfl rfl rfl rfl rfl ⟨rfl, rfl, rfl, rfl, rfl⟩ rfl rfl rfl rfl rfl (by kernel_rfl) Tryd.func7 facts
    (of_decide_eq_true (by kernel_rfl)) (by unfold Func.isWrapper; first | (rw [if_pos (by decide +kernel)]; kernel_rfl) | (rw [if_neg (by decide +kernel)]; exact ⟨rfl, rfl⟩))
    (fun os started H enc _ F => by rw [OpenClaim.pre_eq_preRow]; exact lifted os started H enc F)

theorem plain (f : FuncId) (fn : Func) (hf : Tryd.pinned.checked.prog.funcNamed "perigee/perigeelaw31.PatchesNone" = some f) (hfn : Tryd.pinned.checked.prog.funcs[f]? = some fn) :
    true = Tryd.pinned.checked.prog.looks [] ∧ ∀ (j : Nat) t, fn.params[j]? = some t → Tryd.pinned.checked.prog.wantsStandIn t = false := by
  obtain rfl : f = 7 := Option.some.inj ((show Tryd.prog.funcNamed "perigee/perigeelaw31.PatchesNone" = some 7 by kernel_rfl).symm.trans hf) |>.symm
  obtain rfl : fn = Tryd.f7 := (Option.some.inj (Tryd.func7.symm.trans hfn)).symm
  refine ⟨by kernel_rfl, fun j t ht => ?_⟩
  rw [Tryd.params7] at ht
  have hm := Array.mem_of_getElem? ht
  have : t = 3 := by simpa using hm
  subst this
  exact (show Tryd.prog.wantsStandIn 3 = false by kernel_rfl)

end Go.Proofs.YtecocfcaeenaoaaDoor.patchesNone
namespace Go.Proofs.YtecocfcaeenaoaaDoor
open Go
/-- The card. -/
theorem patchesNone_card : Rows.PatchesNoneCardSaid :=
  Claim7.holds_tied_plain_at .later [] _ _ _ _ patchesNone.said (fun _ h => by cases h) (by kernel_rfl) (fun _ h => by cases h) patchesNone_row_tie rfl ⟨rfl, rfl⟩ (by kernel_rfl) rfl patchesNone.plain (by kernel_rfl)
end Go.Proofs.YtecocfcaeenaoaaDoor
