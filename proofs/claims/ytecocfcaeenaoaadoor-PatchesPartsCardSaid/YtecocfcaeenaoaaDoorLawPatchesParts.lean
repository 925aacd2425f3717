/-
  PROVED: Tryd's 'patchesParts': a patch may be stored in any parts, in any order, several times; a wrong checksum is refused, and the old patch stays: the tied card of its row. CONDITIONS: those of the row (the table math/bits.deBruijn64tab as the program's text lays it) and no other. Own work; the closing after the guide's toy of a row that lists a table.
-/
import Derived.Test.YtecocfcaeenaoaaDoorPatPb
import Derived.Test.YtecocfcaeenaoaaDoorAmY
import Derived.Test.YtecocfcaeenaoaaDoorHClose
import Derived.Test.YtecocfcaeenaoaaDoorCards
import Derived.Test.YtecocfcaeenaoaaDoorTie
namespace Go.Proofs.YtecocfcaeenaoaaDoor.patchesParts
open Go Go.Am Go.ChangeShapes Go.WideShapes Go.ChangeAt Go.RowKit
set_option maxRecDepth 100000


theorem contract (H : Type) (enc : TypeId × Value → H) (W : World) (base : Nat) (args : Array Value) (ds gs : List (DataW H)) (before : List MemPlace)
    (hval : ∀ (j : Nat) t v, Tryd.f4.params[j]? = some t → args[j]? = some v → Value.okWide Tryd.prog W .any base t v)
    (hW : DataW.Whole enc Tryd.prog Tryd.f4.params.toList Rows.patchesPartsSpec.vars false W args.toList ds gs before) (hL : laidMetH Tryd.prog Rows.patchesPartsRow.laid W) :
    Calls Tryd.prog 4 args W fun e W' => ∃ v, e = .returned v ∧ Rows.patchesPartsSpec.post enc Tryd.prog Tryd.f4 false true false false W args v W' := by
  have hW' := hW
  obtain ⟨p, q, hA0, hV, hpq, hfz, hnd⟩ := hW
  have hA : DataW.TrodAll enc Tryd.prog W 0 (fun _ => true) true Tryd.f4.params.toList args.toList ds p := hA0
  rw [Tryd.params4] at hA hval
  obtain ⟨v0, vs0, d0, ds0, p0, q0, hargs0, rfl, rfl, h0, r0⟩ := trodAll_cons hA
  obtain ⟨v1, vs1, d1, ds1, p1, q1, hargs1, rfl, rfl, h1, r1⟩ := trodAll_cons r0
  obtain ⟨v2, vs2, d2, ds2, p2, q2, hargs2, rfl, rfl, h2, r2⟩ := trodAll_cons r1
  obtain ⟨hlast, rfl, rfl⟩ := trodAll_nil r2
  subst hlast
  subst hargs2
  subst hargs1
  obtain rfl : args = #[v0, v1, v2] := by cases args; simp_all
  obtain ⟨rfl, rfl⟩ := trodVars_none hV
  clear hA0 hpq
  have fin : ∀ W', Below W.heap.size W W' → Rows.patchesPartsSpec.post enc Tryd.prog Tryd.f4 false true false false W #[v0, v1, v2] (.bool true) W' := fun W' hg => post_law Close.laidOut (by kernel_rfl) rfl hW' rfl rfl rfl (by kernel_rfl) Tryd.underlying4 hg
  clear hW'
  obtain ⟨x0, rfl, rfl, rfl, w0⟩ := Go.ChangeMaps.open_string Tryd.underlying9 (hval 0 9 v0 rfl rfl) h0
  obtain ⟨x2, rfl, rfl, rfl, w2⟩ := open_int Tryd.underlying33 (hval 2 33 v2 rfl rfl) h2
  have b2 := Close.bounds _ w2
  simp only [IntKind.min, IntKind.max, IntKind.signed, IntKind.bits] at b2
  have walk : Calls Tryd.prog 4 #[.string x0, v1, .int .u32 x2] W fun e W' => e = .returned (.bool true) ∧ Below W.heap.size W W' := by
    have uw : Pat.U32 x2 := ⟨b2.1, by omega⟩
    rcases ints_arg Tryd.underlying41 Tryd.underlying46 (by kernel_rfl) (hval 1 41 v1 rfl rfl) h1 with rfl | ⟨a, len, cap, zs, tt, q, rfl, hl, hz, hb, hvr⟩
    · exact law_of_spec Pat.okPaN (Close.gok hL) rfl ⟨uw, rfl⟩
    · refine law_of_args Pat.okPaA (Close.gok hL) (φ := [q]) (h := [.ro (zs.map (Value.int .u16)) tt]) (Sim.args rfl ?_) (args := [.string x0, .slice (some ⟨0, 0, some 0⟩) len 0, .int .u32 x2]) ?_ ⟨Pat.okW_of hl (fun z hz' => ?_), uw, rfl⟩
      · intro i o p hi hp
        match i, hi, hp with
        | 0, hi, hp => cases hi; cases hp; exact ⟨rfl, hb⟩
      · exact ⟨_, _, rfl, rfl, _, _, rfl, hvr _ 0 rfl, _, _, rfl, rfl, rfl⟩
      · have := Close.bounds _ (hz z hz')
        simp only [IntKind.min, IntKind.max, IntKind.signed, IntKind.bits] at this
        exact ⟨this.1, by omega⟩
  exact walk.mono fun e W' ⟨he, hg⟩ => by
    subst he
    exact ⟨_, rfl, fin W' hg⟩

theorem laid_met (os : Os) : laidMet Tryd.prog Rows.patchesPartsRow.laid ((Close.laidWorld os).forCall (fun _ _ => 0) ⟨#[], #[.string .empty, .slice none 0 0, .int .u32 0], []⟩).memory :=
  laidMet_of_run' 80 (by kernel_rfl) (by kernel_rfl)
theorem reads (os : Os) {H : Type} (enc : TypeId × Value → H) : ∃ places, DataW.whole enc Tryd.prog ((Close.laidWorld os).forCall (fun _ _ => 0) ⟨#[], #[.string .empty, .slice none 0 0, .int .u32 0], []⟩).memory Tryd.f4.params.toList Rows.patchesPartsSpec.vars false (#[.string .empty, .slice none 0 0, .int .u32 0] : Array Value).toList 8 = some ([.lit (.string []), .nil, .lit (.int .u32 0)], [], places) :=
  ⟨[], by kernel_rfl⟩

theorem light : Close.light Tryd.prog Tryd.f4 Rows.patchesPartsSpec Rows.patchesPartsRow = true := by kernel_rfl
theorem place : (Rows.patchesPartsRow.inPlace == Tryd.prog.inPlace 4) = true := by kernel_rfl
theorem follow : (Rows.patchesPartsRow.unfollowed == Tryd.prog.unfollowed 4) = true := by kernel_rfl
theorem recur : (Rows.patchesPartsRow.recurses == Tryd.prog.recurses 4) = true := by kernel_rfl
theorem names : (Rows.patchesPartsRow.named == Tryd.prog.varsNamed 4) = true := by kernel_rfl
theorem lifted (os : Os) (started : os.Started) (H : Type) (enc : TypeId × Value → H) (F : Stop.Interp) :
    ReturnsInHanded {} Tryd.checked os 4 .any ((OpenSpec.ofChange Rows.patchesPartsSpec).preRow enc Tryd.prog Tryd.f4 Rows.patchesPartsRow.domain false Rows.patchesPartsRow.laid) (((OpenSpec.ofChange Rows.patchesPartsSpec).at F).post enc Tryd.prog Tryd.f4 false true false false) := by
  obtain ⟨places, hx⟩ := reads os enc
  refine returnsInHanded_of_row (C := Tryd.checked) (s := OpenSpec.ofChange Rows.patchesPartsSpec) Close.own started (by kernel_rfl) Tryd.func4
    (witness_row_at (enc := enc) (C := Tryd.checked) false (Close.laidWorld os) #[.string .empty, .slice none 0 0, .int .u32 0] rfl (by kernel_rfl) (by kernel_rfl) (by kernel_rfl)
      (OpenSpec.preRow_of_cond 8 hx (by kernel_rfl) (fun k hk => by cases hk) (by kernel_rfl) (laid_met os))) ?_
  intro W base args ds gs before hval hW _ _ _ hL _ _
  exact contract H enc W base args ds gs before hval hW hL

theorem facts : joinedFacts Tryd.prog 4 Tryd.f4 Rows.patchesPartsSpec Rows.patchesPartsRow = true :=
  Close.joined_of light Close.laidOut Close.mapsRow place follow recur names
    (Eq.trans (congrArg (· == Tryd.prog.plainKeys) (rfl : Rows.patchesPartsRow.plainKeys = Rows.patchesVersionsRow.plainKeys)) Close.keys) Close.heard Close.enter
    (Eq.trans (congrArg (· == Tryd.prog.liftsFinal) (rfl : Rows.patchesPartsRow.lifted = Rows.patchesVersionsRow.lifted)) Close.lifts)
    (Eq.trans (congrArg (fun x => Tryd.prog.make == some x) (rfl : Rows.patchesPartsRow.make = Rows.patchesVersionsRow.make)) Close.makes)
theorem said : Rows.PatchesPartsSaid :=
  OpenClaim.holds_of_cond 4 Tryd.f4 rfl rfl rfl rfl rfl rfl rfl ⟨rfl, rfl, rfl, rfl, rfl⟩ rfl rfl rfl rfl rfl (by kernel_rfl) Tryd.func4 facts
    (of_decide_eq_true (by kernel_rfl)) (by unfold Func.isWrapper; first | (rw [if_pos (by decide +kernel)]; kernel_rfl) | (rw [if_neg (by decide +kernel)]; exact ⟨rfl, rfl⟩))
    (fun os started H enc _ F => by rw [OpenClaim.pre_eq_preRow]; exact lifted os started H enc F)

theorem plain (f : FuncId) (fn : Func) (hf : Tryd.pinned.checked.prog.funcNamed "perigee/perigeelaw31.PatchesParts" = some f) (hfn : Tryd.pinned.checked.prog.funcs[f]? = some fn) :
    true = Tryd.pinned.checked.prog.looks [] ∧ ∀ (j : Nat) t, fn.params[j]? = some t → Tryd.pinned.checked.prog.wantsStandIn t = false := by
  obtain rfl : f = 4 := Option.some.inj ((show Tryd.prog.funcNamed "perigee/perigeelaw31.PatchesParts" = some 4 by kernel_rfl).symm.trans hf) |>.symm
  obtain rfl : fn = Tryd.f4 := (Option.some.inj (Tryd.func4.symm.trans hfn)).symm
  refine ⟨by kernel_rfl, fun j t ht => ?_⟩
  rw [Tryd.params4] at ht
  have hm := Array.mem_of_getElem? ht
  have : t = 9 ∨ t = 41 ∨ t = 33 := by simpa using hm
  rcases this with rfl | rfl | rfl
  · exact (show Tryd.prog.wantsStandIn 9 = false by kernel_rfl)
  · exact (show Tryd.prog.wantsStandIn 41 = false by kernel_rfl)
  · exact (show Tryd.prog.wantsStandIn 33 = false by kernel_rfl)

end Go.Proofs.YtecocfcaeenaoaaDoor.patchesParts
namespace Go.Proofs.YtecocfcaeenaoaaDoor
open Go
/-- The card. -/
theorem patchesParts_card : Rows.PatchesPartsCardSaid :=
  Claim7.holds_tied_plain_at .later [] _ _ _ _ patchesParts.said (fun _ h => by cases h) (by kernel_rfl) (fun _ h => by cases h) patchesParts_row_tie rfl ⟨rfl, rfl⟩ (by kernel_rfl) rfl patchesParts.plain (by kernel_rfl)
end Go.Proofs.YtecocfcaeenaoaaDoor
