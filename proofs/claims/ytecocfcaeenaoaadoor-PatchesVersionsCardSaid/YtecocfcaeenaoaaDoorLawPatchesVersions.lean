/-
  PROVED: Tryd's 'patchesVersions': of patches that are loaded one after the other the last one is active, and generations count them: the tied card of its row. CONDITIONS: those of the row (the table math/bits.deBruijn64tab as the program's text lays it) and no other. Own work; the closing after the guide's toy of a row that lists a table.
-/
import Derived.Test.YtecocfcaeenaoaaDoorPatVb
import Derived.Test.YtecocfcaeenaoaaDoorAmY
import Derived.Test.YtecocfcaeenaoaaDoorHClose
import Derived.Test.YtecocfcaeenaoaaDoorCards
import Derived.Test.YtecocfcaeenaoaaDoorTie
namespace Go.Proofs.YtecocfcaeenaoaaDoor.patchesVersions
open Go Go.Am Go.ChangeShapes Go.WideShapes Go.ChangeAt Go.RowKit
set_option maxRecDepth 100000


theorem contract (H : Type) (enc : TypeId × Value → H) (W : World) (base : Nat) (args : Array Value) (ds gs : List (DataW H)) (before : List MemPlace)
    (hval : ∀ (j : Nat) t v, Tryd.f3.params[j]? = some t → args[j]? = some v → Value.okWide Tryd.prog W .any base t v)
    (hW : DataW.Whole enc Tryd.prog Tryd.f3.params.toList Rows.patchesVersionsSpec.vars false W args.toList ds gs before) (hL : laidMetH Tryd.prog Rows.patchesVersionsRow.laid W) :
    Calls Tryd.prog 3 args W fun e W' => ∃ v, e = .returned v ∧ Rows.patchesVersionsSpec.post enc Tryd.prog Tryd.f3 false true false false W args v W' := by
  have hW' := hW
  obtain ⟨p, q, hA0, hV, hpq, hfz, hnd⟩ := hW
  have hA : DataW.TrodAll enc Tryd.prog W 0 (fun _ => true) true Tryd.f3.params.toList args.toList ds p := hA0
  rw [Tryd.params3] at hA hval
  obtain ⟨v0, vs0, d0, ds0, p0, q0, hargs0, rfl, rfl, h0, r0⟩ := trodAll_cons hA
  obtain ⟨hlast, rfl, rfl⟩ := trodAll_nil r0
  subst hlast
  obtain rfl : args = #[v0] := by cases args; simp_all
  obtain ⟨rfl, rfl⟩ := trodVars_none hV
  clear hA0 hpq
  have fin : ∀ W', Below W.heap.size W W' → Rows.patchesVersionsSpec.post enc Tryd.prog Tryd.f3 false true false false W #[v0] (.bool true) W' := fun W' hg => post_law Close.laidOut (by kernel_rfl) rfl hW' rfl rfl rfl (by kernel_rfl) Tryd.underlying4 hg
  clear hW'
  have walk : Calls Tryd.prog 3 #[v0] W fun e W' => e = .returned (.bool true) ∧ Below W.heap.size W W' := by
    rcases strs_arg Tryd.underlying22 Tryd.underlying9 (by kernel_rfl) (hval 0 22 v0 rfl rfl) h0 with rfl | ⟨a, len, cap, S, tt, q, rfl, hs, hb, hvr⟩
    · exact law_of_spec Pat.okVrN (Close.gok hL) rfl rfl
    · refine law_of_args Pat.okVr (Close.gok hL) (φ := [q]) (h := [.ro ((List.range len).map fun i => .string (S i)) tt]) (Sim.args rfl ?_) (args := [.slice (some ⟨0, 0, some 0⟩) len 0]) ?_ ⟨Pat.okT_of S len, rfl⟩
      · intro i o p hi hp
        match i, hi, hp with
        | 0, hi, hp => cases hi; cases hp; exact ⟨rfl, hb⟩
      · exact ⟨_, _, rfl, hvr _ 0 rfl, rfl⟩
  exact walk.mono fun e W' ⟨he, hg⟩ => by
    subst he
    exact ⟨_, rfl, fin W' hg⟩

theorem laid_met (os : Os) : laidMet Tryd.prog Rows.patchesVersionsRow.laid ((Close.laidWorld os).forCall (fun _ _ => 0) ⟨#[], #[.slice none 0 0], []⟩).memory :=
  laidMet_of_run' 80 (by kernel_rfl) (by kernel_rfl)
theorem reads (os : Os) {H : Type} (enc : TypeId × Value → H) : ∃ places, DataW.whole enc Tryd.prog ((Close.laidWorld os).forCall (fun _ _ => 0) ⟨#[], #[.slice none 0 0], []⟩).memory Tryd.f3.params.toList Rows.patchesVersionsSpec.vars false (#[.slice none 0 0] : Array Value).toList 8 = some ([.nil], [], places) :=
  ⟨[], by kernel_rfl⟩

theorem light : Close.light Tryd.prog Tryd.f3 Rows.patchesVersionsSpec Rows.patchesVersionsRow = true := by kernel_rfl
theorem place : (Rows.patchesVersionsRow.inPlace == Tryd.prog.inPlace 3) = true := by kernel_rfl
theorem follow : (Rows.patchesVersionsRow.unfollowed == Tryd.prog.unfollowed 3) = true := by kernel_rfl
theorem recur : (Rows.patchesVersionsRow.recurses == Tryd.prog.recurses 3) = true := by kernel_rfl
theorem names : (Rows.patchesVersionsRow.named == Tryd.prog.varsNamed 3) = true := by kernel_rfl
theorem lifted (os : Os) (started : os.Started) (H : Type) (enc : TypeId × Value → H) (F : Stop.Interp) :
    ReturnsInHanded {} Tryd.checked os 3 .any ((OpenSpec.ofChange Rows.patchesVersionsSpec).preRow enc Tryd.prog Tryd.f3 Rows.patchesVersionsRow.domain false Rows.patchesVersionsRow.laid) (((OpenSpec.ofChange Rows.patchesVersionsSpec).at F).post enc Tryd.prog Tryd.f3 false true false false) := by
  obtain ⟨places, hx⟩ := reads os enc
  refine returnsInHanded_of_row (C := Tryd.checked) (s := OpenSpec.ofChange Rows.patchesVersionsSpec) Close.own started (by kernel_rfl) Tryd.func3
    (witness_row_at (enc := enc) (C := Tryd.checked) false (Close.laidWorld os) #[.slice none 0 0] rfl (by kernel_rfl) (by kernel_rfl) (by kernel_rfl)
      (OpenSpec.preRow_of_cond 8 hx (by kernel_rfl) (fun k hk => by cases hk) (by kernel_rfl) (laid_met os))) ?_
  intro W base args ds gs before hval hW _ _ _ hL _ _
  exact contract H enc W base args ds gs before hval hW hL

theorem facts : joinedFacts Tryd.prog 3 Tryd.f3 Rows.patchesVersionsSpec Rows.patchesVersionsRow = true :=
  Close.joined_of light Close.laidOut Close.mapsRow place follow recur names
    (Eq.trans (congrArg (· == Tryd.prog.plainKeys) (rfl : Rows.patchesVersionsRow.plainKeys = Rows.patchesVersionsRow.plainKeys)) Close.keys) Close.heard Close.enter
    (Eq.trans (congrArg (· == Tryd.prog.liftsFinal) (rfl : Rows.patchesVersionsRow.lifted = Rows.patchesVersionsRow.lifted)) Close.lifts)
    (Eq.trans (congrArg (fun x => Tryd.prog.make == some x) (rfl : Rows.patchesVersionsRow.make = Rows.patchesVersionsRow.make)) Close.makes)
theorem said : Rows.PatchesVersionsSaid :=
  OpenClaim.holds_of_cond 3 Tryd.f3 rfl rfl rfl rfl rfl rfl rfl ⟨rfl, rfl, rfl, rfl, rfl⟩ rfl rfl rfl rfl rfl (by kernel_rfl) Tryd.func3 facts
    (of_decide_eq_true (by kernel_rfl)) (by unfold Func.isWrapper; first | (rw [if_pos (by decide +kernel)]; kernel_rfl) | (rw [if_neg (by decide +kernel)]; exact ⟨rfl, rfl⟩))
    (fun os started H enc _ F => by rw [OpenClaim.pre_eq_preRow]; exact lifted os started H enc F)

theorem plain (f : FuncId) (fn : Func) (hf : Tryd.pinned.checked.prog.funcNamed "perigee/perigeelaw31.PatchesVersions" = some f) (hfn : Tryd.pinned.checked.prog.funcs[f]? = some fn) :
    true = Tryd.pinned.checked.prog.looks [] ∧ ∀ (j : Nat) t, fn.params[j]? = some t → Tryd.pinned.checked.prog.wantsStandIn t = false := by
  obtain rfl : f = 3 := Option.some.inj ((show Tryd.prog.funcNamed "perigee/perigeelaw31.PatchesVersions" = some 3 by kernel_rfl).symm.trans hf) |>.symm
  obtain rfl : fn = Tryd.f3 := (Option.some.inj (Tryd.func3.symm.trans hfn)).symm
  refine ⟨by kernel_rfl, fun j t ht => ?_⟩
  rw [Tryd.params3] at ht
  have hm := Array.mem_of_getElem? ht
  have : t = 22 := by simpa using hm
  subst this
  exact (show Tryd.prog.wantsStandIn 22 = false by kernel_rfl)

end Go.Proofs.YtecocfcaeenaoaaDoor.patchesVersions
namespace Go.Proofs.YtecocfcaeenaoaaDoor
open Go
/-- The card. -/
theorem patchesVersions_card : Rows.PatchesVersionsCardSaid :=
  Claim7.holds_tied_plain_at .later [] _ _ _ _ patchesVersions.said (fun _ h => by cases h) (by kernel_rfl) (fun _ h => by cases h) patchesVersions_row_tie rfl ⟨rfl, rfl⟩ (by kernel_rfl) rfl patchesVersions.plain (by kernel_rfl)
end Go.Proofs.YtecocfcaeenaoaaDoor
