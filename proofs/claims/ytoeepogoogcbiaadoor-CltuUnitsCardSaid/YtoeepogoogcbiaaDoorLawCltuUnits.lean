/-
  PROVED: Tryd's 'cltuUnits': without the reference: units that follow each other are found, each with its frame and the fill bytes, if at most one bit of each beginning and of each code block is inverted, and none of a tail: the tied card of its row. CONDITIONS: those of the row (the two variables start and halves as the program's text lays them) and no other. Own work; the closing after the guide's toy of a row that lists a table.
-/
import Derived.Test.YtoeepogoogcbiaaDoorCltBD
import Derived.Test.YtoeepogoogcbiaaDoorCltAV
import Derived.Test.YtoeepogoogcbiaaDoorCClose
import Derived.Test.YtoeepogoogcbiaaDoorCards
import Derived.Test.YtoeepogoogcbiaaDoorTie
namespace Go.Proofs.YtoeepogoogcbiaaDoor.cltuUnits
open Go Go.Am Go.ChangeShapes Go.WideShapes Go.ChangeAt Go.RowKit
set_option maxRecDepth 100000


theorem contract (H : Type) (enc : TypeId × Value → H) (W : World) (base : Nat) (args : Array Value) (ds gs : List (DataW H)) (before : List MemPlace)
    (hval : ∀ (j : Nat) t v, Tryd.f6.params[j]? = some t → args[j]? = some v → Value.okWide Tryd.prog W .any base t v)
    (hW : DataW.Whole enc Tryd.prog Tryd.f6.params.toList Rows.cltuUnitsSpec.vars false W args.toList ds gs before) (hsz : (DataW.weightsEach Tryd.prog (Tryd.f6.params.toList ++ (OpenSpec.ofChange Rows.cltuUnitsSpec).bare.plain.varTypes Tryd.prog) (ds ++ gs)).all (· ≤ reachBytes) = true) (hL : laidMetH Tryd.prog Rows.cltuUnitsRow.laid W) :
    Calls Tryd.prog 6 args W fun e W' => ∃ v, e = .returned v ∧ Rows.cltuUnitsSpec.post enc Tryd.prog Tryd.f6 false true false false W args v W' := by
  have hW' := hW
  obtain ⟨p, q, hA0, hV, hpq, hfz, hnd⟩ := hW
  have hA : DataW.TrodAll enc Tryd.prog W 0 (fun _ => true) true Tryd.f6.params.toList args.toList ds p := hA0
  rw [Tryd.params6] at hA hval
  obtain ⟨v0, vs0, d0, ds0, p0, q0, hargs0, rfl, rfl, h0, r0⟩ := trodAll_cons hA
  obtain ⟨v1, vs1, d1, ds1, p1, q1, hargs1, rfl, rfl, h1, r1⟩ := trodAll_cons r0
  obtain ⟨hlast, rfl, rfl⟩ := trodAll_nil r1
  subst hlast
  subst hargs1
  obtain rfl : args = #[v0, v1] := by cases args; simp_all
  obtain ⟨rfl, rfl⟩ := trodVars_none hV
  clear hA0 hpq
  have fin : ∀ W', Below W.heap.size W W' → Rows.cltuUnitsSpec.post enc Tryd.prog Tryd.f6 false true false false W #[v0, v1] (.bool true) W' := fun W' hg => post_law Close.laidOut (by kernel_rfl) rfl hW' rfl rfl rfl (by kernel_rfl) Tryd.underlying4 hg
  clear hW'
  obtain ⟨ao, n, cap, F, rfl, _, hcs⟩ := Clt.strs_in Tryd.underlying33 Tryd.underlying9 (by kernel_rfl) (hval 0 33 v0 rfl rfl) h0
  obtain ⟨fo, nf, fcap, zs, rfl, hfs⟩ := Clt.ints_in Tryd.underlying34 Tryd.underlying3 (by kernel_rfl) (hval 1 34 v1 rfl rfl) h1
  clear hsz
  have walk : Calls Tryd.prog 6 #[.slice ao n cap, .slice fo nf fcap] W fun e W' => e = .returned (.bool true) ∧ Below W.heap.size W W' :=
    Clt.units_walk (Close.gok hL) ao n cap F fo nf fcap zs (fun i hi => (hcs i hi).imp fun a h => ⟨h.1, h.2.1, h.2.2.1⟩) hfs
  exact walk.mono fun e W' ⟨he, hg⟩ => by
    subst he
    exact ⟨_, rfl, fin W' hg⟩

theorem laid_met (os : Os) : laidMet Tryd.prog Rows.cltuUnitsRow.laid ((Close.laidWorld os).forCall (fun _ _ => 0) ⟨#[], #[.slice none 0 0, .slice none 0 0], []⟩).memory :=
  laidMet_of_run' 80 (by kernel_rfl) (by kernel_rfl)
theorem reads (os : Os) {H : Type} (enc : TypeId × Value → H) : ∃ places, DataW.whole enc Tryd.prog ((Close.laidWorld os).forCall (fun _ _ => 0) ⟨#[], #[.slice none 0 0, .slice none 0 0], []⟩).memory Tryd.f6.params.toList Rows.cltuUnitsSpec.vars false (#[.slice none 0 0, .slice none 0 0] : Array Value).toList 8 = some ([.nil, .nil], [], places) :=
  ⟨[], by kernel_rfl⟩

theorem light : Close.light Tryd.prog Tryd.f6 Rows.cltuUnitsSpec Rows.cltuUnitsRow = true := by kernel_rfl
theorem place : (Rows.cltuUnitsRow.inPlace == Tryd.prog.inPlace 6) = true := by kernel_rfl
theorem follow : (Rows.cltuUnitsRow.unfollowed == Tryd.prog.unfollowed 6) = true := by kernel_rfl
theorem recur : (Rows.cltuUnitsRow.recurses == Tryd.prog.recurses 6) = true := by kernel_rfl
theorem names : (Rows.cltuUnitsRow.named == Tryd.prog.varsNamed 6) = true := by kernel_rfl
theorem lifted (os : Os) (started : os.Started) (H : Type) (enc : TypeId × Value → H) (F : Stop.Interp) :
    ReturnsInHanded {} Tryd.checked os 6 .any ((OpenSpec.ofChange Rows.cltuUnitsSpec).preRow enc Tryd.prog Tryd.f6 Rows.cltuUnitsRow.domain false Rows.cltuUnitsRow.laid) (((OpenSpec.ofChange Rows.cltuUnitsSpec).at F).post enc Tryd.prog Tryd.f6 false true false false) := by
  obtain ⟨places, hx⟩ := reads os enc
  refine returnsInHanded_of_row (C := Tryd.checked) (s := OpenSpec.ofChange Rows.cltuUnitsSpec) Close.own started (by kernel_rfl) Tryd.func6
    (witness_row_at (enc := enc) (C := Tryd.checked) false (Close.laidWorld os) #[.slice none 0 0, .slice none 0 0] rfl (by kernel_rfl) (by kernel_rfl) (by kernel_rfl)
      (OpenSpec.preRow_of_cond 8 hx (by kernel_rfl) (fun k hk => by cases hk) (by kernel_rfl) (laid_met os))) ?_
  intro W base args ds gs before hval hW _ _ hsz hL _ _
  exact contract H enc W base args ds gs before hval hW hsz hL

theorem facts : joinedFacts Tryd.prog 6 Tryd.f6 Rows.cltuUnitsSpec Rows.cltuUnitsRow = true :=
  Close.joined_of light Close.laidOut Close.mapsRow place follow recur names
    (Eq.trans (congrArg (· == Tryd.prog.plainKeys) (rfl : Rows.cltuUnitsRow.plainKeys = Rows.cltuBlocksRow.plainKeys)) Close.keys) Close.heard Close.enter
    (Eq.trans (congrArg (· == Tryd.prog.liftsFinal) (rfl : Rows.cltuUnitsRow.lifted = Rows.cltuBlocksRow.lifted)) Close.lifts)
    (Eq.trans (congrArg (fun x => Tryd.prog.make == some x) (rfl : Rows.cltuUnitsRow.make = Rows.cltuBlocksRow.make)) Close.makes)
theorem said : Rows.CltuUnitsSaid :=
  OpenClaim.holds_of_cond 6 Tryd.f6 rfl rfl rfl rfl rfl rfl rfl ⟨rfl, rfl, rfl, rfl, rfl⟩ rfl rfl rfl rfl rfl (by kernel_rfl) Tryd.func6 facts
    (of_decide_eq_true (by kernel_rfl)) (by unfold Func.isWrapper; first | (rw [if_pos (by decide +kernel)]; kernel_rfl) | (rw [if_neg (by decide +kernel)]; exact ⟨rfl, rfl⟩))
    (fun os started H enc _ F => by rw [OpenClaim.pre_eq_preRow]; exact lifted os started H enc F)

theorem plain (f : FuncId) (fn : Func) (hf : Tryd.pinned.checked.prog.funcNamed "perigee/perigeelaw13.CltuUnits" = some f) (hfn : Tryd.pinned.checked.prog.funcs[f]? = some fn) :
    false = Tryd.pinned.checked.prog.looks [] ∧ ∀ (j : Nat) t, fn.params[j]? = some t → Tryd.pinned.checked.prog.wantsStandIn t = false := by
  obtain rfl : f = 6 := Option.some.inj ((show Tryd.prog.funcNamed "perigee/perigeelaw13.CltuUnits" = some 6 by kernel_rfl).symm.trans hf) |>.symm
  obtain rfl : fn = Tryd.f6 := (Option.some.inj (Tryd.func6.symm.trans hfn)).symm
  refine ⟨by kernel_rfl, fun j t ht => ?_⟩
  rw [Tryd.params6] at ht
  have hm := Array.mem_of_getElem? ht
  have : t = 33 ∨ t = 34 := by simpa using hm
  rcases this with rfl | rfl
  · exact (show Tryd.prog.wantsStandIn 33 = false by kernel_rfl)
  · exact (show Tryd.prog.wantsStandIn 34 = false by kernel_rfl)

end Go.Proofs.YtoeepogoogcbiaaDoor.cltuUnits
namespace Go.Proofs.YtoeepogoogcbiaaDoor
open Go
/-- The card. -/
theorem cltuUnits_card : Rows.CltuUnitsCardSaid :=
  Claim7.holds_tied_plain_at .later [] _ _ _ _ cltuUnits.said (fun _ h => by cases h) (by kernel_rfl) (fun _ h => by cases h) cltuUnits_row_tie rfl ⟨rfl, rfl⟩ (by kernel_rfl) rfl cltuUnits.plain (by kernel_rfl)
end Go.Proofs.YtoeepogoogcbiaaDoor
