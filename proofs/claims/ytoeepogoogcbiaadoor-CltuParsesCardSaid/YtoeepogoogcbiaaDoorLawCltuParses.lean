/-
  PROVED: Tryd's 'cltuParses': for every stream of bytes, in any portions, with resets after some, Feed and Locked return what the document says; a parser that New did not return returns nothing: the tied card of its row. CONDITIONS: those of the row (the two variables start and halves as the program's text lays them) and no other. Own work; the closing after the guide's toy of a row that lists a table.
-/
import Derived.Test.YtoeepogoogcbiaaDoorCltCH
import Derived.Test.YtoeepogoogcbiaaDoorCltAV
import Derived.Test.YtoeepogoogcbiaaDoorCClose
import Derived.Test.YtoeepogoogcbiaaDoorCards
import Derived.Test.YtoeepogoogcbiaaDoorTie
namespace Go.Proofs.YtoeepogoogcbiaaDoor.cltuParses
open Go Go.Am Go.ChangeShapes Go.WideShapes Go.ChangeAt Go.RowKit
set_option maxRecDepth 100000


theorem contract (H : Type) (enc : TypeId × Value → H) (W : World) (base : Nat) (args : Array Value) (ds gs : List (DataW H)) (before : List MemPlace)
    (hval : ∀ (j : Nat) t v, Tryd.f8.params[j]? = some t → args[j]? = some v → Value.okWide Tryd.prog W .any base t v)
    (hW : DataW.Whole enc Tryd.prog Tryd.f8.params.toList Rows.cltuParsesSpec.vars false W args.toList ds gs before) (hsz : (DataW.weightsEach Tryd.prog (Tryd.f8.params.toList ++ (OpenSpec.ofChange Rows.cltuParsesSpec).bare.plain.varTypes Tryd.prog) (ds ++ gs)).all (· ≤ reachBytes) = true) (hL : laidMetH Tryd.prog Rows.cltuParsesRow.laid W) :
    Calls Tryd.prog 8 args W fun e W' => ∃ v, e = .returned v ∧ Rows.cltuParsesSpec.post enc Tryd.prog Tryd.f8 false true false false W args v W' := by
  have hW' := hW
  obtain ⟨p, q, hA0, hV, hpq, hfz, hnd⟩ := hW
  have hA : DataW.TrodAll enc Tryd.prog W 0 (fun _ => true) true Tryd.f8.params.toList args.toList ds p := hA0
  rw [Tryd.params8] at hA hval
  obtain ⟨v0, vs0, d0, ds0, p0, q0, hargs0, rfl, rfl, h0, r0⟩ := trodAll_cons hA
  obtain ⟨v1, vs1, d1, ds1, p1, q1, hargs1, rfl, rfl, h1, r1⟩ := trodAll_cons r0
  obtain ⟨hlast, rfl, rfl⟩ := trodAll_nil r1
  subst hlast
  subst hargs1
  obtain rfl : args = #[v0, v1] := by cases args; simp_all
  obtain ⟨rfl, rfl⟩ := trodVars_none hV
  clear hA0 hpq
  have fin : ∀ W', Below W.heap.size W W' → Rows.cltuParsesSpec.post enc Tryd.prog Tryd.f8 false true false false W #[v0, v1] (.bool true) W' := fun W' hg => post_law Close.laidOut (by kernel_rfl) rfl hW' rfl rfl rfl (by kernel_rfl) Tryd.underlying4 hg
  clear hW'
  obtain ⟨ao, n, cap, F, rfl, _, hcs⟩ := Clt.strs_in Tryd.underlying33 Tryd.underlying9 (by kernel_rfl) (hval 0 33 v0 rfl rfl) h0
  obtain ⟨bo, nb, bcap, Bv, rfl, hbs⟩ := Clt.bools_in Tryd.underlying41 Tryd.underlying4 (by kernel_rfl) (hval 1 41 v1 rfl rfl) h1
  clear hsz
  have walk : Calls Tryd.prog 8 #[.slice ao n cap, .slice bo nb bcap] W fun e W' => e = .returned (.bool true) ∧ Below W.heap.size W W' :=
    Clt.parses_walk (Close.gok hL) ao n cap F bo nb bcap Bv hcs hbs
  exact walk.mono fun e W' ⟨he, hg⟩ => by
    subst he
    exact ⟨_, rfl, fin W' hg⟩

theorem laid_met (os : Os) : laidMet Tryd.prog Rows.cltuParsesRow.laid ((Close.laidWorld os).forCall (fun _ _ => 0) ⟨#[], #[.slice none 0 0, .slice none 0 0], []⟩).memory :=
  laidMet_of_run' 80 (by kernel_rfl) (by kernel_rfl)
theorem reads (os : Os) {H : Type} (enc : TypeId × Value → H) : ∃ places, DataW.whole enc Tryd.prog ((Close.laidWorld os).forCall (fun _ _ => 0) ⟨#[], #[.slice none 0 0, .slice none 0 0], []⟩).memory Tryd.f8.params.toList Rows.cltuParsesSpec.vars false (#[.slice none 0 0, .slice none 0 0] : Array Value).toList 8 = some ([.nil, .nil], [], places) :=
  ⟨[], by kernel_rfl⟩

theorem light : Close.light Tryd.prog Tryd.f8 Rows.cltuParsesSpec Rows.cltuParsesRow = true := by kernel_rfl
theorem place : (Rows.cltuParsesRow.inPlace == Tryd.prog.inPlace 8) = true := by kernel_rfl
theorem follow : (Rows.cltuParsesRow.unfollowed == Tryd.prog.unfollowed 8) = true := by kernel_rfl
theorem recur : (Rows.cltuParsesRow.recurses == Tryd.prog.recurses 8) = true := by kernel_rfl
theorem names : (Rows.cltuParsesRow.named == Tryd.prog.varsNamed 8) = true := by kernel_rfl
theorem lifted (os : Os) (started : os.Started) (H : Type) (enc : TypeId × Value → H) (F : Stop.Interp) :
    ReturnsInHanded {} Tryd.checked os 8 .any ((OpenSpec.ofChange Rows.cltuParsesSpec).preRow enc Tryd.prog Tryd.f8 Rows.cltuParsesRow.domain false Rows.cltuParsesRow.laid) (((OpenSpec.ofChange Rows.cltuParsesSpec).at F).post enc Tryd.prog Tryd.f8 false true false false) := by
  obtain ⟨places, hx⟩ := reads os enc
  refine returnsInHanded_of_row (C := Tryd.checked) (s := OpenSpec.ofChange Rows.cltuParsesSpec) Close.own started (by kernel_rfl) Tryd.func8
    (witness_row_at (enc := enc) (C := Tryd.checked) false (Close.laidWorld os) #[.slice none 0 0, .slice none 0 0] rfl (by kernel_rfl) (by kernel_rfl) (by kernel_rfl)
      (OpenSpec.preRow_of_cond 8 hx (by kernel_rfl) (fun k hk => by cases hk) (by kernel_rfl) (laid_met os))) ?_
  intro W base args ds gs before hval hW _ _ hsz hL _ _
  exact contract H enc W base args ds gs before hval hW hsz hL

theorem facts : joinedFacts Tryd.prog 8 Tryd.f8 Rows.cltuParsesSpec Rows.cltuParsesRow = true :=
  Close.joined_of light Close.laidOut Close.mapsRow place follow recur names
    (Eq.trans (congrArg (· == Tryd.prog.plainKeys) (rfl : Rows.cltuParsesRow.plainKeys = Rows.cltuBlocksRow.plainKeys)) Close.keys) Close.heard Close.enter
    (Eq.trans (congrArg (· == Tryd.prog.liftsFinal) (rfl : Rows.cltuParsesRow.lifted = Rows.cltuBlocksRow.lifted)) Close.lifts)
    (Eq.trans (congrArg (fun x => Tryd.prog.make == some x) (rfl : Rows.cltuParsesRow.make = Rows.cltuBlocksRow.make)) Close.makes)
theorem said : Rows.CltuParsesSaid :=
  OpenClaim.holds_of_cond 8 Tryd.f8 rfl rfl rfl rfl rfl rfl rfl ⟨rfl, rfl, rfl, rfl, rfl⟩ rfl rfl rfl rfl rfl (by kernel_rfl) Tryd.func8 facts
    (of_decide_eq_true (by kernel_rfl)) (by unfold Func.isWrapper; first | (rw [if_pos (by decide +kernel)]; kernel_rfl) | (rw [if_neg (by decide +kernel)]; exact ⟨rfl, rfl⟩))
    (fun os started H enc _ F => by rw [OpenClaim.pre_eq_preRow]; exact lifted os started H enc F)

theorem plain (f : FuncId) (fn : Func) (hf : Tryd.pinned.checked.prog.funcNamed "perigee/perigeelaw13.CltuParses" = some f) (hfn : Tryd.pinned.checked.prog.funcs[f]? = some fn) :
    false = Tryd.pinned.checked.prog.looks [] ∧ ∀ (j : Nat) t, fn.params[j]? = some t → Tryd.pinned.checked.prog.wantsStandIn t = false := by
  obtain rfl : f = 8 := Option.some.inj ((show Tryd.prog.funcNamed "perigee/perigeelaw13.CltuParses" = some 8 by kernel_rfl).symm.trans hf) |>.symm
  obtain rfl : fn = Tryd.f8 := (Option.some.inj (Tryd.func8.symm.trans hfn)).symm
  refine ⟨by kernel_rfl, fun j t ht => ?_⟩
  rw [Tryd.params8] at ht
  have hm := Array.mem_of_getElem? ht
  have : t = 33 ∨ t = 41 := by simpa using hm
  rcases this with rfl | rfl
  · exact (show Tryd.prog.wantsStandIn 33 = false by kernel_rfl)
  · exact (show Tryd.prog.wantsStandIn 41 = false by kernel_rfl)

end Go.Proofs.YtoeepogoogcbiaaDoor.cltuParses
namespace Go.Proofs.YtoeepogoogcbiaaDoor
open Go
/-- The card. -/
theorem cltuParses_card : Rows.CltuParsesCardSaid :=
  Claim7.holds_tied_plain_at .later [] _ _ _ _ cltuParses.said (fun _ h => by cases h) (by kernel_rfl) (fun _ h => by cases h) cltuParses_row_tie rfl ⟨rfl, rfl⟩ (by kernel_rfl) rfl cltuParses.plain (by kernel_rfl)
end Go.Proofs.YtoeepogoogcbiaaDoor
