/-
  PROVED: Tryd's 'cltuPuts': Put returns what the document says: the tied card of its row. CONDITIONS: those of the row (the two variables start and halves as the program's text lays them) and no other. Own work; the closing after the guide's toy of a row that lists a table.
-/
import Derived.Test.YtoeepogoogcbiaaDoorCltAL
import Derived.Test.YtoeepogoogcbiaaDoorCClose
import Derived.Test.YtoeepogoogcbiaaDoorCards
import Derived.Test.YtoeepogoogcbiaaDoorTie
namespace Go.Proofs.YtoeepogoogcbiaaDoor.cltuPuts
open Go Go.Am Go.ChangeShapes Go.WideShapes Go.ChangeAt Go.RowKit
set_option maxRecDepth 100000


theorem contract (H : Type) (enc : TypeId × Value → H) (W : World) (base : Nat) (args : Array Value) (ds gs : List (DataW H)) (before : List MemPlace)
    (hval : ∀ (j : Nat) t v, Tryd.f4.params[j]? = some t → args[j]? = some v → Value.okWide Tryd.prog W .any base t v)
    (hW : DataW.Whole enc Tryd.prog Tryd.f4.params.toList Rows.cltuPutsSpec.vars false W args.toList ds gs before) (hsz : (DataW.weightsEach Tryd.prog (Tryd.f4.params.toList ++ (OpenSpec.ofChange Rows.cltuPutsSpec).bare.plain.varTypes Tryd.prog) (ds ++ gs)).all (· ≤ reachBytes) = true) (hL : laidMetH Tryd.prog Rows.cltuPutsRow.laid W) :
    Calls Tryd.prog 4 args W fun e W' => ∃ v, e = .returned v ∧ Rows.cltuPutsSpec.post enc Tryd.prog Tryd.f4 false true false false W args v W' := by
  have hW' := hW
  obtain ⟨p, q, hA0, hV, hpq, hfz, hnd⟩ := hW
  have hA : DataW.TrodAll enc Tryd.prog W 0 (fun _ => true) true Tryd.f4.params.toList args.toList ds p := hA0
  rw [Tryd.params4] at hA hval
  obtain ⟨v0, vs0, d0, ds0, p0, q0, hargs0, rfl, rfl, h0, r0⟩ := trodAll_cons hA
  obtain ⟨hlast, rfl, rfl⟩ := trodAll_nil r0
  subst hlast
  obtain rfl : args = #[v0] := by cases args; simp_all
  obtain ⟨rfl, rfl⟩ := trodVars_none hV
  clear hA0 hpq
  have fin : ∀ W', Below W.heap.size W W' → Rows.cltuPutsSpec.post enc Tryd.prog Tryd.f4 false true false false W #[v0] (.bool true) W' := fun W' hg => post_law Close.laidOut (by kernel_rfl) rfl hW' rfl rfl rfl (by kernel_rfl) Tryd.underlying4 hg
  clear hW'
  obtain ⟨x0, rfl, rfl, rfl, w0⟩ := Go.ChangeMaps.open_string Tryd.underlying9 (hval 0 9 v0 rfl rfl) h0
  have s0 := Close.sized_string hsz (j := 0) (t := 9) (by kernel_rfl) rfl
  have walk : Calls Tryd.prog 4 #[.string x0] W fun e W' => e = .returned (.bool true) ∧ Below W.heap.size W W' :=
    Clt.puts_walk (Close.gok hL) (fun _ _ => rfl) (Nat.le_refl _) x0 (Close.size_ok s0)
  exact walk.mono fun e W' ⟨he, hg⟩ => by
    subst he
    exact ⟨_, rfl, fin W' hg⟩

theorem laid_met (os : Os) : laidMet Tryd.prog Rows.cltuPutsRow.laid ((Close.laidWorld os).forCall (fun _ _ => 0) ⟨#[], #[.string .empty], []⟩).memory :=
  laidMet_of_run' 80 (by kernel_rfl) (by kernel_rfl)
theorem reads (os : Os) {H : Type} (enc : TypeId × Value → H) : ∃ places, DataW.whole enc Tryd.prog ((Close.laidWorld os).forCall (fun _ _ => 0) ⟨#[], #[.string .empty], []⟩).memory Tryd.f4.params.toList Rows.cltuPutsSpec.vars false (#[.string .empty] : Array Value).toList 8 = some ([.lit (.string [])], [], places) :=
  ⟨[], by kernel_rfl⟩

theorem light : Close.light Tryd.prog Tryd.f4 Rows.cltuPutsSpec Rows.cltuPutsRow = true := by kernel_rfl
theorem place : (Rows.cltuPutsRow.inPlace == Tryd.prog.inPlace 4) = true := by kernel_rfl
theorem follow : (Rows.cltuPutsRow.unfollowed == Tryd.prog.unfollowed 4) = true := by kernel_rfl
theorem recur : (Rows.cltuPutsRow.recurses == Tryd.prog.recurses 4) = true := by kernel_rfl
theorem names : (Rows.cltuPutsRow.named == Tryd.prog.varsNamed 4) = true := by kernel_rfl
theorem lifted (os : Os) (started : os.Started) (H : Type) (enc : TypeId × Value → H) (F : Stop.Interp) :
    ReturnsInHanded {} Tryd.checked os 4 .any ((OpenSpec.ofChange Rows.cltuPutsSpec).preRow enc Tryd.prog Tryd.f4 Rows.cltuPutsRow.domain false Rows.cltuPutsRow.laid) (((OpenSpec.ofChange Rows.cltuPutsSpec).at F).post enc Tryd.prog Tryd.f4 false true false false) := by
  obtain ⟨places, hx⟩ := reads os enc
  refine returnsInHanded_of_row (C := Tryd.checked) (s := OpenSpec.ofChange Rows.cltuPutsSpec) Close.own started (by kernel_rfl) Tryd.func4
    (witness_row_at (enc := enc) (C := Tryd.checked) false (Close.laidWorld os) #[.string .empty] rfl (by kernel_rfl) (by kernel_rfl) (by kernel_rfl)
      (OpenSpec.preRow_of_cond 8 hx (by kernel_rfl) (fun k hk => by cases hk) (by kernel_rfl) (laid_met os))) ?_
  intro W base args ds gs before hval hW _ _ hsz hL _ _
  exact contract H enc W base args ds gs before hval hW hsz hL

theorem facts : joinedFacts Tryd.prog 4 Tryd.f4 Rows.cltuPutsSpec Rows.cltuPutsRow = true :=
  Close.joined_of light Close.laidOut Close.mapsRow place follow recur names
    (Eq.trans (congrArg (· == Tryd.prog.plainKeys) (rfl : Rows.cltuPutsRow.plainKeys = Rows.cltuBlocksRow.plainKeys)) Close.keys) Close.heard Close.enter
    (Eq.trans (congrArg (· == Tryd.prog.liftsFinal) (rfl : Rows.cltuPutsRow.lifted = Rows.cltuBlocksRow.lifted)) Close.lifts)
    (Eq.trans (congrArg (fun x => Tryd.prog.make == some x) (rfl : Rows.cltuPutsRow.make = Rows.cltuBlocksRow.make)) Close.makes)
theorem said : Rows.CltuPutsSaid :=
  OpenClaim.holds_of_cond 4 Tryd.f4 rfl rfl rfl rfl rfl rfl rfl ⟨rfl, rfl, rfl, rfl, rfl⟩ rfl rfl rfl rfl rfl (by kernel_rfl) Tryd.func4 facts
    (of_decide_eq_true (by kernel_rfl)) (by unfold Func.isWrapper; first | (rw [if_pos (by decide +kernel)]; kernel_rfl) | (rw [if_neg (by decide +kernel)]; exact ⟨rfl, rfl⟩))
    (fun os started H enc _ F => by rw [OpenClaim.pre_eq_preRow]; exact lifted os started H enc F)

theorem plain (f : FuncId) (fn : Func) (hf : Tryd.pinned.checked.prog.funcNamed "perigee/perigeelaw13.CltuPuts" = some f) (hfn : Tryd.pinned.checked.prog.funcs[f]? = some fn) :
    false = Tryd.pinned.checked.prog.looks [] ∧ ∀ (j : Nat) t, fn.params[j]? = some t → Tryd.pinned.checked.prog.wantsStandIn t = false := by
  obtain rfl : f = 4 := Option.some.inj ((show Tryd.prog.funcNamed "perigee/perigeelaw13.CltuPuts" = some 4 by kernel_rfl).symm.trans hf) |>.symm
  obtain rfl : fn = Tryd.f4 := (Option.some.inj (Tryd.func4.symm.trans hfn)).symm
  refine ⟨by kernel_rfl, fun j t ht => ?_⟩
  rw [Tryd.params4] at ht
  have hm := Array.mem_of_getElem? ht
  have : t = 9 := by simpa using hm
  subst this
  exact (show Tryd.prog.wantsStandIn 9 = false by kernel_rfl)

end Go.Proofs.YtoeepogoogcbiaaDoor.cltuPuts
namespace Go.Proofs.YtoeepogoogcbiaaDoor
open Go
/-- The card. -/
theorem cltuPuts_card : Rows.CltuPutsCardSaid :=
  Claim7.holds_tied_plain_at .later [] _ _ _ _ cltuPuts.said (fun _ h => by cases h) (by kernel_rfl) (fun _ h => by cases h) cltuPuts_row_tie rfl ⟨rfl, rfl⟩ (by kernel_rfl) rfl cltuPuts.plain (by kernel_rfl)
end Go.Proofs.YtoeepogoogcbiaaDoor
