/-
  PROVED: Tryd's 'memoryDouble': a word in which two different bits are upset is lost until it is written again, and never has another value; other words are not affected: the tied card of its row. CONDITIONS: those of the row (the table math/bits.deBruijn64tab as the program's text lays it) and no other. Own work; the closing after the guide's toy of a row that lists a table.
-/
import Derived.Test.YtjbagcmcpmhfnaaDoorMemQ
import Derived.Test.YtjbagcmcpmhfnaaDoorAm21
import Derived.Test.YtjbagcmcpmhfnaaDoorHClose
import Derived.Test.YtjbagcmcpmhfnaaDoorCards
import Derived.Test.YtjbagcmcpmhfnaaDoorTie
namespace Go.Proofs.YtjbagcmcpmhfnaaDoor.memoryDouble
open Go Go.Am Go.ChangeShapes Go.WideShapes Go.ChangeAt Go.RowKit
set_option maxRecDepth 100000


theorem contract (H : Type) (enc : TypeId × Value → H) (W : World) (base : Nat) (args : Array Value) (ds gs : List (DataW H)) (before : List MemPlace)
    (hval : ∀ (j : Nat) t v, Tryd.f7.params[j]? = some t → args[j]? = some v → Value.okWide Tryd.prog W .any base t v)
    (hW : DataW.Whole enc Tryd.prog Tryd.f7.params.toList Rows.memoryDoubleSpec.vars false W args.toList ds gs before) (hL : laidMetH Tryd.prog Rows.memoryDoubleRow.laid W) :
    Calls Tryd.prog 7 args W fun e W' => ∃ v, e = .returned v ∧ Rows.memoryDoubleSpec.post enc Tryd.prog Tryd.f7 false true false false W args v W' := by
  have hW' := hW
  obtain ⟨p, q, hA0, hV, hpq, hfz, hnd⟩ := hW
  have hA : DataW.TrodAll enc Tryd.prog W 0 (fun _ => true) true Tryd.f7.params.toList args.toList ds p := hA0
  rw [Tryd.params7] at hA hval
  obtain ⟨v0, vs0, d0, ds0, p0, q0, hargs0, rfl, rfl, h0, r0⟩ := trodAll_cons hA
  obtain ⟨v1, vs1, d1, ds1, p1, q1, hargs1, rfl, rfl, h1, r1⟩ := trodAll_cons r0
  obtain ⟨v2, vs2, d2, ds2, p2, q2, hargs2, rfl, rfl, h2, r2⟩ := trodAll_cons r1
  obtain ⟨hlast, rfl, rfl⟩ := trodAll_nil r2
  subst hlast
  subst hargs2
  subst hargs1
  obtain rfl : args = #[v0, v1, v2] := by cases args; simp_all
  obtain ⟨rfl, rfl⟩ := trodVars_none hV
  clear hA0 hpq
  have fin : ∀ W', Below W.heap.size W W' → Rows.memoryDoubleSpec.post enc Tryd.prog Tryd.f7 false true false false W #[v0, v1, v2] (.bool true) W' := fun W' hg => post_law Close.laidOut (by kernel_rfl) rfl hW' rfl rfl rfl (by kernel_rfl) Tryd.underlying4 hg
  clear hW'
  obtain ⟨x0, rfl, rfl, rfl, w0⟩ := open_int Tryd.underlying22 (hval 0 22 v0 rfl rfl) h0
  have b0 := Close.bounds _ w0
  simp only [IntKind.min, IntKind.max, IntKind.signed, IntKind.bits] at b0
  obtain ⟨x1, rfl, rfl, rfl, w1⟩ := open_int Tryd.underlying22 (hval 1 22 v1 rfl rfl) h1
  have b1 := Close.bounds _ w1
  simp only [IntKind.min, IntKind.max, IntKind.signed, IntKind.bits] at b1
  obtain ⟨l2, hl2, rfl, wl2⟩ := open_arr Tryd.underlying54 Tryd.underlying5 Close.cellsE (by kernel_rfl) (hval 2 54 v2 rfl rfl) h2
  obtain ⟨y0, y1, rfl⟩ : ∃ y0 y1, l2 = [y0, y1] := by
    match l2, hl2 with
    | [a, b], _ => exact ⟨a, b, rfl⟩
  have c0 := Close.bounds _ (wl2 y0 (by simp))
  have c1 := Close.bounds _ (wl2 y1 (by simp))
  simp only [IntKind.min, IntKind.max, IntKind.signed, IntKind.bits] at c0 c1
  have walk : Calls Tryd.prog 7 #[.int .u32 x0, .int .u32 x1, .agg ⟨[.int .u8 y0, .int .u8 y1]⟩] W fun e W' => e = .returned (.bool true) ∧ Below W.heap.size W W' :=
    law_of_spec Mem.okDbl (Close.gok hL) rfl ⟨b0.1, by omega, b1.1, by omega, c0.1, by omega, c1.1, by omega, rfl⟩
  exact walk.mono fun e W' ⟨he, hg⟩ => by
    subst he
    exact ⟨_, rfl, fin W' hg⟩

theorem laid_met (os : Os) : laidMet Tryd.prog Rows.memoryDoubleRow.laid ((Close.laidWorld os).forCall (fun _ _ => 0) ⟨#[], #[.int .u32 0, .int .u32 0, .agg #[.int .u8 0, .int .u8 0]], []⟩).memory :=
  laidMet_of_run' 80 (by kernel_rfl) (by kernel_rfl)
theorem reads (os : Os) {H : Type} (enc : TypeId × Value → H) : ∃ places, DataW.whole enc Tryd.prog ((Close.laidWorld os).forCall (fun _ _ => 0) ⟨#[], #[.int .u32 0, .int .u32 0, .agg #[.int .u8 0, .int .u8 0]], []⟩).memory Tryd.f7.params.toList Rows.memoryDoubleSpec.vars false (#[.int .u32 0, .int .u32 0, .agg #[.int .u8 0, .int .u8 0]] : Array Value).toList 8 = some ([.lit (.int .u32 0), .lit (.int .u32 0), .agg [.lit (.int .u8 0), .lit (.int .u8 0)]], [], places) :=
  ⟨[], by kernel_rfl⟩

theorem light : Close.light Tryd.prog Tryd.f7 Rows.memoryDoubleSpec Rows.memoryDoubleRow = true := by kernel_rfl
theorem place : (Rows.memoryDoubleRow.inPlace == Tryd.prog.inPlace 7) = true := by kernel_rfl
theorem follow : (Rows.memoryDoubleRow.unfollowed == Tryd.prog.unfollowed 7) = true := by kernel_rfl
theorem recur : (Rows.memoryDoubleRow.recurses == Tryd.prog.recurses 7) = true := by kernel_rfl
theorem names : (Rows.memoryDoubleRow.named == Tryd.prog.varsNamed 7) = true := by kernel_rfl
theorem lifted (os : Os) (started : os.Started) (H : Type) (enc : TypeId × Value → H) (F : Stop.Interp) :
    ReturnsInHanded {} Tryd.checked os 7 .any ((OpenSpec.ofChange Rows.memoryDoubleSpec).preRow enc Tryd.prog Tryd.f7 Rows.memoryDoubleRow.domain false Rows.memoryDoubleRow.laid) (((OpenSpec.ofChange Rows.memoryDoubleSpec).at F).post enc Tryd.prog Tryd.f7 false true false false) := by
  obtain ⟨places, hx⟩ := reads os enc
  refine returnsInHanded_of_row (C := Tryd.checked) (s := OpenSpec.ofChange Rows.memoryDoubleSpec) Close.own started (by kernel_rfl) Tryd.func7
    (witness_row_at (enc := enc) (C := Tryd.checked) false (Close.laidWorld os) #[.int .u32 0, .int .u32 0, .agg #[.int .u8 0, .int .u8 0]] rfl (by kernel_rfl) (by kernel_rfl) (by kernel_rfl)
      (OpenSpec.preRow_of_cond 8 hx (by kernel_rfl) (fun k hk => by cases hk) (by kernel_rfl) (laid_met os))) ?_
  intro W base args ds gs before hval hW _ _ _ hL _ _
  exact contract H enc W base args ds gs before hval hW hL

theorem facts : joinedFacts Tryd.prog 7 Tryd.f7 Rows.memoryDoubleSpec Rows.memoryDoubleRow = true :=
  Close.joined_of light Close.laidOut Close.mapsRow place follow recur names
    (Eq.trans (congrArg (· == Tryd.prog.plainKeys) (rfl : Rows.memoryDoubleRow.plainKeys = Rows.memoryCodesRow.plainKeys)) Close.keys) Close.heard Close.enter
    (Eq.trans (congrArg (· == Tryd.prog.liftsFinal) (rfl : Rows.memoryDoubleRow.lifted = Rows.memoryCodesRow.lifted)) Close.lifts)
    (Eq.trans (congrArg (fun x => Tryd.prog.make == some x) (rfl : Rows.memoryDoubleRow.make = Rows.memoryCodesRow.make)) Close.makes)
theorem said : Rows.MemoryDoubleSaid :=
  OpenClaim.holds_of_cond 7 Tryd.f7 rfl rfl rfl rfl rfl rfl rfl ⟨rfl, rfl, rfl, rfl, rfl⟩ rfl rfl rfl rfl rfl (by kernel_rfl) Tryd.func7 facts
    (of_decide_eq_true (by kernel_rfl)) (by unfold Func.isWrapper; first | (rw [if_pos (by decide +kernel)]; kernel_rfl) | (rw [if_neg (by decide +kernel)]; exact ⟨rfl, rfl⟩))
    (fun os started H enc _ F => by rw [OpenClaim.pre_eq_preRow]; exact lifted os started H enc F)

theorem plain (f : FuncId) (fn : Func) (hf : Tryd.pinned.checked.prog.funcNamed "perigee/perigeelaw30.MemoryDouble" = some f) (hfn : Tryd.pinned.checked.prog.funcs[f]? = some fn) :
    true = Tryd.pinned.checked.prog.looks [] ∧ ∀ (j : Nat) t, fn.params[j]? = some t → Tryd.pinned.checked.prog.wantsStandIn t = false := by
  obtain rfl : f = 7 := Option.some.inj ((show Tryd.prog.funcNamed "perigee/perigeelaw30.MemoryDouble" = some 7 by kernel_rfl).symm.trans hf) |>.symm
  obtain rfl : fn = Tryd.f7 := (Option.some.inj (Tryd.func7.symm.trans hfn)).symm
  refine ⟨by kernel_rfl, fun j t ht => ?_⟩
  rw [Tryd.params7] at ht
  have hm := Array.mem_of_getElem? ht
  have : t = 22 ∨ t = 54 := by simpa using hm
  rcases this with rfl | rfl
  · exact (show Tryd.prog.wantsStandIn 22 = false by kernel_rfl)
  · exact (show Tryd.prog.wantsStandIn 54 = false by kernel_rfl)

end Go.Proofs.YtjbagcmcpmhfnaaDoor.memoryDouble
namespace Go.Proofs.YtjbagcmcpmhfnaaDoor
open Go
/-- The card. -/
theorem memoryDouble_card : Rows.MemoryDoubleCardSaid :=
  Claim7.holds_tied_plain_at .later [] _ _ _ _ memoryDouble.said (fun _ h => by cases h) (by kernel_rfl) (fun _ h => by cases h) memoryDouble_row_tie rfl ⟨rfl, rfl⟩ (by kernel_rfl) rfl memoryDouble.plain (by kernel_rfl)
end Go.Proofs.YtjbagcmcpmhfnaaDoor
