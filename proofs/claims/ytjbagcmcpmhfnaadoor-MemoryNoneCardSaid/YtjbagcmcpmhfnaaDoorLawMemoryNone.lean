/-
  PROVED: Tryd's 'memoryNone': a memory that is nil or was not returned by New returns ErrNil and zero values: the tied card of its row. CONDITIONS: those of the row (the table math/bits.deBruijn64tab as the program's text lays it) and no other. Own work; the closing after the guide's toy of a row that lists a table.
-/
import Derived.Test.YtjbagcmcpmhfnaaDoorMemP
import Derived.Test.YtjbagcmcpmhfnaaDoorAmY
import Derived.Test.YtjbagcmcpmhfnaaDoorHClose
import Derived.Test.YtjbagcmcpmhfnaaDoorCards
import Derived.Test.YtjbagcmcpmhfnaaDoorTie
namespace Go.Proofs.YtjbagcmcpmhfnaaDoor.memoryNone
open Go Go.Am Go.ChangeShapes Go.WideShapes Go.ChangeAt Go.RowKit
set_option maxRecDepth 100000


theorem contract (H : Type) (enc : TypeId × Value → H) (W : World) (base : Nat) (args : Array Value) (ds gs : List (DataW H)) (before : List MemPlace)
    (hval : ∀ (j : Nat) t v, Tryd.f9.params[j]? = some t → args[j]? = some v → Value.okWide Tryd.prog W .any base t v)
    (hW : DataW.Whole enc Tryd.prog Tryd.f9.params.toList Rows.memoryNoneSpec.vars false W args.toList ds gs before) (hL : laidMetH Tryd.prog Rows.memoryNoneRow.laid W) :
    Calls Tryd.prog 9 args W fun e W' => ∃ v, e = .returned v ∧ Rows.memoryNoneSpec.post enc Tryd.prog Tryd.f9 false true false false W args v W' := by
  have hW' := hW
  obtain ⟨p, q, hA0, hV, hpq, hfz, hnd⟩ := hW
  have hA : DataW.TrodAll enc Tryd.prog W 0 (fun _ => true) true Tryd.f9.params.toList args.toList ds p := hA0
  rw [Tryd.params9] at hA hval
  obtain ⟨v0, vs0, d0, ds0, p0, q0, hargs0, rfl, rfl, h0, r0⟩ := trodAll_cons hA
  obtain ⟨hlast, rfl, rfl⟩ := trodAll_nil r0
  subst hlast
  obtain rfl : args = #[v0] := by cases args; simp_all
  obtain ⟨rfl, rfl⟩ := trodVars_none hV
  clear hA0 hpq
  have fin : ∀ W', Below W.heap.size W W' → Rows.memoryNoneSpec.post enc Tryd.prog Tryd.f9 false true false false W #[v0] (.bool true) W' := fun W' hg => post_law Close.laidOut (by kernel_rfl) rfl hW' rfl rfl rfl (by kernel_rfl) Tryd.underlying4 hg
  clear hW'
  obtain ⟨cs0, rfl, hl0, hf0⟩ := open_one Tryd.underlying66 (by kernel_rfl) (by kernel_rfl) (hval 0 66 v0 rfl rfl) h0
  obtain ⟨c0, c1, c2, c3, c4, rfl⟩ : ∃ c0 c1 c2 c3 c4, cs0 = [c0, c1, c2, c3, c4] := by
    match cs0, hl0 with
    | [a, b, c, d, e], _ => exact ⟨a, b, c, d, e, rfl⟩
  obtain ⟨_, _, e0⟩ := hf0 0 _ c0 rfl rfl
  obtain ⟨z0, q0, _, _⟩ := DataW.trod_int Tryd.underlying5 e0
  injection q0 with q0 _
  subst q0
  obtain ⟨_, _, e1⟩ := hf0 1 _ c1 rfl rfl
  obtain ⟨z1, q1, _, _⟩ := DataW.trod_int Tryd.underlying3 e1
  injection q1 with q1 _
  subst q1
  obtain ⟨_, _, e2⟩ := hf0 2 _ c2 rfl rfl
  obtain ⟨z2, q2, _, _⟩ := DataW.trod_int Tryd.underlying3 e2
  injection q2 with q2 _
  subst q2
  obtain ⟨_, _, e3⟩ := hf0 3 _ c3 rfl rfl
  obtain ⟨z3, q3, _, _⟩ := DataW.trod_int Tryd.underlying22 e3
  injection q3 with q3 _
  subst q3
  obtain ⟨_, _, e4⟩ := hf0 4 _ c4 rfl rfl
  obtain ⟨z4, q4, _, _⟩ := DataW.trod_string Tryd.underlying9 e4
  injection q4 with q4 _
  subst q4
  have walk : Calls Tryd.prog 9 #[.agg ⟨[.int .u8 z0, .int .i64 z1, .int .i64 z2, .int .u32 z3, .string z4]⟩] W fun e W' => e = .returned (.bool true) ∧ Below W.heap.size W W' :=
    law_of_spec Mem.okNone (Close.gok hL) rfl rfl
  exact walk.mono fun e W' ⟨he, hg⟩ => by
    subst he
    exact ⟨_, rfl, fin W' hg⟩

theorem laid_met (os : Os) : laidMet Tryd.prog Rows.memoryNoneRow.laid ((Close.laidWorld os).forCall (fun _ _ => 0) ⟨#[], #[.agg #[.int .u8 0, .int .i64 0, .int .i64 0, .int .u32 0, .string .empty]], []⟩).memory :=
  laidMet_of_run' 80 (by kernel_rfl) (by kernel_rfl)
theorem reads (os : Os) {H : Type} (enc : TypeId × Value → H) : ∃ places, DataW.whole enc Tryd.prog ((Close.laidWorld os).forCall (fun _ _ => 0) ⟨#[], #[.agg #[.int .u8 0, .int .i64 0, .int .i64 0, .int .u32 0, .string .empty]], []⟩).memory Tryd.f9.params.toList Rows.memoryNoneSpec.vars false (#[.agg #[.int .u8 0, .int .i64 0, .int .i64 0, .int .u32 0, .string .empty]] : Array Value).toList 8 = some ([.agg [.lit (.int .u8 0), .lit (.int .i64 0), .lit (.int .i64 0), .lit (.int .u32 0), .lit (.string [])]], [], places) :=
  ⟨[], by kernel_rfl⟩

theorem light : Close.light Tryd.prog Tryd.f9 Rows.memoryNoneSpec Rows.memoryNoneRow = true := by kernel_rfl
theorem place : (Rows.memoryNoneRow.inPlace == Tryd.prog.inPlace 9) = true := by kernel_rfl
theorem follow : (Rows.memoryNoneRow.unfollowed == Tryd.prog.unfollowed 9) = true := by kernel_rfl
theorem recur : (Rows.memoryNoneRow.recurses == Tryd.prog.recurses 9) = true := by kernel_rfl
theorem names : (Rows.memoryNoneRow.named == Tryd.prog.varsNamed 9) = true := by kernel_rfl
theorem lifted (os : Os) (started : os.Started) (H : Type) (enc : TypeId × Value → H) (F : Stop.Interp) :
    ReturnsInHanded {} Tryd.checked os 9 .any ((OpenSpec.ofChange Rows.memoryNoneSpec).preRow enc Tryd.prog Tryd.f9 Rows.memoryNoneRow.domain false Rows.memoryNoneRow.laid) (((OpenSpec.ofChange Rows.memoryNoneSpec).at F).post enc Tryd.prog Tryd.f9 false true false false) := by
  obtain ⟨places, hx⟩ := reads os enc
  refine returnsInHanded_of_row (C := Tryd.checked) (s := OpenSpec.ofChange Rows.memoryNoneSpec) Close.own started (by kernel_rfl) Tryd.func9
    (witness_row_at (enc := enc) (C := Tryd.checked) false (Close.laidWorld os) #[.agg #[.int .u8 0, .int .i64 0, .int .i64 0, .int .u32 0, .string .empty]] rfl (by kernel_rfl) (by kernel_rfl) (by kernel_rfl)
      (OpenSpec.preRow_of_cond 8 hx (by kernel_rfl) (fun k hk => by cases hk) (by kernel_rfl) (laid_met os))) ?_
  intro W base args ds gs before hval hW _ _ _ hL _ _
  exact contract H enc W base args ds gs before hval hW hL

theorem facts : joinedFacts Tryd.prog 9 Tryd.f9 Rows.memoryNoneSpec Rows.memoryNoneRow = true :=
  Close.joined_of light Close.laidOut Close.mapsRow place follow recur names
    (Eq.trans (congrArg (· == Tryd.prog.plainKeys) (rfl : Rows.memoryNoneRow.plainKeys = Rows.memoryCodesRow.plainKeys)) Close.keys) Close.heard Close.enter
    (Eq.trans (congrArg (· == Tryd.prog.liftsFinal) (rfl : Rows.memoryNoneRow.lifted = Rows.memoryCodesRow.lifted)) Close.lifts)
    (Eq.trans (congrArg (fun x => Tryd.prog.make == some x) (rfl : Rows.memoryNoneRow.make = Rows.memoryCodesRow.make)) Close.makes)
theorem said : Rows.MemoryNoneSaid :=
  OpenClaim.holds_of_cond 9 Tryd.f9 rfl rfl rfl rfl rfl rfl rfl ⟨rfl, rfl, rfl, rfl, rfl⟩ rfl rfl rfl rfl rfl (by kernel_rfl) Tryd.func9 facts
    (of_decide_eq_true (by kernel_rfl)) (by unfold Func.isWrapper; first | (rw [if_pos (by decide +kernel)]; kernel_rfl) | (rw [if_neg (by decide +kernel)]; exact ⟨rfl, rfl⟩))
    (fun os started H enc _ F => by rw [OpenClaim.pre_eq_preRow]; exact lifted os started H enc F)

theorem plain (f : FuncId) (fn : Func) (hf : Tryd.pinned.checked.prog.funcNamed "perigee/perigeelaw30.MemoryNone" = some f) (hfn : Tryd.pinned.checked.prog.funcs[f]? = some fn) :
    true = Tryd.pinned.checked.prog.looks [] ∧ ∀ (j : Nat) t, fn.params[j]? = some t → Tryd.pinned.checked.prog.wantsStandIn t = false := by
  obtain rfl : f = 9 := Option.some.inj ((show Tryd.prog.funcNamed "perigee/perigeelaw30.MemoryNone" = some 9 by kernel_rfl).symm.trans hf) |>.symm
  obtain rfl : fn = Tryd.f9 := (Option.some.inj (Tryd.func9.symm.trans hfn)).symm
  refine ⟨by kernel_rfl, fun j t ht => ?_⟩
  rw [Tryd.params9] at ht
  have hm := Array.mem_of_getElem? ht
  have : t = 66 := by simpa using hm
  subst this
  exact (show Tryd.prog.wantsStandIn 66 = false by kernel_rfl)

end Go.Proofs.YtjbagcmcpmhfnaaDoor.memoryNone
namespace Go.Proofs.YtjbagcmcpmhfnaaDoor
open Go
/-- The card. -/
theorem memoryNone_card : Rows.MemoryNoneCardSaid :=
  Claim7.holds_tied_plain_at .later [] _ _ _ _ memoryNone.said (fun _ h => by cases h) (by kernel_rfl) (fun _ h => by cases h) memoryNone_row_tie rfl ⟨rfl, rfl⟩ (by kernel_rfl) rfl memoryNone.plain (by kernel_rfl)
end Go.Proofs.YtjbagcmcpmhfnaaDoor
