/-
  PROVED: Try's 'channelsNone': a mux or demux that is nil, or was not returned by its function, does nothing: its row. CONDITIONS: those of the row and no other. Own work; the closing after the guide's toys.
-/
import Derived.Test.YtlgpalokjckdcaaChaS3
import Derived.Test.YtlgpalokjckdcaaPClose
namespace Go.Proofs.Ytlgpalokjckdcaa.channelsNone
open Go Go.Am Go.ChangeShapes Go.WideShapes Go.ChangeAt Go.RowKit
set_option maxRecDepth 100000


theorem contract (H : Type) (enc : TypeId × Value → H) (W : World) (base : Nat) (args : Array Value) (ds gs : List (DataW H)) (before : List MemPlace)
    (hval : ∀ (j : Nat) t v, Try.f7.params[j]? = some t → args[j]? = some v → Value.okWide Try.prog W .any base t v)
    (hW : DataW.Whole enc Try.prog Try.f7.params.toList Rows.channelsNoneSpec.vars false W args.toList ds gs before) (hsz : (DataW.weightsEach Try.prog (Try.f7.params.toList ++ (OpenSpec.ofChange Rows.channelsNoneSpec).bare.plain.varTypes Try.prog) (ds ++ gs)).all (· ≤ reachBytes) = true) (_hL : laidMetH Try.prog Rows.channelsNoneRow.laid W) :
    Calls Try.prog 7 args W fun e W' => ∃ v, e = .returned v ∧ Rows.channelsNoneSpec.post enc Try.prog Try.f7 false true false false W args v W' := by
  have hW' := hW
  obtain ⟨p, q, hA0, hV, hpq, hfz, hnd⟩ := hW
  have hA : DataW.TrodAll enc Try.prog W 0 (fun _ => true) true Try.f7.params.toList args.toList ds p := hA0
  rw [Try.params7] at hA hval
  obtain ⟨v0, vs0, d0, ds0, p0, q0, hargs0, rfl, rfl, h0, r0⟩ := trodAll_cons hA
  obtain ⟨v1, vs1, d1, ds1, p1, q1, hargs1, rfl, rfl, h1, r1⟩ := trodAll_cons r0
  obtain ⟨v2, vs2, d2, ds2, p2, q2, hargs2, rfl, rfl, h2, r2⟩ := trodAll_cons r1
  obtain ⟨hlast, rfl, rfl⟩ := trodAll_nil r2
  subst hlast
  subst hargs2
  subst hargs1
  obtain rfl : args = #[v0, v1, v2] := by cases args; simp_all
  obtain ⟨rfl, rfl⟩ := trodVars_none hV
  clear hA0 hpq
  have fin : ∀ W', Below W.heap.size W W' → Rows.channelsNoneSpec.post enc Try.prog Try.f7 false true false false W #[v0, v1, v2] (.bool true) W' := fun W' hg => post_law Close.laidOut (by kernel_rfl) rfl hW' rfl rfl rfl (by kernel_rfl) Try.underlying4 hg
  clear hW'
  obtain ⟨x0, rfl, rfl, rfl, w0⟩ := open_int Try.underlying3 (hval 0 3 v0 rfl rfl) h0
  have b0 := Close.bounds _ w0
  simp only [IntKind.min, IntKind.max, IntKind.signed, IntKind.bits] at b0
  obtain ⟨x1, rfl, rfl, rfl, w1⟩ := Go.ChangeMaps.open_string Try.underlying9 (hval 1 9 v1 rfl rfl) h1
  obtain ⟨x2, rfl, rfl, rfl, w2⟩ := open_int Try.underlying31 (hval 2 31 v2 rfl rfl) h2
  have b2 := Close.bounds _ w2
  simp only [IntKind.min, IntKind.max, IntKind.signed, IntKind.bits] at b2
  clear hsz
  have walk : Calls Try.prog 7 #[.int .i64 x0, .string x1, .int .u32 x2] W fun e W' => e = .returned (.bool true) ∧ Below W.heap.size W W' := Cha.none_walk x0 x1 x2 W
  exact walk.mono fun e W' ⟨he, hg⟩ => by
    subst he
    exact ⟨_, rfl, fin W' hg⟩

theorem laid_met (os : Os) : laidMet Try.prog Rows.channelsNoneRow.laid ((Close.laidWorld os).forCall (fun _ _ => 0) ⟨#[], #[.int .i64 0, .string .empty, .int .u32 0], []⟩).memory :=
  ⟨[], rfl, List.nodup_nil, fun _ _ h => by cases h⟩
theorem reads (os : Os) {H : Type} (enc : TypeId × Value → H) : ∃ places, DataW.whole enc Try.prog ((Close.laidWorld os).forCall (fun _ _ => 0) ⟨#[], #[.int .i64 0, .string .empty, .int .u32 0], []⟩).memory Try.f7.params.toList Rows.channelsNoneSpec.vars false (#[.int .i64 0, .string .empty, .int .u32 0] : Array Value).toList 8 = some ([.lit (.int .i64 0), .lit (.string []), .lit (.int .u32 0)], [], places) :=
  ⟨[], by kernel_rfl⟩

theorem light : Close.light Try.prog Try.f7 Rows.channelsNoneSpec Rows.channelsNoneRow = true := by kernel_rfl
theorem place : (Rows.channelsNoneRow.inPlace == Try.prog.inPlace 7) = true := by kernel_rfl
theorem follow : (Rows.channelsNoneRow.unfollowed == Try.prog.unfollowed 7) = true := by kernel_rfl
theorem recur : (Rows.channelsNoneRow.recurses == Try.prog.recurses 7) = true := by kernel_rfl
theorem names : (Rows.channelsNoneRow.named == Try.prog.varsNamed 7) = true := by kernel_rfl
theorem lifted (os : Os) (started : os.Started) (H : Type) (enc : TypeId × Value → H) (F : Stop.Interp) :
    ReturnsInHanded {} Try.checked os 7 .any ((OpenSpec.ofChange Rows.channelsNoneSpec).preRow enc Try.prog Try.f7 Rows.channelsNoneRow.domain false Rows.channelsNoneRow.laid) (((OpenSpec.ofChange Rows.channelsNoneSpec).at F).post enc Try.prog Try.f7 false true false false) := by
  obtain ⟨places, hx⟩ := reads os enc
  refine returnsInHanded_of_row (C := Try.checked) (s := OpenSpec.ofChange Rows.channelsNoneSpec) Close.own started (by kernel_rfl) Try.func7
    (witness_row_at (enc := enc) (C := Try.checked) false (Close.laidWorld os) #[.int .i64 0, .string .empty, .int .u32 0] rfl (by kernel_rfl) (by kernel_rfl) (by kernel_rfl)
      (OpenSpec.preRow_of_cond 8 hx (by kernel_rfl) (fun k hk => by cases hk) (by kernel_rfl) (laid_met os))) ?_
  intro W base args ds gs before hval hW _ _ hsz hL _ _
  exact contract H enc W base args ds gs before hval hW hsz hL

theorem facts : joinedFacts Try.prog 7 Try.f7 Rows.channelsNoneSpec Rows.channelsNoneRow = true :=
  Close.joined_of light Close.laidOut Close.mapsRow place follow recur names
    (Eq.trans (congrArg (· == Try.prog.plainKeys) (rfl : Rows.channelsNoneRow.plainKeys = Rows.channelsDemuxRow.plainKeys)) Close.keys) Close.heard Close.enter
    (Eq.trans (congrArg (· == Try.prog.liftsFinal) (rfl : Rows.channelsNoneRow.lifted = Rows.channelsDemuxRow.lifted)) Close.lifts)
    (Eq.trans (congrArg (fun x => Try.prog.make == some x) (rfl : Rows.channelsNoneRow.make = Rows.channelsDemuxRow.make)) Close.makes)
theorem said : Rows.ChannelsNoneSaid :=
  OpenClaim.holds_of_cond 7 Try.f7 rfl rfl rfl rfl rfl rfl rfl ⟨rfl, rfl, rfl, rfl, rfl⟩ rfl rfl rfl rfl rfl (by kernel_rfl) Try.func7 facts
    (of_decide_eq_true (by kernel_rfl)) (by unfold Func.isWrapper; first | (rw [if_pos (by decide +kernel)]; kernel_rfl) | (rw [if_neg (by decide +kernel)]; exact ⟨rfl, rfl⟩))
    (fun os started H enc _ F => by rw [OpenClaim.pre_eq_preRow]; exact lifted os started H enc F)

end Go.Proofs.Ytlgpalokjckdcaa.channelsNone
namespace Go.Proofs.Ytlgpalokjckdcaa
open Go
/-- The row. -/
theorem channelsNone_said : Rows.ChannelsNoneSaid := channelsNone.said
end Go.Proofs.Ytlgpalokjckdcaa
