/-
  PROVED: Try's 'channelsShares': without the reference: if enough waits in all eight channels, which have one priority, each run of as many frames as the sum of the shares contains exactly its share of each channel: its row. CONDITIONS: those of the row and no other. Own work; the closing after the guide's toys.
-/
import Derived.Test.YtlgpalokjckdcaaChaSh
import Derived.Test.YtlgpalokjckdcaaAmY
import Derived.Test.YtlgpalokjckdcaaPClose
namespace Go.Proofs.Ytlgpalokjckdcaa.channelsShares
open Go Go.Am Go.ChangeShapes Go.WideShapes Go.ChangeAt Go.RowKit
set_option maxRecDepth 100000


theorem contract (H : Type) (enc : TypeId × Value → H) (W : World) (base : Nat) (args : Array Value) (ds gs : List (DataW H)) (before : List MemPlace)
    (hval : ∀ (j : Nat) t v, Try.f5.params[j]? = some t → args[j]? = some v → Value.okWide Try.prog W .any base t v)
    (hW : DataW.Whole enc Try.prog Try.f5.params.toList Rows.channelsSharesSpec.vars false W args.toList ds gs before) (hsz : (DataW.weightsEach Try.prog (Try.f5.params.toList ++ (OpenSpec.ofChange Rows.channelsSharesSpec).bare.plain.varTypes Try.prog) (ds ++ gs)).all (· ≤ reachBytes) = true) (_hL : laidMetH Try.prog Rows.channelsSharesRow.laid W) :
    Calls Try.prog 5 args W fun e W' => ∃ v, e = .returned v ∧ Rows.channelsSharesSpec.post enc Try.prog Try.f5 false true false false W args v W' := by
  have hW' := hW
  obtain ⟨p, q, hA0, hV, hpq, hfz, hnd⟩ := hW
  have hA : DataW.TrodAll enc Try.prog W 0 (fun _ => true) true Try.f5.params.toList args.toList ds p := hA0
  rw [Try.params5] at hA hval
  obtain ⟨v0, vs0, d0, ds0, p0, q0, hargs0, rfl, rfl, h0, r0⟩ := trodAll_cons hA
  obtain ⟨v1, vs1, d1, ds1, p1, q1, hargs1, rfl, rfl, h1, r1⟩ := trodAll_cons r0
  obtain ⟨hlast, rfl, rfl⟩ := trodAll_nil r1
  subst hlast
  subst hargs1
  obtain rfl : args = #[v0, v1] := by cases args; simp_all
  obtain ⟨rfl, rfl⟩ := trodVars_none hV
  clear hA0 hpq
  have fin : ∀ W', Below W.heap.size W W' → Rows.channelsSharesSpec.post enc Try.prog Try.f5 false true false false W #[v0, v1] (.bool true) W' := fun W' hg => post_law Close.laidOut (by kernel_rfl) rfl hW' rfl rfl rfl (by kernel_rfl) Try.underlying4 hg
  clear hW'
  obtain ⟨xs0, hl0, rfl, _⟩ := open_arr (k := .i64) Try.underlying38 Try.underlying3 (by kernel_rfl) (by kernel_rfl) (hval 0 38 v0 rfl rfl) h0
  obtain ⟨a0_0, a0_1, a0_2, a0_3, a0_4, a0_5, a0_6, a0_7, rfl⟩ : ∃ a0_0 a0_1 a0_2 a0_3 a0_4 a0_5 a0_6 a0_7, xs0 = [a0_0, a0_1, a0_2, a0_3, a0_4, a0_5, a0_6, a0_7] := by
    match xs0, hl0 with
    | [a, b, c, d, e, f, g, h], _ => exact ⟨a, b, c, d, e, f, g, h, rfl⟩
  obtain ⟨x1, rfl, rfl, rfl, w1⟩ := open_int Try.underlying3 (hval 1 3 v1 rfl rfl) h1
  have b1 := Close.bounds _ w1
  simp only [IntKind.min, IntKind.max, IntKind.signed, IntKind.bits] at b1
  clear hsz
  have walk : Calls Try.prog 5 #[.agg ⟨[a0_0, a0_1, a0_2, a0_3, a0_4, a0_5, a0_6, a0_7].map (Value.int .i64)⟩, .int .i64 x1] W fun e W' => e = .returned (.bool true) ∧ Below W.heap.size W W' :=
    Cha.shares_walk (fun k => [a0_0, a0_1, a0_2, a0_3, a0_4, a0_5, a0_6, a0_7].getD k 0) x1 W
  exact walk.mono fun e W' ⟨he, hg⟩ => by
    subst he
    exact ⟨_, rfl, fin W' hg⟩

theorem laid_met (os : Os) : laidMet Try.prog Rows.channelsSharesRow.laid ((Close.laidWorld os).forCall (fun _ _ => 0) ⟨#[], #[.agg #[.int .i64 0, .int .i64 0, .int .i64 0, .int .i64 0, .int .i64 0, .int .i64 0, .int .i64 0, .int .i64 0], .int .i64 0], []⟩).memory :=
  ⟨[], rfl, List.nodup_nil, fun _ _ h => by cases h⟩
theorem reads (os : Os) {H : Type} (enc : TypeId × Value → H) : ∃ places, DataW.whole enc Try.prog ((Close.laidWorld os).forCall (fun _ _ => 0) ⟨#[], #[.agg #[.int .i64 0, .int .i64 0, .int .i64 0, .int .i64 0, .int .i64 0, .int .i64 0, .int .i64 0, .int .i64 0], .int .i64 0], []⟩).memory Try.f5.params.toList Rows.channelsSharesSpec.vars false (#[.agg #[.int .i64 0, .int .i64 0, .int .i64 0, .int .i64 0, .int .i64 0, .int .i64 0, .int .i64 0, .int .i64 0], .int .i64 0] : Array Value).toList 8 = some ([.agg [.lit (.int .i64 0), .lit (.int .i64 0), .lit (.int .i64 0), .lit (.int .i64 0), .lit (.int .i64 0), .lit (.int .i64 0), .lit (.int .i64 0), .lit (.int .i64 0)], .lit (.int .i64 0)], [], places) :=
  ⟨[], by kernel_rfl⟩

theorem light : Close.light Try.prog Try.f5 Rows.channelsSharesSpec Rows.channelsSharesRow = true := by kernel_rfl
theorem place : (Rows.channelsSharesRow.inPlace == Try.prog.inPlace 5) = true := by kernel_rfl
theorem follow : (Rows.channelsSharesRow.unfollowed == Try.prog.unfollowed 5) = true := by kernel_rfl
theorem recur : (Rows.channelsSharesRow.recurses == Try.prog.recurses 5) = true := by kernel_rfl
theorem names : (Rows.channelsSharesRow.named == Try.prog.varsNamed 5) = true := by kernel_rfl
theorem lifted (os : Os) (started : os.Started) (H : Type) (enc : TypeId × Value → H) (F : Stop.Interp) :
    ReturnsInHanded {} Try.checked os 5 .any ((OpenSpec.ofChange Rows.channelsSharesSpec).preRow enc Try.prog Try.f5 Rows.channelsSharesRow.domain false Rows.channelsSharesRow.laid) (((OpenSpec.ofChange Rows.channelsSharesSpec).at F).post enc Try.prog Try.f5 false true false false) := by
  obtain ⟨places, hx⟩ := reads os enc
  refine returnsInHanded_of_row (C := Try.checked) (s := OpenSpec.ofChange Rows.channelsSharesSpec) Close.own started (by kernel_rfl) Try.func5
    (witness_row_at (enc := enc) (C := Try.checked) false (Close.laidWorld os) #[.agg #[.int .i64 0, .int .i64 0, .int .i64 0, .int .i64 0, .int .i64 0, .int .i64 0, .int .i64 0, .int .i64 0], .int .i64 0] rfl (by kernel_rfl) (by kernel_rfl) (by kernel_rfl)
      (OpenSpec.preRow_of_cond 8 hx (by kernel_rfl) (fun k hk => by cases hk) (by kernel_rfl) (laid_met os))) ?_
  intro W base args ds gs before hval hW _ _ hsz hL _ _
  exact contract H enc W base args ds gs before hval hW hsz hL

theorem facts : joinedFacts Try.prog 5 Try.f5 Rows.channelsSharesSpec Rows.channelsSharesRow = true :=
  Close.joined_of light Close.laidOut Close.mapsRow place follow recur names
    (Eq.trans (congrArg (· == Try.prog.plainKeys) (rfl : Rows.channelsSharesRow.plainKeys = Rows.channelsDemuxRow.plainKeys)) Close.keys) Close.heard Close.enter
    (Eq.trans (congrArg (· == Try.prog.liftsFinal) (rfl : Rows.channelsSharesRow.lifted = Rows.channelsDemuxRow.lifted)) Close.lifts)
    (Eq.trans (congrArg (fun x => Try.prog.make == some x) (rfl : Rows.channelsSharesRow.make = Rows.channelsDemuxRow.make)) Close.makes)
theorem said : Rows.ChannelsSharesSaid :=
  OpenClaim.holds_of_cond 5 Try.f5 rfl rfl rfl rfl rfl rfl rfl ⟨rfl, rfl, rfl, rfl, rfl⟩ rfl rfl rfl rfl rfl (by kernel_rfl) Try.func5 facts
    (of_decide_eq_true (by kernel_rfl)) (by unfold Func.isWrapper; first | (rw [if_pos (by decide +kernel)]; kernel_rfl) | (rw [if_neg (by decide +kernel)]; exact ⟨rfl, rfl⟩))
    (fun os started H enc _ F => by rw [OpenClaim.pre_eq_preRow]; exact lifted os started H enc F)

end Go.Proofs.Ytlgpalokjckdcaa.channelsShares
namespace Go.Proofs.Ytlgpalokjckdcaa
open Go
/-- The row. -/
theorem channelsShares_said : Rows.ChannelsSharesSaid := channelsShares.said
end Go.Proofs.Ytlgpalokjckdcaa
