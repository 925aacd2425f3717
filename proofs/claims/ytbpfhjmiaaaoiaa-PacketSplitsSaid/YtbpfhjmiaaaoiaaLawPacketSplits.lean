/-
  PROVED: Try's 'packetSplits': Split returns what the document says, and so does Idle: its row. CONDITIONS: those of the row and no other. Own work; the closing after the guide's toys.
-/
import Derived.Test.YtbpfhjmiaaaoiaaPktK
import Derived.Test.YtbpfhjmiaaaoiaaAmY
import Derived.Test.YtbpfhjmiaaaoiaaPClose
namespace Go.Proofs.Ytbpfhjmiaaaoiaa.packetSplits
open Go Go.Am Go.ChangeShapes Go.WideShapes Go.ChangeAt Go.RowKit
set_option maxRecDepth 100000


theorem contract (H : Type) (enc : TypeId × Value → H) (W : World) (base : Nat) (args : Array Value) (ds gs : List (DataW H)) (before : List MemPlace)
    (hval : ∀ (j : Nat) t v, Try.f7.params[j]? = some t → args[j]? = some v → Value.okWide Try.prog W .any base t v)
    (hW : DataW.Whole enc Try.prog Try.f7.params.toList Rows.packetSplitsSpec.vars false W args.toList ds gs before) (hsz : (DataW.weightsEach Try.prog (Try.f7.params.toList ++ (OpenSpec.ofChange Rows.packetSplitsSpec).bare.plain.varTypes Try.prog) (ds ++ gs)).all (· ≤ reachBytes) = true) (_hL : laidMetH Try.prog Rows.packetSplitsRow.laid W) :
    Calls Try.prog 7 args W fun e W' => ∃ v, e = .returned v ∧ Rows.packetSplitsSpec.post enc Try.prog Try.f7 false true false false W args v W' := by
  have hW' := hW
  obtain ⟨p, q, hA0, hV, hpq, hfz, hnd⟩ := hW
  have hA : DataW.TrodAll enc Try.prog W 0 (fun _ => true) true Try.f7.params.toList args.toList ds p := hA0
  rw [Try.params7] at hA hval
  obtain ⟨v0, vs0, d0, ds0, p0, q0, hargs0, rfl, rfl, h0, r0⟩ := trodAll_cons hA
  obtain ⟨v1, vs1, d1, ds1, p1, q1, hargs1, rfl, rfl, h1, r1⟩ := trodAll_cons r0
  obtain ⟨hlast, rfl, rfl⟩ := trodAll_nil r1
  subst hlast
  subst hargs1
  obtain rfl : args = #[v0, v1] := by cases args; simp_all
  obtain ⟨rfl, rfl⟩ := trodVars_none hV
  clear hA0 hpq
  have fin : ∀ W', Below W.heap.size W W' → Rows.packetSplitsSpec.post enc Try.prog Try.f7 false true false false W #[v0, v1] (.bool true) W' := fun W' hg => post_law Close.laidOut (by kernel_rfl) rfl hW' rfl rfl rfl (by kernel_rfl) Try.underlying4 hg
  clear hW'
  obtain ⟨cs0, rfl, hl0, hf0⟩ := open_one Try.underlying46 (by kernel_rfl) (by kernel_rfl) (hval 0 46 v0 rfl rfl) h0
  obtain ⟨c0_0, c0_1, c0_2, c0_3, c0_4, rfl⟩ : ∃ c0_0 c0_1 c0_2 c0_3 c0_4, cs0 = [c0_0, c0_1, c0_2, c0_3, c0_4] := by
    match cs0, hl0 with
    | [a, b, c, d, e], _ => exact ⟨a, b, c, d, e, rfl⟩
  obtain ⟨_, _, e0_0⟩ := hf0 0 _ c0_0 rfl rfl
  obtain ⟨z0_0, q0_0, _⟩ := DataW.trod_bool Try.underlying4 e0_0
  injection q0_0 with q0_0 _
  subst q0_0
  obtain ⟨_, _, e0_1⟩ := hf0 1 _ c0_1 rfl rfl
  obtain ⟨z0_1, q0_1, w0_1, _⟩ := DataW.trod_int Try.underlying3 e0_1
  injection q0_1 with q0_1 _
  subst q0_1
  obtain ⟨_, _, e0_2⟩ := hf0 2 _ c0_2 rfl rfl
  obtain ⟨z0_2, q0_2, w0_2, _⟩ := DataW.trod_int Try.underlying3 e0_2
  injection q0_2 with q0_2 _
  subst q0_2
  obtain ⟨_, _, e0_3⟩ := hf0 3 _ c0_3 rfl rfl
  obtain ⟨z0_3, q0_3, w0_3, _⟩ := DataW.trod_int Try.underlying3 e0_3
  injection q0_3 with q0_3 _
  subst q0_3
  obtain ⟨_, _, e0_4⟩ := hf0 4 _ c0_4 rfl rfl
  obtain ⟨z0_4, q0_4, w0_4, _⟩ := DataW.trod_string Try.underlying9 e0_4
  injection q0_4 with q0_4 _
  subst q0_4
  obtain ⟨x1, rfl, rfl, rfl, w1⟩ := open_int Try.underlying3 (hval 1 3 v1 rfl rfl) h1
  have b1 := Close.bounds _ w1
  simp only [IntKind.min, IntKind.max, IntKind.signed, IntKind.bits] at b1
  clear hsz
  have walk : Calls Try.prog 7 #[.agg ⟨[.bool z0_0, .int .i64 z0_1, .int .i64 z0_2, .int .i64 z0_3, .string z0_4]⟩, .int .i64 x1] W fun e W' => e = .returned (.bool true) ∧ Below W.heap.size W W' :=
    law_of_spec Pkt.okSpls Close.gok rfl rfl
  exact walk.mono fun e W' ⟨he, hg⟩ => by
    subst he
    exact ⟨_, rfl, fin W' hg⟩

theorem laid_met (os : Os) : laidMet Try.prog Rows.packetSplitsRow.laid ((Close.laidWorld os).forCall (fun _ _ => 0) ⟨#[], #[.agg #[.bool false, .int .i64 0, .int .i64 0, .int .i64 0, .string .empty], .int .i64 0], []⟩).memory :=
  ⟨[], rfl, List.nodup_nil, fun _ _ h => by cases h⟩
theorem reads (os : Os) {H : Type} (enc : TypeId × Value → H) : ∃ places, DataW.whole enc Try.prog ((Close.laidWorld os).forCall (fun _ _ => 0) ⟨#[], #[.agg #[.bool false, .int .i64 0, .int .i64 0, .int .i64 0, .string .empty], .int .i64 0], []⟩).memory Try.f7.params.toList Rows.packetSplitsSpec.vars false (#[.agg #[.bool false, .int .i64 0, .int .i64 0, .int .i64 0, .string .empty], .int .i64 0] : Array Value).toList 8 = some ([.agg [.lit (.bool false), .lit (.int .i64 0), .lit (.int .i64 0), .lit (.int .i64 0), .lit (.string [])], .lit (.int .i64 0)], [], places) :=
  ⟨[], by kernel_rfl⟩

theorem light : Close.light Try.prog Try.f7 Rows.packetSplitsSpec Rows.packetSplitsRow = true := by kernel_rfl
theorem place : (Rows.packetSplitsRow.inPlace == Try.prog.inPlace 7) = true := by kernel_rfl
theorem follow : (Rows.packetSplitsRow.unfollowed == Try.prog.unfollowed 7) = true := by kernel_rfl
theorem recur : (Rows.packetSplitsRow.recurses == Try.prog.recurses 7) = true := by kernel_rfl
theorem names : (Rows.packetSplitsRow.named == Try.prog.varsNamed 7) = true := by kernel_rfl
theorem lifted (os : Os) (started : os.Started) (H : Type) (enc : TypeId × Value → H) (F : Stop.Interp) :
    ReturnsInHanded {} Try.checked os 7 .any ((OpenSpec.ofChange Rows.packetSplitsSpec).preRow enc Try.prog Try.f7 Rows.packetSplitsRow.domain false Rows.packetSplitsRow.laid) (((OpenSpec.ofChange Rows.packetSplitsSpec).at F).post enc Try.prog Try.f7 false true false false) := by
  obtain ⟨places, hx⟩ := reads os enc
  refine returnsInHanded_of_row (C := Try.checked) (s := OpenSpec.ofChange Rows.packetSplitsSpec) Close.own started (by kernel_rfl) Try.func7
    (witness_row_at (enc := enc) (C := Try.checked) false (Close.laidWorld os) #[.agg #[.bool false, .int .i64 0, .int .i64 0, .int .i64 0, .string .empty], .int .i64 0] rfl (by kernel_rfl) (by kernel_rfl) (by kernel_rfl)
      (OpenSpec.preRow_of_cond 8 hx (by kernel_rfl) (fun k hk => by cases hk) (by kernel_rfl) (laid_met os))) ?_
  intro W base args ds gs before hval hW _ _ hsz hL _ _
  exact contract H enc W base args ds gs before hval hW hsz hL

theorem facts : joinedFacts Try.prog 7 Try.f7 Rows.packetSplitsSpec Rows.packetSplitsRow = true :=
  Close.joined_of light Close.laidOut Close.mapsRow place follow recur names
    (Eq.trans (congrArg (· == Try.prog.plainKeys) (rfl : Rows.packetSplitsRow.plainKeys = Rows.packetPutsRow.plainKeys)) Close.keys) Close.heard Close.enter
    (Eq.trans (congrArg (· == Try.prog.liftsFinal) (rfl : Rows.packetSplitsRow.lifted = Rows.packetPutsRow.lifted)) Close.lifts)
    (Eq.trans (congrArg (fun x => Try.prog.make == some x) (rfl : Rows.packetSplitsRow.make = Rows.packetPutsRow.make)) Close.makes)
theorem said : Rows.PacketSplitsSaid :=
  OpenClaim.holds_of_cond 7 Try.f7 rfl rfl rfl rfl rfl rfl rfl ⟨rfl, rfl, rfl, rfl, rfl⟩ rfl rfl rfl rfl rfl (by kernel_rfl) Try.func7 facts
    (of_decide_eq_true (by kernel_rfl)) (by unfold Func.isWrapper; first | (rw [if_pos (by decide +kernel)]; kernel_rfl) | (rw [if_neg (by decide +kernel)]; exact ⟨rfl, rfl⟩))
    (fun os started H enc _ F => by rw [OpenClaim.pre_eq_preRow]; exact lifted os started H enc F)

end Go.Proofs.Ytbpfhjmiaaaoiaa.packetSplits
namespace Go.Proofs.Ytbpfhjmiaaaoiaa
open Go
/-- The row. -/
theorem packetSplits_said : Rows.PacketSplitsSaid := packetSplits.said
end Go.Proofs.Ytbpfhjmiaaaoiaa
