/-
  PROVED: Try's 'tmframeFlips': without the reference: up to 16 neighbouring bits inverted are found: its row. CONDITIONS: those of the row and no other. Own work; the closing after the guide's toys.
-/
import Derived.Test.YtkhlicfnfiopnaaTmfAE
import Derived.Test.YtkhlicfnfiopnaaAmY
import Derived.Test.YtkhlicfnfiopnaaPClose
namespace Go.Proofs.Ytkhlicfnfiopnaa.tmframeFlips
open Go Go.Am Go.ChangeShapes Go.WideShapes Go.ChangeAt Go.RowKit
set_option maxRecDepth 100000


theorem contract (H : Type) (enc : TypeId × Value → H) (W : World) (base : Nat) (args : Array Value) (ds gs : List (DataW H)) (before : List MemPlace)
    (hval : ∀ (j : Nat) t v, Try.f6.params[j]? = some t → args[j]? = some v → Value.okWide Try.prog W .any base t v)
    (hW : DataW.Whole enc Try.prog Try.f6.params.toList Rows.tmframeFlipsSpec.vars false W args.toList ds gs before) (hsz : (DataW.weightsEach Try.prog (Try.f6.params.toList ++ (OpenSpec.ofChange Rows.tmframeFlipsSpec).bare.plain.varTypes Try.prog) (ds ++ gs)).all (· ≤ reachBytes) = true) (_hL : laidMetH Try.prog Rows.tmframeFlipsRow.laid W) :
    Calls Try.prog 6 args W fun e W' => ∃ v, e = .returned v ∧ Rows.tmframeFlipsSpec.post enc Try.prog Try.f6 false true false false W args v W' := by
  have hW' := hW
  obtain ⟨p, q, hA0, hV, hpq, hfz, hnd⟩ := hW
  have hA : DataW.TrodAll enc Try.prog W 0 (fun _ => true) true Try.f6.params.toList args.toList ds p := hA0
  rw [Try.params6] at hA hval
  obtain ⟨v0, vs0, d0, ds0, p0, q0, hargs0, rfl, rfl, h0, r0⟩ := trodAll_cons hA
  obtain ⟨v1, vs1, d1, ds1, p1, q1, hargs1, rfl, rfl, h1, r1⟩ := trodAll_cons r0
  obtain ⟨v2, vs2, d2, ds2, p2, q2, hargs2, rfl, rfl, h2, r2⟩ := trodAll_cons r1
  obtain ⟨hlast, rfl, rfl⟩ := trodAll_nil r2
  subst hlast
  subst hargs2
  subst hargs1
  obtain rfl : args = #[v0, v1, v2] := by cases args; simp_all
  obtain ⟨rfl, rfl⟩ := trodVars_none hV
  clear hA0 hpq
  have fin : ∀ W', Below W.heap.size W W' → Rows.tmframeFlipsSpec.post enc Try.prog Try.f6 false true false false W #[v0, v1, v2] (.bool true) W' := fun W' hg => post_law Close.laidOut (by kernel_rfl) rfl hW' rfl rfl rfl (by kernel_rfl) Try.underlying4 hg
  clear hW'
  obtain ⟨cs0, rfl, hl0, hf0⟩ := open_one Try.underlying24 (by kernel_rfl) (by kernel_rfl) (hval 0 24 v0 rfl rfl) h0
  obtain ⟨c0_0, c0_1, c0_2, c0_3, c0_4, c0_5, c0_6, rfl⟩ : ∃ c0_0 c0_1 c0_2 c0_3 c0_4 c0_5 c0_6, cs0 = [c0_0, c0_1, c0_2, c0_3, c0_4, c0_5, c0_6] := by
    match cs0, hl0 with
    | [a, b, c, d, e, f, g], _ => exact ⟨a, b, c, d, e, f, g, rfl⟩
  obtain ⟨_, _, e0_0⟩ := hf0 0 _ c0_0 rfl rfl
  obtain ⟨z0_0, q0_0, w0_0, u0_0⟩ := DataW.trod_int Try.underlying3 e0_0
  injection q0_0 with q0_0 _
  subst q0_0
  obtain ⟨_, _, e0_1⟩ := hf0 1 _ c0_1 rfl rfl
  obtain ⟨z0_1, q0_1, w0_1, u0_1⟩ := DataW.trod_int Try.underlying3 e0_1
  injection q0_1 with q0_1 _
  subst q0_1
  obtain ⟨_, _, e0_2⟩ := hf0 2 _ c0_2 rfl rfl
  obtain ⟨z0_2, q0_2, w0_2, u0_2⟩ := DataW.trod_int Try.underlying3 e0_2
  injection q0_2 with q0_2 _
  subst q0_2
  obtain ⟨_, _, e0_3⟩ := hf0 3 _ c0_3 rfl rfl
  obtain ⟨z0_3, q0_3, w0_3, u0_3⟩ := DataW.trod_int Try.underlying3 e0_3
  injection q0_3 with q0_3 _
  subst q0_3
  obtain ⟨_, _, e0_4⟩ := hf0 4 _ c0_4 rfl rfl
  obtain ⟨z0_4, q0_4, w0_4, u0_4⟩ := DataW.trod_int Try.underlying3 e0_4
  injection q0_4 with q0_4 _
  subst q0_4
  obtain ⟨_, _, e0_5⟩ := hf0 5 _ c0_5 rfl rfl
  obtain ⟨z0_5, q0_5, w0_5, u0_5⟩ := DataW.trod_string Try.underlying9 e0_5
  injection q0_5 with q0_5 _
  subst q0_5
  obtain ⟨_, _, e0_6⟩ := hf0 6 _ c0_6 rfl rfl
  obtain ⟨z0_6, q0_6, w0_6, u0_6⟩ := DataW.trod_int Try.underlying22 e0_6
  injection q0_6 with q0_6 _
  subst q0_6
  obtain ⟨x1, rfl, rfl, rfl, w1⟩ := open_int Try.underlying3 (hval 1 3 v1 rfl rfl) h1
  have b1 := Close.bounds _ w1
  simp only [IntKind.min, IntKind.max, IntKind.signed, IntKind.bits] at b1
  obtain ⟨x2, rfl, rfl, rfl, w2⟩ := open_int Try.underlying34 (hval 2 34 v2 rfl rfl) h2
  have b2 := Close.bounds _ w2
  simp only [IntKind.min, IntKind.max, IntKind.signed, IntKind.bits] at b2
  have sf := Close.sized_field (i := 5) Try.underlying24 h0 (Close.sized_at hsz (j := 0) (by kernel_rfl) rfl) rfl Try.underlying9 rfl
  clear hsz
  have walk : Calls Try.prog 6 #[.agg ⟨[.int .i64 z0_0, .int .i64 z0_1, .int .i64 z0_2, .int .i64 z0_3, .int .i64 z0_4, .string z0_5, .int .u32 z0_6]⟩, .int .i64 x1, .int .u16 x2] W fun e W' => e = .returned (.bool true) ∧ Below W.heap.size W W' :=
    law_of_spec Tmf.okFlips Close.gok rfl ⟨Nat.lt_of_le_of_lt sf (by decide), (Close.bounds _ u0_6).1, Int.lt_of_le_of_lt (Close.bounds _ u0_6).2 (by decide), (Close.bounds _ w2).1, Int.lt_of_le_of_lt (Close.bounds _ w2).2 (by decide), rfl⟩
  exact walk.mono fun e W' ⟨he, hg⟩ => by
    subst he
    exact ⟨_, rfl, fin W' hg⟩

theorem laid_met (os : Os) : laidMet Try.prog Rows.tmframeFlipsRow.laid ((Close.laidWorld os).forCall (fun _ _ => 0) ⟨#[], #[.agg #[.int .i64 0, .int .i64 0, .int .i64 0, .int .i64 0, .int .i64 0, .string .empty, .int .u32 0], .int .i64 0, .int .u16 0], []⟩).memory :=
  ⟨[], rfl, List.nodup_nil, fun _ _ h => by cases h⟩
theorem reads (os : Os) {H : Type} (enc : TypeId × Value → H) : ∃ places, DataW.whole enc Try.prog ((Close.laidWorld os).forCall (fun _ _ => 0) ⟨#[], #[.agg #[.int .i64 0, .int .i64 0, .int .i64 0, .int .i64 0, .int .i64 0, .string .empty, .int .u32 0], .int .i64 0, .int .u16 0], []⟩).memory Try.f6.params.toList Rows.tmframeFlipsSpec.vars false (#[.agg #[.int .i64 0, .int .i64 0, .int .i64 0, .int .i64 0, .int .i64 0, .string .empty, .int .u32 0], .int .i64 0, .int .u16 0] : Array Value).toList 8 = some ([.agg [.lit (.int .i64 0), .lit (.int .i64 0), .lit (.int .i64 0), .lit (.int .i64 0), .lit (.int .i64 0), .lit (.string []), .lit (.int .u32 0)], .lit (.int .i64 0), .lit (.int .u16 0)], [], places) :=
  ⟨[], by kernel_rfl⟩

theorem light : Close.light Try.prog Try.f6 Rows.tmframeFlipsSpec Rows.tmframeFlipsRow = true := by kernel_rfl
theorem place : (Rows.tmframeFlipsRow.inPlace == Try.prog.inPlace 6) = true := by kernel_rfl
theorem follow : (Rows.tmframeFlipsRow.unfollowed == Try.prog.unfollowed 6) = true := by kernel_rfl
theorem recur : (Rows.tmframeFlipsRow.recurses == Try.prog.recurses 6) = true := by kernel_rfl
theorem names : (Rows.tmframeFlipsRow.named == Try.prog.varsNamed 6) = true := by kernel_rfl
theorem lifted (os : Os) (started : os.Started) (H : Type) (enc : TypeId × Value → H) (F : Stop.Interp) :
    ReturnsInHanded {} Try.checked os 6 .any ((OpenSpec.ofChange Rows.tmframeFlipsSpec).preRow enc Try.prog Try.f6 Rows.tmframeFlipsRow.domain false Rows.tmframeFlipsRow.laid) (((OpenSpec.ofChange Rows.tmframeFlipsSpec).at F).post enc Try.prog Try.f6 false true false false) := by
  obtain ⟨places, hx⟩ := reads os enc
  refine returnsInHanded_of_row (C := Try.checked) (s := OpenSpec.ofChange Rows.tmframeFlipsSpec) Close.own started (by kernel_rfl) Try.func6
    (witness_row_at (enc := enc) (C := Try.checked) false (Close.laidWorld os) #[.agg #[.int .i64 0, .int .i64 0, .int .i64 0, .int .i64 0, .int .i64 0, .string .empty, .int .u32 0], .int .i64 0, .int .u16 0] rfl (by kernel_rfl) (by kernel_rfl) (by kernel_rfl)
      (OpenSpec.preRow_of_cond 8 hx (by kernel_rfl) (fun k hk => by cases hk) (by kernel_rfl) (laid_met os))) ?_
  intro W base args ds gs before hval hW _ _ hsz hL _ _
  exact contract H enc W base args ds gs before hval hW hsz hL

theorem facts : joinedFacts Try.prog 6 Try.f6 Rows.tmframeFlipsSpec Rows.tmframeFlipsRow = true :=
  Close.joined_of light Close.laidOut Close.mapsRow place follow recur names
    (Eq.trans (congrArg (· == Try.prog.plainKeys) (rfl : Rows.tmframeFlipsRow.plainKeys = Rows.tmframePutsRow.plainKeys)) Close.keys) Close.heard Close.enter
    (Eq.trans (congrArg (· == Try.prog.liftsFinal) (rfl : Rows.tmframeFlipsRow.lifted = Rows.tmframePutsRow.lifted)) Close.lifts)
    (Eq.trans (congrArg (fun x => Try.prog.make == some x) (rfl : Rows.tmframeFlipsRow.make = Rows.tmframePutsRow.make)) Close.makes)
theorem said : Rows.TmframeFlipsSaid :=
  OpenClaim.holds_of_cond 6 Try.f6 rfl rfl rfl rfl rfl rfl rfl ⟨rfl, rfl, rfl, rfl, rfl⟩ rfl rfl rfl rfl rfl (by kernel_rfl) Try.func6 facts
    (of_decide_eq_true (by kernel_rfl)) (by unfold Func.isWrapper; first | (rw [if_pos (by decide +kernel)]; kernel_rfl) | (rw [if_neg (by decide +kernel)]; exact ⟨rfl, rfl⟩))
    (fun os started H enc _ F => by rw [OpenClaim.pre_eq_preRow]; exact lifted os started H enc F)

end Go.Proofs.Ytkhlicfnfiopnaa.tmframeFlips
namespace Go.Proofs.Ytkhlicfnfiopnaa
open Go
/-- The row. -/
theorem tmframeFlips_said : Rows.TmframeFlipsSaid := tmframeFlips.said
end Go.Proofs.Ytkhlicfnfiopnaa
