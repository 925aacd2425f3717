/-
  PROVED: Try's 'tmframeFills': for every sequence of calls of a filler, each returns what the document says, and so does Waiting; a filler that New did not return does nothing: its row. CONDITIONS: those of the row and no other. Own work; the closing after the guide's toys.
-/
import Derived.Test.YtkhlicfnfiopnaaTmfW
import Derived.Test.YtkhlicfnfiopnaaAmY
import Derived.Test.YtkhlicfnfiopnaaPClose
namespace Go.Proofs.Ytkhlicfnfiopnaa.tmframeFills
open Go Go.Am Go.ChangeShapes Go.WideShapes Go.ChangeAt Go.RowKit
set_option maxRecDepth 100000


theorem contract (H : Type) (enc : TypeId × Value → H) (W : World) (base : Nat) (args : Array Value) (ds gs : List (DataW H)) (before : List MemPlace)
    (hval : ∀ (j : Nat) t v, Try.f8.params[j]? = some t → args[j]? = some v → Value.okWide Try.prog W .any base t v)
    (hW : DataW.Whole enc Try.prog Try.f8.params.toList Rows.tmframeFillsSpec.vars false W args.toList ds gs before) (hsz : (DataW.weightsEach Try.prog (Try.f8.params.toList ++ (OpenSpec.ofChange Rows.tmframeFillsSpec).bare.plain.varTypes Try.prog) (ds ++ gs)).all (· ≤ reachBytes) = true) (_hL : laidMetH Try.prog Rows.tmframeFillsRow.laid W) :
    Calls Try.prog 8 args W fun e W' => ∃ v, e = .returned v ∧ Rows.tmframeFillsSpec.post enc Try.prog Try.f8 false true false false W args v W' := by
  have hW' := hW
  obtain ⟨p, q, hA0, hV, hpq, hfz, hnd⟩ := hW
  have hA : DataW.TrodAll enc Try.prog W 0 (fun _ => true) true Try.f8.params.toList args.toList ds p := hA0
  rw [Try.params8] at hA hval
  obtain ⟨v0, vs0, d0, ds0, p0, q0, hargs0, rfl, rfl, h0, r0⟩ := trodAll_cons hA
  obtain ⟨v1, vs1, d1, ds1, p1, q1, hargs1, rfl, rfl, h1, r1⟩ := trodAll_cons r0
  obtain ⟨hlast, rfl, rfl⟩ := trodAll_nil r1
  subst hlast
  subst hargs1
  obtain rfl : args = #[v0, v1] := by cases args; simp_all
  obtain ⟨rfl, rfl⟩ := trodVars_none hV
  clear hA0 hpq
  have fin : ∀ W', Below W.heap.size W W' → Rows.tmframeFillsSpec.post enc Try.prog Try.f8 false true false false W #[v0, v1] (.bool true) W' := fun W' hg => post_law Close.laidOut (by kernel_rfl) rfl hW' rfl rfl rfl (by kernel_rfl) Try.underlying4 hg
  clear hW'
  obtain ⟨x0, rfl, rfl, rfl, w0⟩ := open_int Try.underlying3 (hval 0 3 v0 rfl rfl) h0
  have b0 := Close.bounds _ w0
  simp only [IntKind.min, IntKind.max, IntKind.signed, IntKind.bits] at b0
  clear hsz
  have walk : Calls Try.prog 8 #[.int .i64 x0, v1] W fun e W' => e = .returned (.bool true) ∧ Below W.heap.size W W' := by
    rcases structs_arg Try.underlying56 Try.underlying66 (by kernel_rfl) (by kernel_rfl) (hval 1 56 v1 rfl rfl) h1 with rfl | ⟨a, len, cap, row, sz, n, V, rfl, hle, hmax, hsp, hsh, hcell, hf⟩
    · exact Tmf.fills_walk x0 none 0 0 fun i hi => absurd hi (Nat.not_lt_zero i)
    · refine Tmf.fills_walk x0 (some a) len cap fun i hi => ?_
      have hi' : i < cap := Nat.lt_of_lt_of_le hi hle
      have hle2 : i * 2 + 1 < cap * 2 := by omega
      have g0 := hcell (i * 2) (by show i * 2 < cap * 2; omega)
      have g1 := hcell (i * 2 + 1) (by show i * 2 + 1 < cap * 2; omega)
      obtain ⟨_, e0⟩ := hf i hi' 0 _ rfl
      obtain ⟨z0, q0, _, _⟩ := DataW.trod_int Try.underlying3 e0
      injection q0 with q0 _
      obtain ⟨_, e1⟩ := hf i hi' 1 _ rfl
      obtain ⟨z1, q1, _, u1⟩ := DataW.trod_string Try.underlying9 e1
      injection q1 with q1 _
      have q0' : V (i * 2) = .int .i64 z0 := q0
      have q1' : V (i * 2 + 1) = .string z1 := q1
      rw [q0'] at g0
      rw [q1'] at g1
      refine ⟨a, z0, z1, rfl, g0, ?_, World.block_lt_of_cell? W _ g0, u1⟩
      have : (⟨(a.add (i * 2)).block, (a.add (i * 2)).off + 1, none⟩ : Addr) = a.add (i * 2 + 1) := by
        unfold Addr.add
        rw [if_neg (Nat.succ_ne_zero (i * 2))]
        split
        · rename_i h0; rw [h0]
        · rfl
      rw [this]; exact g1
  exact walk.mono fun e W' ⟨he, hg⟩ => by
    subst he
    exact ⟨_, rfl, fin W' hg⟩

theorem laid_met (os : Os) : laidMet Try.prog Rows.tmframeFillsRow.laid ((Close.laidWorld os).forCall (fun _ _ => 0) ⟨#[], #[.int .i64 0, .slice none 0 0], []⟩).memory :=
  ⟨[], rfl, List.nodup_nil, fun _ _ h => by cases h⟩
theorem reads (os : Os) {H : Type} (enc : TypeId × Value → H) : ∃ places, DataW.whole enc Try.prog ((Close.laidWorld os).forCall (fun _ _ => 0) ⟨#[], #[.int .i64 0, .slice none 0 0], []⟩).memory Try.f8.params.toList Rows.tmframeFillsSpec.vars false (#[.int .i64 0, .slice none 0 0] : Array Value).toList 8 = some ([.lit (.int .i64 0), .nil], [], places) :=
  ⟨[], by kernel_rfl⟩

theorem light : Close.light Try.prog Try.f8 Rows.tmframeFillsSpec Rows.tmframeFillsRow = true := by kernel_rfl
theorem place : (Rows.tmframeFillsRow.inPlace == Try.prog.inPlace 8) = true := by kernel_rfl
theorem follow : (Rows.tmframeFillsRow.unfollowed == Try.prog.unfollowed 8) = true := by kernel_rfl
theorem recur : (Rows.tmframeFillsRow.recurses == Try.prog.recurses 8) = true := by kernel_rfl
theorem names : (Rows.tmframeFillsRow.named == Try.prog.varsNamed 8) = true := by kernel_rfl
theorem lifted (os : Os) (started : os.Started) (H : Type) (enc : TypeId × Value → H) (F : Stop.Interp) :
    ReturnsInHanded {} Try.checked os 8 .any ((OpenSpec.ofChange Rows.tmframeFillsSpec).preRow enc Try.prog Try.f8 Rows.tmframeFillsRow.domain false Rows.tmframeFillsRow.laid) (((OpenSpec.ofChange Rows.tmframeFillsSpec).at F).post enc Try.prog Try.f8 false true false false) := by
  obtain ⟨places, hx⟩ := reads os enc
  refine returnsInHanded_of_row (C := Try.checked) (s := OpenSpec.ofChange Rows.tmframeFillsSpec) Close.own started (by kernel_rfl) Try.func8
    (witness_row_at (enc := enc) (C := Try.checked) false (Close.laidWorld os) #[.int .i64 0, .slice none 0 0] rfl (by kernel_rfl) (by kernel_rfl) (by kernel_rfl)
      (OpenSpec.preRow_of_cond 8 hx (by kernel_rfl) (fun k hk => by cases hk) (by kernel_rfl) (laid_met os))) ?_
  intro W base args ds gs before hval hW _ _ hsz hL _ _
  exact contract H enc W base args ds gs before hval hW hsz hL

theorem facts : joinedFacts Try.prog 8 Try.f8 Rows.tmframeFillsSpec Rows.tmframeFillsRow = true :=
  Close.joined_of light Close.laidOut Close.mapsRow place follow recur names
    (Eq.trans (congrArg (· == Try.prog.plainKeys) (rfl : Rows.tmframeFillsRow.plainKeys = Rows.tmframePutsRow.plainKeys)) Close.keys) Close.heard Close.enter
    (Eq.trans (congrArg (· == Try.prog.liftsFinal) (rfl : Rows.tmframeFillsRow.lifted = Rows.tmframePutsRow.lifted)) Close.lifts)
    (Eq.trans (congrArg (fun x => Try.prog.make == some x) (rfl : Rows.tmframeFillsRow.make = Rows.tmframePutsRow.make)) Close.makes)
theorem said : Rows.TmframeFillsSaid :=
  OpenClaim.holds_of_cond 8 Try.f8 rfl rfl rfl rfl rfl rfl rfl ⟨rfl, rfl, rfl, rfl, rfl⟩ rfl rfl rfl rfl rfl (by kernel_rfl) Try.func8 facts
    (of_decide_eq_true (by kernel_rfl)) (by unfold Func.isWrapper; first | (rw [if_pos (by decide +kernel)]; kernel_rfl) | (rw [if_neg (by decide +kernel)]; exact ⟨rfl, rfl⟩))
    (fun os started H enc _ F => by rw [OpenClaim.pre_eq_preRow]; exact lifted os started H enc F)

end Go.Proofs.Ytkhlicfnfiopnaa.tmframeFills
namespace Go.Proofs.Ytkhlicfnfiopnaa
open Go
/-- The row. -/
theorem tmframeFills_said : Rows.TmframeFillsSaid := tmframeFills.said
end Go.Proofs.Ytkhlicfnfiopnaa
