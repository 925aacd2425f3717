/-
 PROVED: Try's 'channelsMux': for every sequence of calls of a mux, each returns what the document says, and so does Waiting: its row. CONDITIONS: those of the row and no other. Own work; the closing after the guide's toys.
-/
import Derived.Test.YtlgpalokjckdcaaChaMo
import Derived.Test.YtlgpalokjckdcaaAmY
import Derived.Test.YtlgpalokjckdcaaPClose
namespace Go.Proofs.Ytlgpalokjckdcaa.channelsMux
open Go Go.Am Go.ChangeShapes Go.WideShapes Go.ChangeAt Go.RowKit
set_option maxRecDepth 100000


theorem contract (H : Type) (enc : TypeId × Value → H) (W : World) (base : Nat) (args : Array Value) (ds gs : List (DataW H)) (before : List MemPlace)
 (hval : ∀ (j : Nat) t v, Try.f6.params[j]? = some t → args[j]? = some v → Value.okWide Try.prog W .any base t v)
 (hW : DataW.Whole enc Try.prog Try.f6.params.toList Rows.channelsMuxSpec.vars false W args.toList ds gs before) (hsz : (DataW.weightsEach Try.prog (Try.f6.params.toList ++ (OpenSpec.ofChange Rows.channelsMuxSpec).bare.plain.varTypes Try.prog) (ds ++ gs)).all (· ≤ reachBytes) = true) (_hL : laidMetH Try.prog Rows.channelsMuxRow.laid W) :
 Calls Try.prog 6 args W fun e W' => ∃ v, e = .returned v ∧ Rows.channelsMuxSpec.post enc Try.prog Try.f6 false true false false W args v W' := by
 have hW' := hW
 obtain ⟨p, q, hA0, hV, hpq, hfz, hnd⟩ := hW
 have hA : DataW.TrodAll enc Try.prog W 0 (fun _ => true) true Try.f6.params.toList args.toList ds p := hA0
 rw [Try.params6] at hA hval
 obtain ⟨v0, vs0, d0, ds0, p0, q0, hargs0, rfl, rfl, h0, r0⟩ := trodAll_cons hA
 obtain ⟨v1, vs1, d1, ds1, p1, q1, hargs1, rfl, rfl, h1, r1⟩ := trodAll_cons r0
 obtain ⟨hlast, rfl, rfl⟩ := trodAll_nil r1
 subst hlast
 subst hargs1
 obtain rfl : args = #[v0, v1] := by cases args; simp_all
 obtain ⟨rfl, rfl⟩ := trodVars_none hV
 clear hA0 hpq
 have fin : ∀ W', Below W.heap.size W W' → Rows.channelsMuxSpec.post enc Try.prog Try.f6 false true false false W #[v0, v1] (.bool true) W' := fun W' hg => post_law Close.laidOut (by kernel_rfl) rfl hW' rfl rfl rfl (by kernel_rfl) Try.underlying4 hg
 clear hW'
 obtain ⟨c0, z0, P0, Q0, rfl⟩ := Cha.setting_in (hval 0 40 v0 rfl rfl) h0
 clear hsz
 have walk : Calls Try.prog 6 #[.agg (Cha.setC c0 z0 P0 Q0), v1] W fun e W' => e = .returned (.bool true) ∧ Below W.heap.size W W' := by
  rcases structs_arg Try.underlying60 Try.underlying65 (by kernel_rfl) (by kernel_rfl) (hval 1 60 v1 rfl rfl) h1 with rfl | ⟨a, len, cap, row, sz, n, V, rfl, hle, hmax, hsp, hsh, hcell, hf⟩
  · exact Cha.mux_walk c0 z0 P0 Q0 none 0 0 fun i hi => absurd hi (Nat.not_lt_zero i)
  · refine Cha.mux_walk c0 z0 P0 Q0 (some a) len cap fun i hi => ?_
    have hi' : i < cap := Nat.lt_of_lt_of_le hi hle
    have g0 := hcell (i * 4) (by show i * 4 < cap * 4; omega)
    have g1 := hcell (i * 4 + 1) (by show i * 4 + 1 < cap * 4; omega)
    have g2 := hcell (i * 4 + 2) (by show i * 4 + 2 < cap * 4; omega)
    have g3 := hcell (i * 4 + 3) (by show i * 4 + 3 < cap * 4; omega)
    obtain ⟨_, e0⟩ := hf i hi' 0 _ rfl
    obtain ⟨y0, q0, _, _⟩ := DataW.trod_int Try.underlying3 e0
    injection q0 with q0 _
    obtain ⟨_, e1⟩ := hf i hi' 1 _ rfl
    obtain ⟨y1, q1, _, _⟩ := DataW.trod_int Try.underlying3 e1
    injection q1 with q1 _
    obtain ⟨_, e2⟩ := hf i hi' 2 _ rfl
    obtain ⟨y2, q2, _, u2⟩ := DataW.trod_string Try.underlying9 e2
    injection q2 with q2 _
    obtain ⟨_, e3⟩ := hf i hi' 3 _ rfl
    obtain ⟨y3, q3, _, u3⟩ := DataW.trod_int Try.underlying31 e3
    injection q3 with q3 _
    have b3 := Close.bounds _ u3
    simp only [IntKind.min, IntKind.max, IntKind.signed, IntKind.bits] at b3
    obtain ⟨w3, rfl⟩ : ∃ k : Nat, y3 = (k : Int) := ⟨y3.toNat, by have := b3.1; simp at this; omega⟩
    have q0' : V (i * 4) = .int .i64 y0 := q0
    have q1' : V (i * 4 + 1) = .int .i64 y1 := q1
    have q2' : V (i * 4 + 2) = .string y2 := q2
    have q3' : V (i * 4 + 3) = .int .u32 ((w3 : Nat) : Int) := q3
    rw [q0'] at g0
    rw [q1'] at g1
    rw [q2'] at g2
    rw [q3'] at g3
    have hadd : ∀ j, (⟨(a.add (i * 4)).block, (a.add (i * 4)).off + (j + 1), none⟩ : Addr) = a.add (i * 4 + (j + 1)) := by
     intro j
     unfold Addr.add
     rw [if_neg (show ¬ i * 4 + (j + 1) = 0 by omega)]
     split
     · rename_i h0; rw [h0, Nat.zero_add]
     · simp only [Nat.add_assoc]
    refine ⟨a, y0, y1, y2, w3, rfl, g0, ?_, ?_, ?_, World.block_lt_of_cell? W _ g0, u2, ?_⟩
    · rw [hadd 0]; exact g1
    · rw [hadd 1]; exact g2
    · rw [hadd 2]; exact g3
    · have := b3.2; simp at this; omega
 exact walk.mono fun e W' ⟨he, hg⟩ => by
  subst he
  exact ⟨_, rfl, fin W' hg⟩

theorem laid_met (os : Os) : laidMet Try.prog Rows.channelsMuxRow.laid ((Close.laidWorld os).forCall (fun _ _ => 0) ⟨#[], #[.agg #[.int .i64 0, .int .i64 0, .int .i64 0, .int .i64 0, .int .i64 0, .int .i64 0, .int .i64 0, .int .i64 0, .int .i64 0, .int .i64 0, .int .i64 0, .int .i64 0, .int .i64 0, .int .i64 0, .int .i64 0, .int .i64 0, .int .i64 0, .int .i64 0], .slice none 0 0], []⟩).memory :=
 ⟨[], rfl, List.nodup_nil, fun _ _ h => by cases h⟩
theorem reads (os : Os) {H : Type} (enc : TypeId × Value → H) : ∃ places, DataW.whole enc Try.prog ((Close.laidWorld os).forCall (fun _ _ => 0) ⟨#[], #[.agg #[.int .i64 0, .int .i64 0, .int .i64 0, .int .i64 0, .int .i64 0, .int .i64 0, .int .i64 0, .int .i64 0, .int .i64 0, .int .i64 0, .int .i64 0, .int .i64 0, .int .i64 0, .int .i64 0, .int .i64 0, .int .i64 0, .int .i64 0, .int .i64 0], .slice none 0 0], []⟩).memory Try.f6.params.toList Rows.channelsMuxSpec.vars false (#[.agg #[.int .i64 0, .int .i64 0, .int .i64 0, .int .i64 0, .int .i64 0, .int .i64 0, .int .i64 0, .int .i64 0, .int .i64 0, .int .i64 0, .int .i64 0, .int .i64 0, .int .i64 0, .int .i64 0, .int .i64 0, .int .i64 0, .int .i64 0, .int .i64 0], .slice none 0 0] : Array Value).toList 8 = some ([.agg [.lit (.int .i64 0), .lit (.int .i64 0), .agg [.lit (.int .i64 0), .lit (.int .i64 0), .lit (.int .i64 0), .lit (.int .i64 0), .lit (.int .i64 0), .lit (.int .i64 0), .lit (.int .i64 0), .lit (.int .i64 0)], .agg [.lit (.int .i64 0), .lit (.int .i64 0), .lit (.int .i64 0), .lit (.int .i64 0), .lit (.int .i64 0), .lit (.int .i64 0), .lit (.int .i64 0), .lit (.int .i64 0)]], .nil], [], places) :=
 ⟨[], by kernel_rfl⟩

theorem light : Close.light Try.prog Try.f6 Rows.channelsMuxSpec Rows.channelsMuxRow = true := by kernel_rfl
theorem place : (Rows.channelsMuxRow.inPlace == Try.prog.inPlace 6) = true := by kernel_rfl
theorem follow : (Rows.channelsMuxRow.unfollowed == Try.prog.unfollowed 6) = true := by kernel_rfl
theorem recur : (Rows.channelsMuxRow.recurses == Try.prog.recurses 6) = true := by kernel_rfl
theorem names : (Rows.channelsMuxRow.named == Try.prog.varsNamed 6) = true := by kernel_rfl
theorem lifted (os : Os) (started : os.Started) (H : Type) (enc : TypeId × Value → H) (F : Stop.Interp) :
 ReturnsInHanded {} Try.checked os 6 .any ((OpenSpec.ofChange Rows.channelsMuxSpec).preRow enc Try.prog Try.f6 Rows.channelsMuxRow.domain false Rows.channelsMuxRow.laid) (((OpenSpec.ofChange Rows.channelsMuxSpec).at F).post enc Try.prog Try.f6 false true false false) := by
 obtain ⟨places, hx⟩ := reads os enc
 refine returnsInHanded_of_row (C := Try.checked) (s := OpenSpec.ofChange Rows.channelsMuxSpec) Close.own started (by kernel_rfl) Try.func6
  (witness_row_at (enc := enc) (C := Try.checked) false (Close.laidWorld os) #[.agg #[.int .i64 0, .int .i64 0, .int .i64 0, .int .i64 0, .int .i64 0, .int .i64 0, .int .i64 0, .int .i64 0, .int .i64 0, .int .i64 0, .int .i64 0, .int .i64 0, .int .i64 0, .int .i64 0, .int .i64 0, .int .i64 0, .int .i64 0, .int .i64 0], .slice none 0 0] rfl (by kernel_rfl) (by kernel_rfl) (by kernel_rfl)
   (OpenSpec.preRow_of_cond 8 hx (by kernel_rfl) (fun k hk => by cases hk) (by kernel_rfl) (laid_met os))) ?_
 intro W base args ds gs before hval hW _ _ hsz hL _ _
 exact contract H enc W base args ds gs before hval hW hsz hL

theorem facts : joinedFacts Try.prog 6 Try.f6 Rows.channelsMuxSpec Rows.channelsMuxRow = true :=
 Close.joined_of light Close.laidOut Close.mapsRow place follow recur names
  (Eq.trans (congrArg (· == Try.prog.plainKeys) (rfl : Rows.channelsMuxRow.plainKeys = Rows.channelsDemuxRow.plainKeys)) Close.keys) Close.heard Close.enter
  (Eq.trans (congrArg (· == Try.prog.liftsFinal) (rfl : Rows.channelsMuxRow.lifted = Rows.channelsDemuxRow.lifted)) Close.lifts)
  (Eq.trans (congrArg (fun x => Try.prog.make == some x) (rfl : Rows.channelsMuxRow.make = Rows.channelsDemuxRow.make)) Close.makes)
theorem said : Rows.ChannelsMuxSaid :=
 OpenClaim.holds_of_cond 6 Try.f6 rfl rfl rfl rfl rfl rfl rfl ⟨rfl, rfl, rfl, rfl, rfl⟩ rfl rfl rfl rfl rfl (by kernel_rfl) Try.func6 facts
  (of_decide_eq_true (by kernel_rfl)) (by unfold Func.isWrapper; first | (rw [if_pos (by decide +kernel)]; kernel_rfl) | (rw [if_neg (by decide +kernel)]; exact ⟨rfl, rfl⟩))
  (fun os started H enc _ F => by rw [OpenClaim.pre_eq_preRow]; exact lifted os started H enc F)

end Go.Proofs.Ytlgpalokjckdcaa.channelsMux
namespace Go.Proofs.Ytlgpalokjckdcaa
open Go
/-- The row. -/
theorem channelsMux_said : Rows.ChannelsMuxSaid := channelsMux.said
end Go.Proofs.Ytlgpalokjckdcaa
