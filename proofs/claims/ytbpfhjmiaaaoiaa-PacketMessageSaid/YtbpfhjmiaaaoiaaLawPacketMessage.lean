/-
  PROVED: Try's 'packetMessage': the packets of a message, fed one by one with packets of others between, give the message: its row. CONDITIONS: those of the row and no other. Own work; the closing after the guide's toys.
-/
import Derived.Test.YtbpfhjmiaaaoiaaJoiN3
import Derived.Test.YtbpfhjmiaaaoiaaAmY
import Derived.Test.YtbpfhjmiaaaoiaaPClose
namespace Go.Proofs.Ytbpfhjmiaaaoiaa.packetMessage
open Go Go.Am Go.ChangeShapes Go.WideShapes Go.ChangeAt Go.RowKit
set_option maxRecDepth 100000


theorem contract (H : Type) (enc : TypeId × Value → H) (W : World) (base : Nat) (args : Array Value) (ds gs : List (DataW H)) (before : List MemPlace)
    (hval : ∀ (j : Nat) t v, Try.f5.params[j]? = some t → args[j]? = some v → Value.okWide Try.prog W .any base t v)
    (hW : DataW.Whole enc Try.prog Try.f5.params.toList Rows.packetMessageSpec.vars false W args.toList ds gs before) (hsz : (DataW.weightsEach Try.prog (Try.f5.params.toList ++ (OpenSpec.ofChange Rows.packetMessageSpec).bare.plain.varTypes Try.prog) (ds ++ gs)).all (· ≤ reachBytes) = true) (_hL : laidMetH Try.prog Rows.packetMessageRow.laid W) :
    Calls Try.prog 5 args W fun e W' => ∃ v, e = .returned v ∧ Rows.packetMessageSpec.post enc Try.prog Try.f5 false true false false W args v W' := by
  have hW' := hW
  obtain ⟨p, q, hA0, hV, hpq, hfz, hnd⟩ := hW
  have hA : DataW.TrodAll enc Try.prog W 0 (fun _ => true) true Try.f5.params.toList args.toList ds p := hA0
  rw [Try.params5] at hA hval
  obtain ⟨v0, vs0, d0, ds0, p0, q0, hargs0, rfl, rfl, h0, r0⟩ := trodAll_cons hA
  obtain ⟨v1, vs1, d1, ds1, p1, q1, hargs1, rfl, rfl, h1, r1⟩ := trodAll_cons r0
  obtain ⟨hlast, rfl, rfl⟩ := trodAll_nil r1
  subst hlast
  subst hargs1
  obtain rfl : args = #[v0, v1] := by cases args; simp_all
  obtain ⟨rfl, rfl⟩ := trodVars_none hV
  clear hA0 hpq
  have fin : ∀ W', Below W.heap.size W W' → Rows.packetMessageSpec.post enc Try.prog Try.f5 false true false false W #[v0, v1] (.bool true) W' := fun W' hg => post_law Close.laidOut (by kernel_rfl) rfl hW' rfl rfl rfl (by kernel_rfl) Try.underlying4 hg
  clear hW'
  obtain ⟨cs0, rfl, hl0, hf0⟩ := open_one Try.underlying46 (by kernel_rfl) (by kernel_rfl) (hval 0 46 v0 rfl rfl) h0
  obtain ⟨c0_0, c0_1, c0_2, c0_3, c0_4, rfl⟩ : ∃ c0_0 c0_1 c0_2 c0_3 c0_4, cs0 = [c0_0, c0_1, c0_2, c0_3, c0_4] := by
    match cs0, hl0 with
    | [a, b, c, d, e], _ => exact ⟨a, b, c, d, e, rfl⟩
  obtain ⟨_, _, e0_0⟩ := hf0 0 _ c0_0 rfl rfl
  obtain ⟨z0_0, q0_0, _⟩ := DataW.trod_bool Try.underlying4 e0_0
  injection q0_0 with q0_0 _
  subst q0_0
  obtain ⟨_, _, e0_1⟩ := hf0 1 _ c0_1 rfl rfl
  obtain ⟨z0_1, q0_1, w0_1, u0_1⟩ := DataW.trod_int Try.underlying3 e0_1
  injection q0_1 with q0_1 _
  subst q0_1
  obtain ⟨_, _, e0_2⟩ := hf0 2 _ c0_2 rfl rfl
  obtain ⟨z0_2, q0_2, w0_2, u0_2⟩ := DataW.trod_int Try.underlying3 e0_2
  injection q0_2 with q0_2 _
  subst q0_2
  obtain ⟨_, _, e0_3⟩ := hf0 3 _ c0_3 rfl rfl
  obtain ⟨z0_3, q0_3, w0_3, u0_3⟩ := DataW.trod_int Try.underlying3 e0_3
  injection q0_3 with q0_3 _
  subst q0_3
  obtain ⟨_, _, e0_4⟩ := hf0 4 _ c0_4 rfl rfl
  obtain ⟨z0_4, q0_4, w0_4, u0_4⟩ := DataW.trod_string Try.underlying9 e0_4
  injection q0_4 with q0_4 _
  subst q0_4
  clear hsz
  have walk : Calls Try.prog 5 #[.agg ⟨[.bool z0_0, .int .i64 z0_1, .int .i64 z0_2, .int .i64 z0_3, .string z0_4]⟩, v1] W fun e W' => e = .returned (.bool true) ∧ Below W.heap.size W W' := by
    rcases structs_arg Try.underlying29 Try.underlying23 (by kernel_rfl) (by kernel_rfl) (hval 1 29 v1 rfl rfl) h1 with rfl | ⟨a, len, cap, row, sz, n, V, rfl, hle, hmax, hsp, hsh, hcell, hf⟩
    · exact Joi.message_walk z0_0 z0_1 z0_2 z0_3 z0_4 none 0 0 fun i hi => absurd hi (Nat.not_lt_zero i)
    · refine Joi.message_walk z0_0 z0_1 z0_2 z0_3 z0_4 (some a) len cap fun i hi => ?_
      have hi' : i < cap := Nat.lt_of_lt_of_le hi hle
      have hle2 : i * 5 + 4 < cap * 5 := by omega
      have g0 := hcell (i * 5) (by show i * 5 < cap * 5; omega)
      have g1 := hcell (i * 5 + 1) (by show i * 5 + 1 < cap * 5; omega)
      have g2 := hcell (i * 5 + 2) (by show i * 5 + 2 < cap * 5; omega)
      have g3 := hcell (i * 5 + 3) (by show i * 5 + 3 < cap * 5; omega)
      have g4 := hcell (i * 5 + 4) (by show i * 5 + 4 < cap * 5; omega)
      obtain ⟨_, e0⟩ := hf i hi' 0 _ rfl
      obtain ⟨y0, qq0, _⟩ := DataW.trod_bool Try.underlying4 e0
      injection qq0 with qq0 _
      have qz0 : V (i * 5) = .bool y0 := qq0
      rw [qz0] at g0
      obtain ⟨_, e1⟩ := hf i hi' 1 _ rfl
      obtain ⟨y1, qq1, _, _⟩ := DataW.trod_int Try.underlying3 e1
      injection qq1 with qq1 _
      have qz1 : V (i * 5 + 1) = .int .i64 y1 := qq1
      rw [qz1] at g1
      obtain ⟨_, e2⟩ := hf i hi' 2 _ rfl
      obtain ⟨y2, qq2, _, _⟩ := DataW.trod_int Try.underlying3 e2
      injection qq2 with qq2 _
      have qz2 : V (i * 5 + 2) = .int .i64 y2 := qq2
      rw [qz2] at g2
      obtain ⟨_, e3⟩ := hf i hi' 3 _ rfl
      obtain ⟨y3, qq3, _, _⟩ := DataW.trod_int Try.underlying3 e3
      injection qq3 with qq3 _
      have qz3 : V (i * 5 + 3) = .int .i64 y3 := qq3
      rw [qz3] at g3
      obtain ⟨_, e4⟩ := hf i hi' 4 _ rfl
      obtain ⟨y4, qq4, _, _⟩ := DataW.trod_string Try.underlying9 e4
      injection qq4 with qq4 _
      have qz4 : V (i * 5 + 4) = .string y4 := qq4
      rw [qz4] at g4
      have at_ : ∀ j, 0 < j → (⟨(a.add (i * 5)).block, (a.add (i * 5)).off + j, none⟩ : Addr) = a.add (i * 5 + j) := by
        intro j hj
        unfold Addr.add
        rw [if_neg (show ¬ i * 5 + j = 0 by omega)]
        split
        · rename_i h0; rw [h0, Nat.zero_add]
        · simp only [Nat.add_assoc]
      refine ⟨a, y0, y1, y2, y3, y4, rfl, g0, ?_, ?_, ?_, ?_, World.block_lt_of_cell? W _ g0⟩
      · rw [at_ 1 (by decide)]; exact g1
      · rw [at_ 2 (by decide)]; exact g2
      · rw [at_ 3 (by decide)]; exact g3
      · rw [at_ 4 (by decide)]; exact g4
  exact walk.mono fun e W' ⟨he, hg⟩ => by
    subst he
    exact ⟨_, rfl, fin W' hg⟩

theorem laid_met (os : Os) : laidMet Try.prog Rows.packetMessageRow.laid ((Close.laidWorld os).forCall (fun _ _ => 0) ⟨#[], #[.agg #[.bool false, .int .i64 0, .int .i64 0, .int .i64 0, .string .empty], .slice none 0 0], []⟩).memory :=
  ⟨[], rfl, List.nodup_nil, fun _ _ h => by cases h⟩
theorem reads (os : Os) {H : Type} (enc : TypeId × Value → H) : ∃ places, DataW.whole enc Try.prog ((Close.laidWorld os).forCall (fun _ _ => 0) ⟨#[], #[.agg #[.bool false, .int .i64 0, .int .i64 0, .int .i64 0, .string .empty], .slice none 0 0], []⟩).memory Try.f5.params.toList Rows.packetMessageSpec.vars false (#[.agg #[.bool false, .int .i64 0, .int .i64 0, .int .i64 0, .string .empty], .slice none 0 0] : Array Value).toList 8 = some ([.agg [.lit (.bool false), .lit (.int .i64 0), .lit (.int .i64 0), .lit (.int .i64 0), .lit (.string [])], .nil], [], places) :=
  ⟨[], by kernel_rfl⟩

theorem light : Close.light Try.prog Try.f5 Rows.packetMessageSpec Rows.packetMessageRow = true := by kernel_rfl
theorem place : (Rows.packetMessageRow.inPlace == Try.prog.inPlace 5) = true := by kernel_rfl
theorem follow : (Rows.packetMessageRow.unfollowed == Try.prog.unfollowed 5) = true := by kernel_rfl
theorem recur : (Rows.packetMessageRow.recurses == Try.prog.recurses 5) = true := by kernel_rfl
theorem names : (Rows.packetMessageRow.named == Try.prog.varsNamed 5) = true := by kernel_rfl
theorem lifted (os : Os) (started : os.Started) (H : Type) (enc : TypeId × Value → H) (F : Stop.Interp) :
    ReturnsInHanded {} Try.checked os 5 .any ((OpenSpec.ofChange Rows.packetMessageSpec).preRow enc Try.prog Try.f5 Rows.packetMessageRow.domain false Rows.packetMessageRow.laid) (((OpenSpec.ofChange Rows.packetMessageSpec).at F).post enc Try.prog Try.f5 false true false false) := by
  obtain ⟨places, hx⟩ := reads os enc
  refine returnsInHanded_of_row (C := Try.checked) (s := OpenSpec.ofChange Rows.packetMessageSpec) Close.own started (by kernel_rfl) Try.func5
    (witness_row_at (enc := enc) (C := Try.checked) false (Close.laidWorld os) #[.agg #[.bool false, .int .i64 0, .int .i64 0, .int .i64 0, .string .empty], .slice none 0 0] rfl (by kernel_rfl) (by kernel_rfl) (by kernel_rfl)
      (OpenSpec.preRow_of_cond 8 hx (by kernel_rfl) (fun k hk => by cases hk) (by kernel_rfl) (laid_met os))) ?_
  intro W base args ds gs before hval hW _ _ hsz hL _ _
  exact contract H enc W base args ds gs before hval hW hsz hL

theorem facts : joinedFacts Try.prog 5 Try.f5 Rows.packetMessageSpec Rows.packetMessageRow = true :=
  Close.joined_of light Close.laidOut Close.mapsRow place follow recur names
    (Eq.trans (congrArg (· == Try.prog.plainKeys) (rfl : Rows.packetMessageRow.plainKeys = Rows.packetPutsRow.plainKeys)) Close.keys) Close.heard Close.enter
    (Eq.trans (congrArg (· == Try.prog.liftsFinal) (rfl : Rows.packetMessageRow.lifted = Rows.packetPutsRow.lifted)) Close.lifts)
    (Eq.trans (congrArg (fun x => Try.prog.make == some x) (rfl : Rows.packetMessageRow.make = Rows.packetPutsRow.make)) Close.makes)
theorem said : Rows.PacketMessageSaid :=
  OpenClaim.holds_of_cond 5 Try.f5 rfl rfl rfl rfl rfl rfl rfl ⟨rfl, rfl, rfl, rfl, rfl⟩ rfl rfl rfl rfl rfl (by kernel_rfl) Try.func5 facts
    (of_decide_eq_true (by kernel_rfl)) (by unfold Func.isWrapper; first | (rw [if_pos (by decide +kernel)]; kernel_rfl) | (rw [if_neg (by decide +kernel)]; exact ⟨rfl, rfl⟩))
    (fun os started H enc _ F => by rw [OpenClaim.pre_eq_preRow]; exact lifted os started H enc F)

end Go.Proofs.Ytbpfhjmiaaaoiaa.packetMessage
namespace Go.Proofs.Ytbpfhjmiaaaoiaa
open Go
/-- The row. -/
theorem packetMessage_said : Rows.PacketMessageSaid := packetMessage.said
end Go.Proofs.Ytbpfhjmiaaaoiaa
