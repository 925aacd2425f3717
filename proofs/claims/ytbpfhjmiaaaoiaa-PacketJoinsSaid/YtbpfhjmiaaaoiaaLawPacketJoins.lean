/-
  PROVED: Try's 'packetJoins': for every sequence of packets, Feed and Open return what the document says; a joiner that New did not return joins nothing: its row. CONDITIONS: those of the row and no other. Own work; the closing after the guide's toys.
-/
import Derived.Test.YtbpfhjmiaaaoiaaJoiV1
import Derived.Test.YtbpfhjmiaaaoiaaAmY
import Derived.Test.YtbpfhjmiaaaoiaaPClose
namespace Go.Proofs.Ytbpfhjmiaaaoiaa.packetJoins
open Go Go.Am Go.ChangeShapes Go.WideShapes Go.ChangeAt Go.RowKit
set_option maxRecDepth 100000


theorem contract (H : Type) (enc : TypeId × Value → H) (W : World) (base : Nat) (args : Array Value) (ds gs : List (DataW H)) (before : List MemPlace)
    (hval : ∀ (j : Nat) t v, Try.f4.params[j]? = some t → args[j]? = some v → Value.okWide Try.prog W .any base t v)
    (hW : DataW.Whole enc Try.prog Try.f4.params.toList Rows.packetJoinsSpec.vars false W args.toList ds gs before) (hsz : (DataW.weightsEach Try.prog (Try.f4.params.toList ++ (OpenSpec.ofChange Rows.packetJoinsSpec).bare.plain.varTypes Try.prog) (ds ++ gs)).all (· ≤ reachBytes) = true) (_hL : laidMetH Try.prog Rows.packetJoinsRow.laid W) :
    Calls Try.prog 4 args W fun e W' => ∃ v, e = .returned v ∧ Rows.packetJoinsSpec.post enc Try.prog Try.f4 false true false false W args v W' := by
  have hW' := hW
  obtain ⟨p, q, hA0, hV, hpq, hfz, hnd⟩ := hW
  have hA : DataW.TrodAll enc Try.prog W 0 (fun _ => true) true Try.f4.params.toList args.toList ds p := hA0
  rw [Try.params4] at hA hval
  obtain ⟨v0, vs0, d0, ds0, p0, q0, hargs0, rfl, rfl, h0, r0⟩ := trodAll_cons hA
  obtain ⟨hlast, rfl, rfl⟩ := trodAll_nil r0
  subst hlast
  obtain rfl : args = #[v0] := by cases args; simp_all
  obtain ⟨rfl, rfl⟩ := trodVars_none hV
  clear hA0 hpq
  have fin : ∀ W', Below W.heap.size W W' → Rows.packetJoinsSpec.post enc Try.prog Try.f4 false true false false W #[v0] (.bool true) W' := fun W' hg => post_law Close.laidOut (by kernel_rfl) rfl hW' rfl rfl rfl (by kernel_rfl) Try.underlying4 hg
  clear hW'
  clear hsz
  have walk : Calls Try.prog 4 #[v0] W fun e W' => e = .returned (.bool true) ∧ Below W.heap.size W W' := by
    rcases structs_arg Try.underlying29 Try.underlying23 (by kernel_rfl) (by kernel_rfl) (hval 0 29 v0 rfl rfl) h0 with rfl | ⟨a, len, cap, row, sz, n, V, rfl, hle, hmax, hsp, hsh, hcell, hf⟩
    · exact Joi.joins_walk none 0 0 fun i hi => absurd hi (Nat.not_lt_zero i)
    · refine Joi.joins_walk (some a) len cap fun i hi => ?_
      have hi' : i < cap := Nat.lt_of_lt_of_le hi hle
      have hle2 : i * 5 + 4 < cap * 5 := by omega
      have g0 := hcell (i * 5) (by show i * 5 < cap * 5; omega)
      have g1 := hcell (i * 5 + 1) (by show i * 5 + 1 < cap * 5; omega)
      have g2 := hcell (i * 5 + 2) (by show i * 5 + 2 < cap * 5; omega)
      have g3 := hcell (i * 5 + 3) (by show i * 5 + 3 < cap * 5; omega)
      have g4 := hcell (i * 5 + 4) (by show i * 5 + 4 < cap * 5; omega)
      obtain ⟨_, e0⟩ := hf i hi' 0 _ rfl
      obtain ⟨y0, qq0, _⟩ := DataW.trod_bool Try.underlying4 e0
      injection qq0 with qq0 _
      have qz0 : V (i * 5) = .bool y0 := qq0
      rw [qz0] at g0
      obtain ⟨_, e1⟩ := hf i hi' 1 _ rfl
      obtain ⟨y1, qq1, _, _⟩ := DataW.trod_int Try.underlying3 e1
      injection qq1 with qq1 _
      have qz1 : V (i * 5 + 1) = .int .i64 y1 := qq1
      rw [qz1] at g1
      obtain ⟨_, e2⟩ := hf i hi' 2 _ rfl
      obtain ⟨y2, qq2, _, _⟩ := DataW.trod_int Try.underlying3 e2
      injection qq2 with qq2 _
      have qz2 : V (i * 5 + 2) = .int .i64 y2 := qq2
      rw [qz2] at g2
      obtain ⟨_, e3⟩ := hf i hi' 3 _ rfl
      obtain ⟨y3, qq3, _, _⟩ := DataW.trod_int Try.underlying3 e3
      injection qq3 with qq3 _
      have qz3 : V (i * 5 + 3) = .int .i64 y3 := qq3
      rw [qz3] at g3
      obtain ⟨_, e4⟩ := hf i hi' 4 _ rfl
      obtain ⟨y4, qq4, _, _⟩ := DataW.trod_string Try.underlying9 e4
      injection qq4 with qq4 _
      have qz4 : V (i * 5 + 4) = .string y4 := qq4
      rw [qz4] at g4
      have at_ : ∀ j, 0 < j → (⟨(a.add (i * 5)).block, (a.add (i * 5)).off + j, none⟩ : Addr) = a.add (i * 5 + j) := by
        intro j hj
        unfold Addr.add
        rw [if_neg (show ¬ i * 5 + j = 0 by omega)]
        split
        · rename_i h0; rw [h0, Nat.zero_add]
        · simp only [Nat.add_assoc]
      refine ⟨a, y0, y1, y2, y3, y4, rfl, g0, ?_, ?_, ?_, ?_, World.block_lt_of_cell? W _ g0⟩
      · rw [at_ 1 (by decide)]; exact g1
      · rw [at_ 2 (by decide)]; exact g2
      · rw [at_ 3 (by decide)]; exact g3
      · rw [at_ 4 (by decide)]; exact g4
  exact walk.mono fun e W' ⟨he, hg⟩ => by
    subst he
    exact ⟨_, rfl, fin W' hg⟩

theorem laid_met (os : Os) : laidMet Try.prog Rows.packetJoinsRow.laid ((Close.laidWorld os).forCall (fun _ _ => 0) ⟨#[], #[.slice none 0 0], []⟩).memory :=
  ⟨[], rfl, List.nodup_nil, fun _ _ h => by cases h⟩
theorem reads (os : Os) {H : Type} (enc : TypeId × Value → H) : ∃ places, DataW.whole enc Try.prog ((Close.laidWorld os).forCall (fun _ _ => 0) ⟨#[], #[.slice none 0 0], []⟩).memory Try.f4.params.toList Rows.packetJoinsSpec.vars false (#[.slice none 0 0] : Array Value).toList 8 = some ([.nil], [], places) :=
  ⟨[], by kernel_rfl⟩

theorem light : Close.light Try.prog Try.f4 Rows.packetJoinsSpec Rows.packetJoinsRow = true := by kernel_rfl
theorem place : (Rows.packetJoinsRow.inPlace == Try.prog.inPlace 4) = true := by kernel_rfl
theorem follow : (Rows.packetJoinsRow.unfollowed == Try.prog.unfollowed 4) = true := by kernel_rfl
theorem recur : (Rows.packetJoinsRow.recurses == Try.prog.recurses 4) = true := by kernel_rfl
theorem names : (Rows.packetJoinsRow.named == Try.prog.varsNamed 4) = true := by kernel_rfl
theorem lifted (os : Os) (started : os.Started) (H : Type) (enc : TypeId × Value → H) (F : Stop.Interp) :
    ReturnsInHanded {} Try.checked os 4 .any ((OpenSpec.ofChange Rows.packetJoinsSpec).preRow enc Try.prog Try.f4 Rows.packetJoinsRow.domain false Rows.packetJoinsRow.laid) (((OpenSpec.ofChange Rows.packetJoinsSpec).at F).post enc Try.prog Try.f4 false true false false) := by
  obtain ⟨places, hx⟩ := reads os enc
  refine returnsInHanded_of_row (C := Try.checked) (s := OpenSpec.ofChange Rows.packetJoinsSpec) Close.own started (by kernel_rfl) Try.func4
    (witness_row_at (enc := enc) (C := Try.checked) false (Close.laidWorld os) #[.slice none 0 0] rfl (by kernel_rfl) (by kernel_rfl) (by kernel_rfl)
      (OpenSpec.preRow_of_cond 8 hx (by kernel_rfl) (fun k hk => by cases hk) (by kernel_rfl) (laid_met os))) ?_
  intro W base args ds gs before hval hW _ _ hsz hL _ _
  exact contract H enc W base args ds gs before hval hW hsz hL

theorem facts : joinedFacts Try.prog 4 Try.f4 Rows.packetJoinsSpec Rows.packetJoinsRow = true :=
  Close.joined_of light Close.laidOut Close.mapsRow place follow recur names
    (Eq.trans (congrArg (· == Try.prog.plainKeys) (rfl : Rows.packetJoinsRow.plainKeys = Rows.packetPutsRow.plainKeys)) Close.keys) Close.heard Close.enter
    (Eq.trans (congrArg (· == Try.prog.liftsFinal) (rfl : Rows.packetJoinsRow.lifted = Rows.packetPutsRow.lifted)) Close.lifts)
    (Eq.trans (congrArg (fun x => Try.prog.make == some x) (rfl : Rows.packetJoinsRow.make = Rows.packetPutsRow.make)) Close.makes)
theorem said : Rows.PacketJoinsSaid :=
  OpenClaim.holds_of_cond 4 Try.f4 rfl rfl rfl rfl rfl rfl rfl ⟨rfl, rfl, rfl, rfl, rfl⟩ rfl rfl rfl rfl rfl (by kernel_rfl) Try.func4 facts
    (of_decide_eq_true (by kernel_rfl)) (by unfold Func.isWrapper; first | (rw [if_pos (by decide +kernel)]; kernel_rfl) | (rw [if_neg (by decide +kernel)]; exact ⟨rfl, rfl⟩))
    (fun os started H enc _ F => by rw [OpenClaim.pre_eq_preRow]; exact lifted os started H enc F)

end Go.Proofs.Ytbpfhjmiaaaoiaa.packetJoins
namespace Go.Proofs.Ytbpfhjmiaaaoiaa
open Go
/-- The row. -/
theorem packetJoins_said : Rows.PacketJoinsSaid := packetJoins.said
end Go.Proofs.Ytbpfhjmiaaaoiaa
