/-
  PROVED: Tryd's 'memoryPlays': whatever is done with a memory, each result, what is stored, and the counts are what the document says: the tied card of its row. CONDITIONS: those of the row (the table math/bits.deBruijn64tab as the program's text lays it) and no other. Own work; the closing after the guide's toy of a row that lists a table.
-/
import Derived.Test.YtjbagcmcpmhfnaaDoorMemZ3
import Derived.Test.YtjbagcmcpmhfnaaDoorAmY
import Derived.Test.YtjbagcmcpmhfnaaDoorHClose
import Derived.Test.YtjbagcmcpmhfnaaDoorCards
import Derived.Test.YtjbagcmcpmhfnaaDoorTie
namespace Go.Proofs.YtjbagcmcpmhfnaaDoor.memoryPlays
open Go Go.Am Go.ChangeShapes Go.WideShapes Go.ChangeAt Go.RowKit
set_option maxRecDepth 100000


theorem contract (H : Type) (enc : TypeId × Value → H) (W : World) (base : Nat) (args : Array Value) (ds gs : List (DataW H)) (before : List MemPlace)
    (hval : ∀ (j : Nat) t v, Tryd.f8.params[j]? = some t → args[j]? = some v → Value.okWide Tryd.prog W .any base t v)
    (hW : DataW.Whole enc Tryd.prog Tryd.f8.params.toList Rows.memoryPlaysSpec.vars false W args.toList ds gs before) (hL : laidMetH Tryd.prog Rows.memoryPlaysRow.laid W) :
    Calls Tryd.prog 8 args W fun e W' => ∃ v, e = .returned v ∧ Rows.memoryPlaysSpec.post enc Tryd.prog Tryd.f8 false true false false W args v W' := by
  have hW' := hW
  obtain ⟨p, q, hA0, hV, hpq, hfz, hnd⟩ := hW
  have hA : DataW.TrodAll enc Tryd.prog W 0 (fun _ => true) true Tryd.f8.params.toList args.toList ds p := hA0
  rw [Tryd.params8] at hA hval
  obtain ⟨v0, vs0, d0, ds0, p0, q0, hargs0, rfl, rfl, h0, r0⟩ := trodAll_cons hA
  obtain ⟨v1, vs1, d1, ds1, p1, q1, hargs1, rfl, rfl, h1, r1⟩ := trodAll_cons r0
  obtain ⟨v2, vs2, d2, ds2, p2, q2, hargs2, rfl, rfl, h2, r2⟩ := trodAll_cons r1
  obtain ⟨hlast, rfl, rfl⟩ := trodAll_nil r2
  subst hlast
  subst hargs2
  subst hargs1
  obtain rfl : args = #[v0, v1, v2] := by cases args; simp_all
  obtain ⟨rfl, rfl⟩ := trodVars_none hV
  clear hA0 hpq
  have fin : ∀ W', Below W.heap.size W W' → Rows.memoryPlaysSpec.post enc Tryd.prog Tryd.f8 false true false false W #[v0, v1, v2] (.bool true) W' := fun W' hg => post_law Close.laidOut (by kernel_rfl) rfl hW' rfl rfl rfl (by kernel_rfl) Tryd.underlying4 hg
  clear hW'
  obtain ⟨x0, rfl, rfl, rfl, w0⟩ := open_int Tryd.underlying3 (hval 0 3 v0 rfl rfl) h0
  have b0 := Close.bounds _ w0
  simp only [IntKind.min, IntKind.max, IntKind.signed, IntKind.bits] at b0
  obtain ⟨x1, rfl, rfl, rfl, w1⟩ := open_int Tryd.underlying3 (hval 1 3 v1 rfl rfl) h1
  have b1 := Close.bounds _ w1
  simp only [IntKind.min, IntKind.max, IntKind.signed, IntKind.bits] at b1
  have walk : Calls Tryd.prog 8 #[.int .i64 x0, .int .i64 x1, v2] W fun e W' => e = .returned (.bool true) ∧ Below W.heap.size W W' := by
    rcases structs_arg Tryd.underlying56 Tryd.underlying66 (by kernel_rfl) (by kernel_rfl) (hval 2 56 v2 rfl rfl) h2 with rfl | ⟨a, len, cap, row, sz, n, V, rfl, hle, hmax, hsp, hsh, hcell, hf⟩
    · exact law_of_spec Mem.okPlaysN (Close.gok hL) rfl rfl
    · have hr : Mem.RowsA V len := fun i hi => by
        have hi' : i < cap := by omega
        obtain ⟨_, e0⟩ := hf i hi' 0 _ rfl
        obtain ⟨z0, q0, _, _⟩ := DataW.trod_int Tryd.underlying5 e0
        injection q0 with q0 _
        obtain ⟨_, e1⟩ := hf i hi' 1 _ rfl
        obtain ⟨z1, q1, _, _⟩ := DataW.trod_int Tryd.underlying3 e1
        injection q1 with q1 _
        obtain ⟨_, e2⟩ := hf i hi' 2 _ rfl
        obtain ⟨z2, q2, _, _⟩ := DataW.trod_int Tryd.underlying3 e2
        injection q2 with q2 _
        obtain ⟨_, e3⟩ := hf i hi' 3 _ rfl
        obtain ⟨z3, q3, _, w3⟩ := DataW.trod_int Tryd.underlying22 e3
        injection q3 with q3 _
        obtain ⟨_, e4⟩ := hf i hi' 4 _ rfl
        obtain ⟨z4, q4, _, _⟩ := DataW.trod_string Tryd.underlying9 e4
        injection q4 with q4 _
        have b3 := Close.bounds _ w3
        simp only [IntKind.min, IntKind.max, IntKind.signed, IntKind.bits] at b3
        exact ⟨z0, z1, z2, z3, z4, q0, q1, q2, q3, b3.1, by omega, q4⟩
      obtain ⟨tt, q, hb, hvr⟩ := slice_cells (es := 5) hle hsp hsh hcell hr.flat (by omega)
      refine law_of_args Mem.okPlays (Close.gok hL) (φ := [q]) (h := [.ro ((List.range (len * 5)).map V) tt]) (Sim.args rfl ?_) (args := [.int .i64 x0, .int .i64 x1, .slice (some ⟨0, 0, some 0⟩) len 0]) ?_ ⟨hr.ok, Mem.lim_of hle hmax, rfl⟩
      · intro i o p hi hp
        match i, hi, hp with
        | 0, hi, hp => cases hi; cases hp; exact ⟨rfl, hb⟩
      · exact ⟨_, _, rfl, rfl, _, _, rfl, rfl, _, _, rfl, hvr _ 0 rfl, rfl⟩
  exact walk.mono fun e W' ⟨he, hg⟩ => by
    subst he
    exact ⟨_, rfl, fin W' hg⟩

theorem laid_met (os : Os) : laidMet Tryd.prog Rows.memoryPlaysRow.laid ((Close.laidWorld os).forCall (fun _ _ => 0) ⟨#[], #[.int .i64 0, .int .i64 0, .slice none 0 0], []⟩).memory :=
  laidMet_of_run' 80 (by kernel_rfl) (by kernel_rfl)
theorem reads (os : Os) {H : Type} (enc : TypeId × Value → H) : ∃ places, DataW.whole enc Tryd.prog ((Close.laidWorld os).forCall (fun _ _ => 0) ⟨#[], #[.int .i64 0, .int .i64 0, .slice none 0 0], []⟩).memory Tryd.f8.params.toList Rows.memoryPlaysSpec.vars false (#[.int .i64 0, .int .i64 0, .slice none 0 0] : Array Value).toList 8 = some ([.lit (.int .i64 0), .lit (.int .i64 0), .nil], [], places) :=
  ⟨[], by kernel_rfl⟩

theorem light : Close.light Tryd.prog Tryd.f8 Rows.memoryPlaysSpec Rows.memoryPlaysRow = true := by kernel_rfl
theorem place : (Rows.memoryPlaysRow.inPlace == Tryd.prog.inPlace 8) = true := by kernel_rfl
theorem follow : (Rows.memoryPlaysRow.unfollowed == Tryd.prog.unfollowed 8) = true := by kernel_rfl
theorem recur : (Rows.memoryPlaysRow.recurses == Tryd.prog.recurses 8) = true := by kernel_rfl
theorem names : (Rows.memoryPlaysRow.named == Tryd.prog.varsNamed 8) = true := by kernel_rfl
theorem lifted (os : Os) (started : os.Started) (H : Type) (enc : TypeId × Value → H) (F : Stop.Interp) :
    ReturnsInHanded {} Tryd.checked os 8 .any ((OpenSpec.ofChange Rows.memoryPlaysSpec).preRow enc Tryd.prog Tryd.f8 Rows.memoryPlaysRow.domain false Rows.memoryPlaysRow.laid) (((OpenSpec.ofChange Rows.memoryPlaysSpec).at F).post enc Tryd.prog Tryd.f8 false true false false) := by
  obtain ⟨places, hx⟩ := reads os enc
  refine returnsInHanded_of_row (C := Tryd.checked) (s := OpenSpec.ofChange Rows.memoryPlaysSpec) Close.own started (by kernel_rfl) Tryd.func8
    (witness_row_at (enc := enc) (C := Tryd.checked) false (Close.laidWorld os) #[.int .i64 0, .int .i64 0, .slice none 0 0] rfl (by kernel_rfl) (by kernel_rfl) (by kernel_rfl)
      (OpenSpec.preRow_of_cond 8 hx (by kernel_rfl) (fun k hk => by cases hk) (by kernel_rfl) (laid_met os))) ?_
  intro W base args ds gs before hval hW _ _ _ hL _ _
  exact contract H enc W base args ds gs before hval hW hL

theorem facts : joinedFacts Tryd.prog 8 Tryd.f8 Rows.memoryPlaysSpec Rows.memoryPlaysRow = true :=
  Close.joined_of light Close.laidOut Close.mapsRow place follow recur names
    (Eq.trans (congrArg (· == Tryd.prog.plainKeys) (rfl : Rows.memoryPlaysRow.plainKeys = Rows.memoryCodesRow.plainKeys)) Close.keys) Close.heard Close.enter
    (Eq.trans (congrArg (· == Tryd.prog.liftsFinal) (rfl : Rows.memoryPlaysRow.lifted = Rows.memoryCodesRow.lifted)) Close.lifts)
    (Eq.trans (congrArg (fun x => Tryd.prog.make == some x) (rfl : Rows.memoryPlaysRow.make = Rows.memoryCodesRow.make)) Close.makes)
theorem said : Rows.MemoryPlaysSaid :=
  OpenClaim.holds_of_cond 8 Tryd.f8 rfl rfl rfl rfl rfl rfl rfl ⟨rfl, rfl, rfl, rfl, rfl⟩ rfl rfl rfl rfl rfl (by kernel_rfl) Tryd.func8 facts
    (of_decide_eq_true (by kernel_rfl)) (by unfold Func.isWrapper; first | (rw [if_pos (by decide +kernel)]; kernel_rfl) | (rw [if_neg (by decide +kernel)]; exact ⟨rfl, rfl⟩))
    (fun os started H enc _ F => by rw [OpenClaim.pre_eq_preRow]; exact lifted os started H enc F)

theorem plain (f : FuncId) (fn : Func) (hf : Tryd.pinned.checked.prog.funcNamed "perigee/perigeelaw30.MemoryPlays" = some f) (hfn : Tryd.pinned.checked.prog.funcs[f]? = some fn) :
    true = Tryd.pinned.checked.prog.looks [] ∧ ∀ (j : Nat) t, fn.params[j]? = some t → Tryd.pinned.checked.prog.wantsStandIn t = false := by
  obtain rfl : f = 8 := Option.some.inj ((show Tryd.prog.funcNamed "perigee/perigeelaw30.MemoryPlays" = some 8 by kernel_rfl).symm.trans hf) |>.symm
  obtain rfl : fn = Tryd.f8 := (Option.some.inj (Tryd.func8.symm.trans hfn)).symm
  refine ⟨by kernel_rfl, fun j t ht => ?_⟩
  rw [Tryd.params8] at ht
  have hm := Array.mem_of_getElem? ht
  have : t = 3 ∨ t = 56 := by simpa using hm
  rcases this with rfl | rfl
  · exact (show Tryd.prog.wantsStandIn 3 = false by kernel_rfl)
  · exact (show Tryd.prog.wantsStandIn 56 = false by kernel_rfl)

end Go.Proofs.YtjbagcmcpmhfnaaDoor.memoryPlays
namespace Go.Proofs.YtjbagcmcpmhfnaaDoor
open Go
/-- The card. -/
theorem memoryPlays_card : Rows.MemoryPlaysCardSaid :=
  Claim7.holds_tied_plain_at .later [] _ _ _ _ memoryPlays.said (fun _ h => by cases h) (by kernel_rfl) (fun _ h => by cases h) memoryPlays_row_tie rfl ⟨rfl, rfl⟩ (by kernel_rfl) rfl memoryPlays.plain (by kernel_rfl)
end Go.Proofs.YtjbagcmcpmhfnaaDoor
