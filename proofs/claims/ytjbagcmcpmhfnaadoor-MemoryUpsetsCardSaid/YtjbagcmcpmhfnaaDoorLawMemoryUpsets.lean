/-
  PROVED: Tryd's 'memoryUpsets': words that are upset in at most one bit between two readings always have the value that was written last: the tied card of its row. CONDITIONS: those of the row (the table math/bits.deBruijn64tab as the program's text lays it) and no other. Own work; the closing after the guide's toy of a row that lists a table.
-/
import Derived.Test.YtjbagcmcpmhfnaaDoorMemW
import Derived.Test.YtjbagcmcpmhfnaaDoorHClose
import Derived.Test.YtjbagcmcpmhfnaaDoorCards
import Derived.Test.YtjbagcmcpmhfnaaDoorTie
namespace Go.Proofs.YtjbagcmcpmhfnaaDoor.memoryUpsets
open Go Go.Am Go.ChangeShapes Go.WideShapes Go.ChangeAt Go.RowKit
set_option maxRecDepth 100000


theorem contract (H : Type) (enc : TypeId × Value → H) (W : World) (base : Nat) (args : Array Value) (ds gs : List (DataW H)) (before : List MemPlace)
    (hval : ∀ (j : Nat) t v, Tryd.f4.params[j]? = some t → args[j]? = some v → Value.okWide Tryd.prog W .any base t v)
    (hW : DataW.Whole enc Tryd.prog Tryd.f4.params.toList Rows.memoryUpsetsSpec.vars false W args.toList ds gs before) (hL : laidMetH Tryd.prog Rows.memoryUpsetsRow.laid W) :
    Calls Tryd.prog 4 args W fun e W' => ∃ v, e = .returned v ∧ Rows.memoryUpsetsSpec.post enc Tryd.prog Tryd.f4 false true false false W args v W' := by
  have hW' := hW
  obtain ⟨p, q, hA0, hV, hpq, hfz, hnd⟩ := hW
  have hA : DataW.TrodAll enc Tryd.prog W 0 (fun _ => true) true Tryd.f4.params.toList args.toList ds p := hA0
  rw [Tryd.params4] at hA hval
  obtain ⟨v0, vs0, d0, ds0, p0, q0, hargs0, rfl, rfl, h0, r0⟩ := trodAll_cons hA
  obtain ⟨v1, vs1, d1, ds1, p1, q1, hargs1, rfl, rfl, h1, r1⟩ := trodAll_cons r0
  obtain ⟨v2, vs2, d2, ds2, p2, q2, hargs2, rfl, rfl, h2, r2⟩ := trodAll_cons r1
  obtain ⟨hlast, rfl, rfl⟩ := trodAll_nil r2
  subst hlast
  subst hargs2
  subst hargs1
  obtain rfl : args = #[v0, v1, v2] := by cases args; simp_all
  obtain ⟨rfl, rfl⟩ := trodVars_none hV
  clear hA0 hpq
  have fin : ∀ W', Below W.heap.size W W' → Rows.memoryUpsetsSpec.post enc Tryd.prog Tryd.f4 false true false false W #[v0, v1, v2] (.bool true) W' := fun W' hg => post_law Close.laidOut (by kernel_rfl) rfl hW' rfl rfl rfl (by kernel_rfl) Tryd.underlying4 hg
  clear hW'
  obtain ⟨x2, rfl, rfl, rfl⟩ := open_bool Tryd.underlying4 (hval 2 4 v2 rfl rfl) h2
  have walk : Calls Tryd.prog 4 #[v0, v1, .bool x2] W fun e W' => e = .returned (.bool true) ∧ Below W.heap.size W W' := by
    have w32 : ∀ zs : List Int, (∀ z ∈ zs, (Lit.int .u32 z).wf = true) → ∀ z ∈ zs, 0 ≤ z ∧ z < ((2 ^ 32 : Nat) : Int) := fun zs h z hz => by
      have := Close.bounds _ (h z hz)
      simp only [IntKind.min, IntKind.max, IntKind.signed, IntKind.bits] at this
      exact ⟨this.1, by omega⟩
    have w16 : ∀ zs : List Int, (∀ z ∈ zs, (Lit.int .u16 z).wf = true) → ∀ z ∈ zs, 0 ≤ z ∧ z < ((2 ^ 16 : Nat) : Int) := fun zs h z hz => by
      have := Close.bounds _ (h z hz)
      simp only [IntKind.min, IntKind.max, IntKind.signed, IntKind.bits] at this
      exact ⟨this.1, by omega⟩
    rcases ints_arg Tryd.underlying38 Tryd.underlying22 (by kernel_rfl) (hval 0 38 v0 rfl rfl) h0 with rfl | ⟨a, len, cap, zs, tt, q, rfl, hl, hz, hb, hvr⟩
    · rcases ints_arg Tryd.underlying39 Tryd.underlying41 (by kernel_rfl) (hval 1 39 v1 rfl rfl) h1 with rfl | ⟨a2, len2, cap2, zs2, tt2, q2, rfl, hl2, hz2, hb2, hvr2⟩
      · exact law_of_spec Mem.okUpp (Close.gok hL) rfl rfl
      · refine law_of_args Mem.okUpp (Close.gok hL) (φ := [q2]) (h := [.ro (zs2.map (Value.int .u16)) tt2]) (Sim.args rfl ?_) (args := [.slice none 0 0, .slice (some ⟨0, 0, some 0⟩) len2 0, .bool x2]) ?_ rfl
        · intro i o p hi hp
          match i, hi, hp with
          | 0, hi, hp => cases hi; cases hp; exact ⟨rfl, hb2⟩
        · exact ⟨_, _, rfl, rfl, _, _, rfl, hvr2 _ 0 rfl, _, _, rfl, rfl, rfl⟩
    · rcases ints_arg Tryd.underlying39 Tryd.underlying41 (by kernel_rfl) (hval 1 39 v1 rfl rfl) h1 with rfl | ⟨a2, len2, cap2, zs2, tt2, q2, rfl, hl2, hz2, hb2, hvr2⟩
      · refine law_of_args Mem.okUpp (Close.gok hL) (φ := [q]) (h := [.ro (zs.map (Value.int .u32)) tt]) (Sim.args rfl ?_) (args := [.slice (some ⟨0, 0, some 0⟩) len 0, .slice none 0 0, .bool x2]) ?_ ⟨Mem.okW_of hl (w32 zs hz), rfl⟩
        · intro i o p hi hp
          match i, hi, hp with
          | 0, hi, hp => cases hi; cases hp; exact ⟨rfl, hb⟩
        · exact ⟨_, _, rfl, hvr _ 0 rfl, _, _, rfl, rfl, _, _, rfl, rfl, rfl⟩
      · refine law_of_args Mem.okUpp (Close.gok hL) (φ := [q, q2]) (h := [.ro (zs.map (Value.int .u32)) tt, .ro (zs2.map (Value.int .u16)) tt2]) (Sim.args rfl ?_) (args := [.slice (some ⟨0, 0, some 0⟩) len 0, .slice (some ⟨1, 0, some 0⟩) len2 0, .bool x2]) ?_ ⟨Mem.okW_of hl (w32 zs hz), Mem.okW_of hl2 (w16 zs2 hz2), rfl⟩
        · intro i o p hi hp
          match i, hi, hp with
          | 0, hi, hp => cases hi; cases hp; exact ⟨rfl, hb⟩
          | 1, hi, hp => cases hi; cases hp; exact ⟨rfl, hb2⟩
        · exact ⟨_, _, rfl, hvr _ 0 rfl, _, _, rfl, hvr2 _ 1 rfl, _, _, rfl, rfl, rfl⟩
  exact walk.mono fun e W' ⟨he, hg⟩ => by
    subst he
    exact ⟨_, rfl, fin W' hg⟩

theorem laid_met (os : Os) : laidMet Tryd.prog Rows.memoryUpsetsRow.laid ((Close.laidWorld os).forCall (fun _ _ => 0) ⟨#[], #[.slice none 0 0, .slice none 0 0, .bool false], []⟩).memory :=
  laidMet_of_run' 80 (by kernel_rfl) (by kernel_rfl)
theorem reads (os : Os) {H : Type} (enc : TypeId × Value → H) : ∃ places, DataW.whole enc Tryd.prog ((Close.laidWorld os).forCall (fun _ _ => 0) ⟨#[], #[.slice none 0 0, .slice none 0 0, .bool false], []⟩).memory Tryd.f4.params.toList Rows.memoryUpsetsSpec.vars false (#[.slice none 0 0, .slice none 0 0, .bool false] : Array Value).toList 8 = some ([.nil, .nil, .lit (.bool false)], [], places) :=
  ⟨[], by kernel_rfl⟩

theorem light : Close.light Tryd.prog Tryd.f4 Rows.memoryUpsetsSpec Rows.memoryUpsetsRow = true := by kernel_rfl
theorem place : (Rows.memoryUpsetsRow.inPlace == Tryd.prog.inPlace 4) = true := by kernel_rfl
theorem follow : (Rows.memoryUpsetsRow.unfollowed == Tryd.prog.unfollowed 4) = true := by kernel_rfl
theorem recur : (Rows.memoryUpsetsRow.recurses == Tryd.prog.recurses 4) = true := by kernel_rfl
theorem names : (Rows.memoryUpsetsRow.named == Tryd.prog.varsNamed 4) = true := by kernel_rfl
theorem lifted (os : Os) (started : os.Started) (H : Type) (enc : TypeId × Value → H) (F : Stop.Interp) :
    ReturnsInHanded {} Tryd.checked os 4 .any ((OpenSpec.ofChange Rows.memoryUpsetsSpec).preRow enc Tryd.prog Tryd.f4 Rows.memoryUpsetsRow.domain false Rows.memoryUpsetsRow.laid) (((OpenSpec.ofChange Rows.memoryUpsetsSpec).at F).post enc Tryd.prog Tryd.f4 false true false false) := by
  obtain ⟨places, hx⟩ := reads os enc
  refine returnsInHanded_of_row (C := Tryd.checked) (s := OpenSpec.ofChange Rows.memoryUpsetsSpec) Close.own started (by kernel_rfl) Tryd.func4
    (witness_row_at (enc := enc) (C := Tryd.checked) false (Close.laidWorld os) #[.slice none 0 0, .slice none 0 0, .bool false] rfl (by kernel_rfl) (by kernel_rfl) (by kernel_rfl)
      (OpenSpec.preRow_of_cond 8 hx (by kernel_rfl) (fun k hk => by cases hk) (by kernel_rfl) (laid_met os))) ?_
  intro W base args ds gs before hval hW _ _ _ hL _ _
  exact contract H enc W base args ds gs before hval hW hL

theorem facts : joinedFacts Tryd.prog 4 Tryd.f4 Rows.memoryUpsetsSpec Rows.memoryUpsetsRow = true :=
  Close.joined_of light Close.laidOut Close.mapsRow place follow recur names
    (Eq.trans (congrArg (· == Tryd.prog.plainKeys) (rfl : Rows.memoryUpsetsRow.plainKeys = Rows.memoryCodesRow.plainKeys)) Close.keys) Close.heard Close.enter
    (Eq.trans (congrArg (· == Tryd.prog.liftsFinal) (rfl : Rows.memoryUpsetsRow.lifted = Rows.memoryCodesRow.lifted)) Close.lifts)
    (Eq.trans (congrArg (fun x => Tryd.prog.make == some x) (rfl : Rows.memoryUpsetsRow.make = Rows.memoryCodesRow.make)) Close.makes)
theorem said : Rows.MemoryUpsetsSaid :=
  OpenClaim.holds_of_cond 4 Tryd.f4 rfl rfl rfl rfl rfl rfl rfl ⟨rfl, rfl, rfl, rfl, rfl⟩ rfl rfl rfl rfl rfl (by kernel_rfl) Tryd.func4 facts
    (of_decide_eq_true (by kernel_rfl)) (by unfold Func.isWrapper; first | (rw [if_pos (by decide +kernel)]; kernel_rfl) | (rw [if_neg (by decide +kernel)]; exact ⟨rfl, rfl⟩))
    (fun os started H enc _ F => by rw [OpenClaim.pre_eq_preRow]; exact lifted os started H enc F)

theorem plain (f : FuncId) (fn : Func) (hf : Tryd.pinned.checked.prog.funcNamed "perigee/perigeelaw30.MemoryUpsets" = some f) (hfn : Tryd.pinned.checked.prog.funcs[f]? = some fn) :
    true = Tryd.pinned.checked.prog.looks [] ∧ ∀ (j : Nat) t, fn.params[j]? = some t → Tryd.pinned.checked.prog.wantsStandIn t = false := by
  obtain rfl : f = 4 := Option.some.inj ((show Tryd.prog.funcNamed "perigee/perigeelaw30.MemoryUpsets" = some 4 by kernel_rfl).symm.trans hf) |>.symm
  obtain rfl : fn = Tryd.f4 := (Option.some.inj (Tryd.func4.symm.trans hfn)).symm
  refine ⟨by kernel_rfl, fun j t ht => ?_⟩
  rw [Tryd.params4] at ht
  have hm := Array.mem_of_getElem? ht
  have : t = 38 ∨ t = 39 ∨ t = 4 := by simpa using hm
  rcases this with rfl | rfl | rfl
  · exact (show Tryd.prog.wantsStandIn 38 = false by kernel_rfl)
  · exact (show Tryd.prog.wantsStandIn 39 = false by kernel_rfl)
  · exact (show Tryd.prog.wantsStandIn 4 = false by kernel_rfl)

end Go.Proofs.YtjbagcmcpmhfnaaDoor.memoryUpsets
namespace Go.Proofs.YtjbagcmcpmhfnaaDoor
open Go
/-- The card. -/
theorem memoryUpsets_card : Rows.MemoryUpsetsCardSaid :=
  Claim7.holds_tied_plain_at .later [] _ _ _ _ memoryUpsets.said (fun _ h => by cases h) (by kernel_rfl) (fun _ h => by cases h) memoryUpsets_row_tie rfl ⟨rfl, rfl⟩ (by kernel_rfl) rfl memoryUpsets.plain (by kernel_rfl)
end Go.Proofs.YtjbagcmcpmhfnaaDoor
