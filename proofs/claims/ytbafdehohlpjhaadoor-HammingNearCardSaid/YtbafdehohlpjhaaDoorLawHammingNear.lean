/-
  PROVED: Tryd's 'hammingNear': what Decode says of any coded word: the tied card of its row. CONDITIONS: those of the row (the table math/bits.deBruijn64tab as the program's text lays it) and no other. Own work; the closing after the guide's toy of a row that lists a table.
-/
import Derived.Test.YtbafdehohlpjhaaDoorHamS
import Derived.Test.YtbafdehohlpjhaaDoorAm19
import Derived.Test.YtbafdehohlpjhaaDoorCards
import Derived.Test.YtbafdehohlpjhaaDoorTie
import Derived.WalkKit
import Derived.ProofKit
import Derived.OpenShut
import Derived.Deep.DeepHandedRow
import Derived.Lib.LaidTab
namespace Go.Proofs.YtbafdehohlpjhaaDoor.hammingNear
open Go Go.Am Go.ChangeShapes Go.WideShapes Go.ChangeAt Go.RowKit
set_option maxRecDepth 100000

theorem own : ownKnob Tryd.prog.godebug = none := by kernel_rfl
theorem gTab : Tryd.prog.globalNamed "math/bits.deBruijn64tab" = some 0 := by kernel_rfl
theorem gTabType : (Tryd.prog.globals[0]?).map (·.type) = some 46 := by kernel_rfl
theorem cells46 : Tryd.prog.cellsOf 46 = 64 := by kernel_rfl
theorem cells47 : Tryd.prog.cellsOf 5 = 1 := by kernel_rfl
def tab : List Int := Ham.tzTab.map fun n => ((n : Nat) : Int)
theorem table {W : World} (h : laidMetH Tryd.prog Rows.hammingNearRow.laid W) : Lib.TabIs Tryd.prog W "math/bits.deBruijn64tab" .u8 tab :=
  Lib.tabIs_of_head (rest := []) gTab gTabType Tryd.underlying46 Tryd.underlying5 cells47 cells46 h
theorem gok {W : World} (h : laidMetH Tryd.prog Rows.hammingNearRow.laid W) : GOk Ham.G0 W := by
  intro g vs hg
  unfold Ham.G0 at hg
  split at hg
  · cases hg
    have ht := table h
    have hv : W.var? Tryd.prog "math/bits.deBruijn64tab" = some (tab.map fun z => Value.int .u8 z).toArray := ht
    have hc (i : Nat) (hi : i < 64) : W.cell? ⟨0, i, none⟩ = some (.int .u8 (tab.getD i 0)) := ht.cell gTab i (by show i < 64; exact hi)
    have h0 := hc 0 (by omega)
    unfold World.cell? at h0
    have hlt : 0 < W.heap.size := by
      rcases Nat.eq_zero_or_pos W.heap.size with e | e
      · rw [Array.getElem?_eq_none (by omega)] at h0; cases h0
      · exact e
    have hob : W.heap[0]? = some (W.heap[0]'hlt) := Array.getElem?_eq_getElem hlt
    generalize W.heap[0]'hlt = ob at hob
    cases ob with
    | cells cs t fr =>
      refine ⟨by decide, hlt, cs, t, fr, cs.toList.drop 64, hob, ?_⟩
      have hsz : ∀ i : Nat, i < 64 → cs.toList[i]? = some (.int .u8 (tab.getD i 0)) := fun i hi => by
        have := hc i hi
        unfold World.cell? at this
        simp only [hob] at this
        simpa using this
      rw [← List.take_append_drop 64 cs.toList]
      congr 1
      · apply List.ext_getElem?
        intro i
        by_cases hi : i < 64
        · rw [List.getElem?_take_of_lt hi, hsz i hi]
          have : ∀ j : Fin 64, Ham.tzVals[j.val]? = some (.int .u8 (tab.getD j.val 0)) := by
            intro j
            have hj : j.val < Ham.tzTab.length := j.isLt
            simp only [Ham.tzVals, tab, List.getElem?_map, List.getD_eq_getElem?_getD, List.getElem?_eq_getElem hj, Option.map_some, Option.getD_some]
          exact (this ⟨i, hi⟩).symm
        · rw [List.getElem?_eq_none (by simp; omega), List.getElem?_eq_none (by show 64 ≤ i; omega)]
      · rw [List.take_append_drop]
    | _ => rw [hob] at h0; cases h0
  · cases hg

theorem contract (H : Type) (enc : TypeId × Value → H) (W : World) (base : Nat) (args : Array Value) (ds gs : List (DataW H)) (before : List MemPlace)
    (hval : ∀ (j : Nat) t v, Tryd.f8.params[j]? = some t → args[j]? = some v → Value.okWide Tryd.prog W .any base t v)
    (hW : DataW.Whole enc Tryd.prog Tryd.f8.params.toList Rows.hammingNearSpec.vars false W args.toList ds gs before) (hL : laidMetH Tryd.prog Rows.hammingNearRow.laid W) :
    Calls Tryd.prog 8 args W fun e W' => ∃ v, e = .returned v ∧ Rows.hammingNearSpec.post enc Tryd.prog Tryd.f8 false true false false W args v W' := by
  have hW' := hW
  obtain ⟨p, q, hA0, hV, rfl, hfz, hnd⟩ := hW
  have hA : DataW.TrodAll enc Tryd.prog W 0 (fun _ => true) true Tryd.f8.params.toList args.toList ds p := hA0
  rw [Tryd.params8] at hA hval
  obtain ⟨v0, vs0, d0, ds0, p0, q0, hargs0, rfl, rfl, h0, r0⟩ := trodAll_cons hA
  obtain ⟨hlast, rfl, rfl⟩ := trodAll_nil r0
  subst hlast
  obtain rfl : args = #[v0] := by cases args; simp_all
  obtain ⟨rfl, rfl⟩ := trodVars_none hV
  obtain ⟨x0, rfl, rfl, rfl, w0⟩ := open_int Tryd.underlying23 (hval 0 23 v0 rfl rfl) h0
  clear hA0
  simp only [List.append_nil, List.nil_append] at hW'
  have b0 := w0
  simp only [Lit.wf, Bool.and_eq_true, decide_eq_true_eq, IntKind.min, IntKind.max, IntKind.signed, IntKind.bits] at b0
  have walk : Calls Tryd.prog 8 #[.int .u64 x0] W fun e W' => e = .returned (.bool true) ∧ Below W.heap.size W W' :=
    law_of_spec Ham.ok8 (gok hL) rfl ⟨(by have := b0.1; simp at this; omega), (by have := b0.2; simp at this; omega), rfl⟩
  refine walk.mono fun e W' ⟨he, hg⟩ => ?_
  subst he
  exact ⟨_, rfl, post_of_below (pa := []) (pv := []) hW' (fun _ _ _ => trodAll_cons_mk (shut_bool Tryd.underlying4 _) trodAll_mk0) (fun _ _ => trodAll_cons_mk (shut_int Tryd.underlying23 w0) trodAll_mk0) (fun _ _ => rfl) rfl
    hg (ok_one (by kernel_rfl) rfl (okWide_bool_mk Tryd.underlying4 _))⟩

/-- A world for the witness: the settled one, the table (block 0) holding what its initialiser lays. -/
noncomputable def laidWorld (os : Os) : World :=
  { World.holding Tryd.prog os ⟨#[], #[], []⟩ with heap := (World.holding Tryd.prog os ⟨#[], #[], []⟩).heap.modify 0 fun
      | .cells _ t frozen => .cells Ham.tzVals.toArray t frozen
      | o => o }
theorem laid_met (os : Os) : laidMet Tryd.prog Rows.hammingNearRow.laid ((laidWorld os).forCall (fun _ _ => 0) ⟨#[], #[.int .u64 0], []⟩).memory :=
  laidMet_of_run' 80 (by kernel_rfl) (by kernel_rfl)
theorem reads (os : Os) {H : Type} (enc : TypeId × Value → H) : ∃ places, DataW.whole enc Tryd.prog ((laidWorld os).forCall (fun _ _ => 0) ⟨#[], #[.int .u64 0], []⟩).memory Tryd.f8.params.toList Rows.hammingNearSpec.vars false (#[.int .u64 0] : Array Value).toList 8 = some ([.lit (.int .u64 0)], [], places) :=
  ⟨[], by kernel_rfl⟩

theorem lifted (os : Os) (started : os.Started) (H : Type) (enc : TypeId × Value → H) (F : Stop.Interp) :
    ReturnsInHanded {} Tryd.checked os 8 .any ((OpenSpec.ofChange Rows.hammingNearSpec).preRow enc Tryd.prog Tryd.f8 Rows.hammingNearRow.domain false Rows.hammingNearRow.laid) (((OpenSpec.ofChange Rows.hammingNearSpec).at F).post enc Tryd.prog Tryd.f8 false true false false) := by
  obtain ⟨places, hx⟩ := reads os enc
  refine returnsInHanded_of_row (C := Tryd.checked) (s := OpenSpec.ofChange Rows.hammingNearSpec) own started (by kernel_rfl) Tryd.func8
    (witness_row_at (enc := enc) (C := Tryd.checked) false (laidWorld os) #[.int .u64 0] rfl (by kernel_rfl) (by kernel_rfl) (by kernel_rfl)
      (OpenSpec.preRow_of_cond 8 hx (by kernel_rfl) (fun k hk => by cases hk) (by kernel_rfl) (laid_met os))) ?_
  intro W base args ds gs before hval hW _ _ _ hL _ _
  exact contract H enc W base args ds gs before hval hW hL

theorem said : Rows.HammingNearSaid :=
  OpenClaim.holds_of_cond 8 Tryd.f8 rfl rfl rfl rfl rfl rfl rfl ⟨rfl, rfl, rfl, rfl, rfl⟩ rfl rfl rfl rfl rfl (by kernel_rfl) Tryd.func8 (by kernel_rfl)
    (of_decide_eq_true (by kernel_rfl)) (by unfold Func.isWrapper; first | (rw [if_pos (by decide +kernel)]; kernel_rfl) | (rw [if_neg (by decide +kernel)]; exact ⟨rfl, rfl⟩))
    (fun os started H enc _ F => by rw [OpenClaim.pre_eq_preRow]; exact lifted os started H enc F)

theorem plain (f : FuncId) (fn : Func) (hf : Tryd.pinned.checked.prog.funcNamed "perigee/perigeelaw29.HammingNear" = some f) (hfn : Tryd.pinned.checked.prog.funcs[f]? = some fn) :
    false = Tryd.pinned.checked.prog.looks [] ∧ ∀ (j : Nat) t, fn.params[j]? = some t → Tryd.pinned.checked.prog.wantsStandIn t = false := by
  obtain rfl : f = 8 := Option.some.inj ((show Tryd.prog.funcNamed "perigee/perigeelaw29.HammingNear" = some 8 by kernel_rfl).symm.trans hf) |>.symm
  obtain rfl : fn = Tryd.f8 := (Option.some.inj (Tryd.func8.symm.trans hfn)).symm
  refine ⟨by kernel_rfl, fun j t ht => ?_⟩
  rw [Tryd.params8] at ht
  have hm := Array.mem_of_getElem? ht
  have : t = 23 := by simpa using hm
  subst this
  exact (show Tryd.prog.wantsStandIn 23 = false by kernel_rfl)

end Go.Proofs.YtbafdehohlpjhaaDoor.hammingNear
namespace Go.Proofs.YtbafdehohlpjhaaDoor
open Go
/-- The card. -/
theorem hammingNear_card : Rows.HammingNearCardSaid :=
  Claim7.holds_tied_plain_at .later [] _ _ _ _ hammingNear.said (fun _ h => by cases h) (by kernel_rfl) (fun _ h => by cases h) hammingNear_row_tie rfl ⟨rfl, rfl⟩ (by kernel_rfl) rfl hammingNear.plain (by kernel_rfl)
end Go.Proofs.YtbafdehohlpjhaaDoor
