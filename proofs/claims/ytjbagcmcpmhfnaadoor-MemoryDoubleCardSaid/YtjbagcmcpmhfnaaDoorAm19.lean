/-
  The abstract machine, part 19: from a summary to a statement's contract. Own work; 'post_of_below' after the guide's page of small lemmas.
-/
import Derived.Test.YtjbagcmcpmhfnaaDoorAm18
import Derived.Below
import Derived.ChangeSame
import Derived.OpenShut
namespace Go.Am
open Go Go.RowKit Go.WideShapes Go.ChangeShapes

theorem Sim.start (W : World) : Sim W [] [] W :=
  ⟨rfl, rfl, rfl, Nat.le_refl _, fun _ _ => rfl, rfl, fun i o p h => by simp at h, fun i j p q h => by simp [liveB] at h⟩
theorem Sim.below {W W' : World} {φ : Phi} {h : AHeap} (S : Sim W φ h W') : Below W.heap.size W W' := ⟨S.os, S.tape, S.out, S.size, S.old⟩

/-- The law is called with plain values. -/
theorem law_of_spec {P : Program} {G : Nat → Option (List Value)} {fid : FuncId} {s : Spec} (ok : SpecOk P G fid s) {W : World} (hG : GOk G W) {args : Array Value} (hf : flatL args.toList = true) (hs : s args.toList [] fun u _ => u = .bool true) :
    Calls P fid args W fun e W' => e = .returned (.bool true) ∧ Below W.heap.size W W' :=
  (ok W hG _ _ _ hs [] W args (Sim.start W) (VRL_flatL hf)).mono fun e W' ⟨v', u, h', φ', e1, e2, e3, e4, _⟩ => by
    subst e2
    exact ⟨by rw [e1, (VR_flat φ' _ _ rfl).1 e3], e4.below⟩

section
variable {H : Type} {enc : TypeId × Value → H} {P : Program}
theorem post_of_below {f : Func} {s : ChangeSpec} {apart fresh handsOn again : Bool} {W W' : World} {args : Array Value} {v : Value} {ds gs : List (DataW H)} {before pa pv : List MemPlace}
    (hW : DataW.Whole enc P f.params.toList s.vars apart W args.toList ds gs before)
    (hres : ∀ (b : Nat) (sp : Nat → Bool) (hd : Bool), DataW.TrodAll enc P W' b sp hd f.resultTypes.toList (v.resultList f.resultTypes.size) (s.fn H (ds ++ gs)).results [])
    (hargs : ∀ sp : Nat → Bool, (∀ p ∈ before, sp p.block = true) → DataW.TrodAll enc P W' 0 sp true f.params.toList args.toList (s.fn H (ds ++ gs)).args pa)
    (hvars : ∀ sp : Nat → Bool, (∀ p ∈ before, sp p.block = true) → DataW.TrodVars enc P W' sp s.vars (s.fn H (ds ++ gs)).vars pv)
    (hps : before = pa ++ pv) (hb : Below W.heap.size W W')
    (hok : ∀ (j : Nat) (t : TypeId) (r : Value), f.resultTypes[j]? = some t → (v.resultList f.resultTypes.size)[j]? = some r → Value.okWide P W' .any 0 t r) :
    s.post enc P f apart fresh handsOn again W args v W' := by
  have hlt : ∀ p ∈ before, p.block < W.heap.size := fun p hp => hW.lt p hp
  have hold : ∀ p ∈ before, (fun b => decide (b < W.heap.size)) p.block = true := fun p hp => by simpa using hlt p hp
  refine ⟨ds, gs, before, [], pa, pv, hW, hres _ _ _, hargs _ hold, hvars _ hold, World.keptBut_mono (fun p hp => ⟨hp, ?_⟩) (hb.frame (· ∈ before)), fun _ => ?_⟩
  · rw [hps, List.mem_append] at hp
    exact Or.inr hp
  · obtain ⟨_, _, _, _, _, hz, hn⟩ := hW
    refine ⟨hok, _, _, ([] ++ pa) ++ pv, ⟨[] ++ pa, pv, trodAll_append (hargs _ (fun _ _ => rfl)) (hres _ _ _), hvars _ (fun _ _ => rfl), rfl, ?_, ?_⟩, ?_⟩
    · intro b off hp
      have hin : MemPlace.cell b off ∈ before := by rw [hps]; simpa using hp
      rw [hb.frozen (hlt _ hin)]
      exact hz b off hin
    · intro ha
      have := hn ha
      rw [hps] at this
      simpa using this
    · intro p hp _
      rw [hps]
      simpa using hp
end
end Go.Am
