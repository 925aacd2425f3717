/-
  The abstract machine, part 20: a law's arguments, and its contract; a function's own text as its summary. Own work; plain lemmas.
-/
import Derived.Test.YtjbagcmcpmhfnaaDoorAm19
import Derived.Carry
import Derived.ChangeMaps5
namespace Go.Am
open Go Go.RowKit Go.WideShapes Go.ChangeShapes

section
variable {H : Type} {enc : TypeId × Value → H} {P : Program}
theorem trodAll_stays (hl : laidOutB P = true) {W W' : World} {sp' : Nat → Bool} : ∀ {ts : List TypeId} {vs : List Value} {ds : List (DataW H)} {ps : List MemPlace}, (ts.all fun t => P.readableRec t && decide (t < P.types.size)) = true →
    DataW.TrodAll enc P W 0 (fun _ => true) true ts vs ds ps → (∀ p ∈ ps, W.sameAt W' p) → (∀ p ∈ ps, sp' p.block = true) → DataW.TrodAll enc P W' 0 sp' true ts vs ds ps
  | [], _, _, _, _, h, _, _ => by
    obtain ⟨rfl, rfl, rfl⟩ := trodAll_nil h
    exact trodAll_mk0
  | t :: ts, _, _, _, ha, h, h1, h2 => by
    obtain ⟨v, vs, d, ds', p, q, rfl, rfl, rfl, hd, hr⟩ := trodAll_cons h
    rw [List.all_cons, Bool.and_eq_true, Bool.and_eq_true, decide_eq_true_eq] at ha
    exact trodAll_cons_mk (WideElems.Trod_stays hl ha.1.1 ha.1.2 hd (fun x hx => h1 x (List.mem_append_left _ hx)) (fun x hx => h2 x (List.mem_append_left _ hx)))
      (trodAll_stays hl ha.2 hr (fun x hx => h1 x (List.mem_append_right _ hx)) (fun x hx => h2 x (List.mem_append_right _ hx)))

/-- A law answered true, and nothing that was there has changed. -/
theorem post_law {f : Func} {s : ChangeSpec} {apart fresh handsOn again : Bool} {W W' : World} {args : Array Value} {ds gs : List (DataW H)} {before : List MemPlace} {tb : TypeId}
    (hl : laidOutB P = true) (hpar : (f.params.toList.all fun t => P.readableRec t && decide (t < P.types.size)) = true) (hv : s.vars = [])
    (hW : DataW.Whole enc P f.params.toList s.vars apart W args.toList ds gs before)
    (hres : (s.fn H (ds ++ gs)).results = [.lit (.bool true)]) (hargs : (s.fn H (ds ++ gs)).args = ds) (hvars : (s.fn H (ds ++ gs)).vars = [])
    (hr : f.resultTypes = #[tb]) (hbool : P.underlying tb = some .bool) (hb : Below W.heap.size W W') : s.post enc P f apart fresh handsOn again W args (.bool true) W' := by
  have hW0 := hW
  obtain ⟨p, q, hA, hV, hpq, _, _⟩ := hW
  rw [hv] at hV
  obtain ⟨hg, hq⟩ := trodVars_none hV
  subst hq
  have hlt : ∀ x ∈ p, x.block < W.heap.size := fun x hx => hW0.lt x (by rw [hpq]; exact List.mem_append_left _ hx)
  refine post_of_below (pa := p) (pv := []) hW0 (fun _ _ _ => ?_) (fun sp hsp => ?_) (fun _ _ => ?_) hpq hb ?_
  · rw [hres, hr]
    exact trodAll_cons_mk (shut_bool hbool _) trodAll_mk0
  · rw [hargs]
    exact trodAll_stays hl hpar hA (fun x hx => hb.same (hlt x hx)) (fun x hx => hsp x (by rw [hpq]; exact List.mem_append_left _ hx))
  · rw [hv, hvars]; rfl
  · exact ok_one hr rfl (okWide_bool_mk hbool _)
end

/-- Blocks that the law's arguments bring along: they are only read. -/
theorem Sim.args {W : World} {φ : Phi} {h : AHeap} (hl : φ.length = h.length) (hb : ∀ (i : Nat) (o : AObj) (p : PB), h[i]? = some o → φ[i]? = some p → o.liveB = false ∧ BlkOk W φ p o W) : Sim W φ h W :=
  ⟨rfl, rfl, rfl, Nat.le_refl _, fun _ _ => rfl, hl, fun i o p h1 h2 => (hb i o p h1 h2).2, fun i j p q h1 _ h3 _ _ => by
    obtain ⟨o, h4, h5⟩ := liveB_some h1
    have := (hb i o p h4 h3).1
    rw [h5] at this; cases this⟩
theorem law_of_args {P : Program} {G : Nat → Option (List Value)} {fid : FuncId} {s : Spec} (ok : SpecOk P G fid s) {W : World} (hG : GOk G W) {φ : Phi} {h : AHeap} (S : Sim W φ h W) {args : List Value} {args' : Array Value} (hv : VRL φ args args'.toList)
    (hs : s args h fun u _ => u = .bool true) : Calls P fid args' W fun e W' => e = .returned (.bool true) ∧ Below W.heap.size W W' :=
  (ok W hG _ _ _ hs φ W args' S hv).mono fun e W' ⟨v', u, h', φ', e1, e2, e3, e4, _⟩ => by
    subst e2
    exact ⟨by rw [e1, (VR_flat φ' _ _ rfl).1 e3], e4.below⟩

/-- The function's own text as its summary. -/
noncomputable def inl (f : FCfg) (code : Code) (rs : List ResultVar) : Spec := fun args h K => bodyK f code rs args h K
theorem eachNone {f : FCfg} {c : Code} (hn : ∀ i, f.loops i = none) : ∀ (l : List Nat) (j : Nat), EachLoop f c j l
  | [], _ => trivial
  | i :: r, j => ⟨by rw [hn i]; trivial, eachNone hn r (j + 1)⟩
theorem inl_ok {P : Program} {G : Nat → Option (List Value)} {tbl : List (Nat × Spec)} (hm : P.follows .mixedOrders = true) (ht : AllOk P G tbl) {fid : Nat} {fn : Func} {code : Code} (hf : P.funcs[fid]? = some fn) (hb : fn.body = some code)
    (f : FCfg) (hP : f.P = P) (hG : f.G = G) (hC : f.C = tabC tbl) (hN : f.N = fn.ntmps) (hn : ∀ i, f.loops i = none) : SpecOk P G fid (inl f code fn.results.toList) :=
  spec2 hm ht hf hb f hP hG hC hN rfl (eachNone hn _ 0) (fun _ _ _ h => h)
theorem weaken {P : Program} {G : Nat → Option (List Value)} {fid : Nat} {s s' : Spec} (h : SpecOk P G fid s) (hi : ∀ args h K, s' args h K → s args h K) : SpecOk P G fid s' :=
  fun W hG args hp K hk => h W hG args hp K (hi args hp K hk)
end Go.Am
