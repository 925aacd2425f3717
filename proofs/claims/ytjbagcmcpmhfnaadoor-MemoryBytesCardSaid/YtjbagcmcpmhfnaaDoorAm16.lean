/-
  The abstract machine, part 16: functions. Own work; plain definitions and lemmas.
-/
import Derived.Test.YtjbagcmcpmhfnaaDoorAm15
namespace Go.Am
open Go

def resK (c : Cfg) : List ResultVar → Env → AHeap → (List Value → Prop) → Prop
  | [], _, _, k => k []
  | .tmp t :: r, e, h, k => match eget e t with
    | some v => resK c r e h fun vs => k (v :: vs)
    | none => False
  | .cell a t :: r, e, h, k => match eget e a with
    | some ad => loadK c t ad h fun v => resK c r e h fun vs => k (v :: vs)
    | none => False
def oneU : List Value → Value
  | [v] => v
  | vs => .tuple ⟨vs⟩
def gcK' (n0 : Nat) (u : Value) (h : AHeap) (k : Value → AHeap → Prop) (ι : List Nat) : Prop :=
  cond (prefB n0 ι 0 && closedB h ι && idsB (fun j => memB j ι) u) (frH (pullH false h ι) (k (rn (findI ι) u))) False
def gcK (n0 : Nat) (u : Value) (h : AHeap) (k : Value → AHeap → Prop) : Prop :=
  frI (reach 4000 h (kidsH n0 h ++ idsV u) (upto n0 0)) (gcK' n0 u h k)
def argsE : Nat → List Value → Env
  | _, [] => []
  | i, v :: r => (i, v) :: argsE (i + 1) r
noncomputable def bodyK (f : FCfg) (code : Code) (rs : List ResultVar) (args : List Value) (h : AHeap) (k : Value → AHeap → Prop) : Prop :=
  cond (Nat.ble args.length f.N && (match f.gc with | none => true | some b => Nat.ble h.length b)) (codeK f code (argsE 0 args) h fun x e h' => match x with
    | .normal => resK f.toCfg rs e h' fun vs => gcK h.length (oneU vs) h' k
    | .ret => resK f.toCfg rs e h' fun vs => gcK h.length (oneU vs) h' k
    | _ => False) False

theorem gc_sound {W0 : World} {φ φ' : Phi} {h h' : AHeap} {w w' : World} {u v' : Value} {k : Value → AHeap → Prop} (hk : gcK h.length u h' k) (hv : VR φ' u v') (S : Sim W0 φ' h' w') (E : Ext φ h w φ' h' w') :
    ∃ u2 h2 φ2, k u2 h2 ∧ VR φ2 u2 v' ∧ Sim W0 φ2 h2 w' ∧ Ext φ h w φ2 h2 w' := by
  unfold gcK at hk
  rw [frI_eq] at hk
  unfold gcK' at hk
  rw [frH_eq] at hk
  revert hk
  generalize reach 4000 h' (kidsH h.length h' ++ idsV u) (upto h.length 0) = ι
  intro hk
  obtain ⟨hc, hk⟩ := cond_prop hk
  simp only [Bool.and_eq_true] at hc
  obtain ⟨⟨hp, hc⟩, hu⟩ := hc
  obtain ⟨hlen, hpre⟩ := prefB_get hp
  have hget : ∀ i, i < h.length → ι[i]? = some i := fun i hi => by rw [hpre i hi, Nat.zero_add]
  have hPP : ∀ i, i < h.length → (pullP φ' ι)[i]? = φ'[i]? := fun i hi => by
    have hi' : i < φ'.length := by rw [S.len]; exact Nat.lt_of_lt_of_le hi E.len
    simp only [pullP, List.getElem?_map, hget i hi, Option.map_some, List.getD_eq_getElem?_getD, List.getElem?_eq_getElem hi', Option.getD_some]
  have hMM : ∀ i, i < h.length → movedB (pullH false h' ι) i = movedB h' i := fun i hi => by
    have hi' : i < h'.length := Nat.lt_of_lt_of_le hi E.len
    simp only [movedB, pullH, List.getElem?_map, hget i hi, Option.map_some, List.getD_eq_getElem?_getD, List.getElem?_eq_getElem hi', Option.getD_some, pullO, cond_false, rnO_movedB]
  refine ⟨_, _, pullP φ' ι, hk, VR_pull hu hv, S.pull false hc, ⟨by simpa [pullH] using hlen, E.size, fun i hi => ?_, fun i hi hm => ?_, fun t p h1 h2 => ?_, E.rest⟩⟩
  · rw [hPP i hi, hMM i hi]; exact E.place i hi
  · rw [hMM i hi]; exact E.moved i hi hm
  · obtain ⟨i, h3, h4⟩ := pullH_live hc h1
    obtain ⟨j, h6, h7⟩ := pullP_at S hc h2
    rw [h3] at h6; cases h6
    exact E.fresh i p h4 h7

theorem argsE_get : ∀ {l : List Value} {i k : Nat} {v : Value}, eget (argsE i l) k = some v → i ≤ k ∧ k - i < l.length ∧ l[k - i]? = some v
  | [], _, _, _, h => by cases h
  | x :: r, i, k, v, h => by
    simp only [argsE, eget] at h
    by_cases e : i = k
    · subst e
      simp only [Nat.beq_refl, cond_true] at h
      cases h
      simp
    · rw [beq_ne e, cond_false] at h
      obtain ⟨h1, h2, h3⟩ := argsE_get h
      have : k - i = (k - (i + 1)) + 1 := by omega
      rw [this]
      exact ⟨by omega, by simpa using h2, by simpa using h3⟩

theorem argsE_sound {φ : Phi} {args : List Value} {args' : Array Value} {N : Nat} (hv : VRL φ args args'.toList) (hn : args.length ≤ N) :
    EnvR N φ (argsE 0 args) { tmps := args' ++ Array.replicate (N - args'.size) undef, defers := [] } := by
  have hl : args'.size = args.length := by have := VRL_length hv; simpa using this
  refine ⟨by simp; omega, rfl, fun k v h => ?_⟩
  obtain ⟨_, h1, h2⟩ := argsE_get h
  rw [Nat.sub_zero] at h1 h2
  obtain ⟨v', h3, h4⟩ := VRL_get hv h2
  refine ⟨by omega, ?_⟩
  have : (args' ++ Array.replicate (N - args'.size) undef).getD k undef = v' := by
    rw [Array.getD_eq_getD_getElem?, Array.getElem?_append_left (by omega)]
    rw [Array.getElem?_toList] at h3
    rw [h3]; rfl
  rw [this]; exact h4

theorem resK_sound {W0 : World} {c : Cfg} (hG : GOk c.G W0) {N : Nat} {φ : Phi} {e : Env} {h : AHeap} {a : Act} {w : World} (E : EnvR N φ e a) (S : Sim W0 φ h w) :
    ∀ {l : List ResultVar} {k : List Value → Prop}, resK c l e h k → ∃ us vs, k us ∧ VRL φ us vs ∧
      (l.mapM (m := Sem) fun | .tmp t => pure (a.tmps.getD t undef) | .cell x t => do loadVar t (← asAddr (a.tmps.getD x undef))).run c.P w = .ok vs w
  | [], k, hk => ⟨[], [], hk, rfl, rfl⟩
  | .tmp t :: r, k, hk => by
    simp only [resK] at hk
    split at hk
    · rename_i v hv
      obtain ⟨us, vs, h1, h2, h3⟩ := resK_sound hG E S hk
      refine ⟨v :: us, a.tmps.getD t undef :: vs, h1, ⟨_, _, rfl, (E.get _ _ hv).2, h2⟩, ?_⟩
      rw [List.mapM_cons]
      simp only [run_bind, run_pure, h3]
    · exact hk.elim
  | .cell x t :: r, k, hk => by
    simp only [resK] at hk
    split at hk
    · rename_i ad had
      have hr := (E.get _ _ had).2
      obtain ⟨u, v, b, h1, h2, _, h3⟩ := load_sound S hG hk hr
      obtain ⟨us, vs, g1, g2, g3⟩ := resK_sound hG E S h1
      refine ⟨u :: us, v :: vs, g1, ⟨_, _, rfl, h2, g2⟩, ?_⟩
      have h4 := h3 w rfl
      rw [List.mapM_cons]
      have : ((do loadVar t (← asAddr (a.tmps.getD x undef))) : Sem Value).run c.P w = .ok v w := by
        revert h4
        cases a.tmps.getD x undef with
        | pointer p => cases p with
          | none => intro h4; simp [Instr.loadAt, Instr.sureAddr] at h4
          | some p => intro h4; simpa only [Instr.loadAt, Instr.sureAddr, asAddr, run_bind, run_pure] using h4
        | _ => intro h4; simp [Instr.loadAt, Instr.sureAddr] at h4
      simp only [run_bind, this, run_pure, g3]
    · exact hk.elim

theorem fn_sound {W0 : World} {f : FCfg} (hm : f.P.follows .mixedOrders = true) (hG : GOk f.G W0) (hC : SoundC f.toCfg W0) {fid : FuncId} {fn : Func} {code : Code} (hf : f.P.funcs[fid]? = some fn) (hb : fn.body = some code)
    (hN : f.N = fn.ntmps) {h : AHeap} (hl : LoopsOk W0 f h.length code) {args : List Value} {K : Value → AHeap → Prop} (hk : bodyK f code fn.results.toList args h K) : SoundCall W0 f.P fid args h K := by
  intro φ w args' S hv
  unfold bodyK at hk
  obtain ⟨hn, hk⟩ := cond_prop hk
  simp only [Bool.and_eq_true] at hn
  obtain ⟨hn, hg⟩ := hn
  have hgc : ∀ b, f.gc = some b → h.length ≤ b := fun b hb => by rw [hb] at hg; exact Nat.le_of_ble_eq_true hg
  have hn := Nat.le_of_ble_eq_true hn
  have E := argsE_sound hv hn
  rw [hN] at E
  have E' : EnvR f.N φ (argsE 0 args) { tmps := args' ++ Array.replicate (fn.ntmps - args'.size) undef, defers := [] } := by rw [hN]; exact E
  have fin : ∀ {e : Env} {h' : AHeap} {φ' : Phi} {a : Act} {w' : World}, (resK f.toCfg fn.results.toList e h' fun vs => gcK h.length (oneU vs) h' K) → EnvR f.N φ' e a → Sim W0 φ' h' w' → Ext φ h w φ' h' w' →
      a.defers = [] ∧ ∃ v, (results fn a.tmps).run f.P w' = .ok v w' ∧ ∃ v' u h2 φ2, Ending.returned v = .returned v' ∧ K u h2 ∧ VR φ2 u v' ∧ Sim W0 φ2 h2 w' ∧ Ext φ h w φ2 h2 w' := by
    intro e h' φ' a w' hk E S X
    obtain ⟨us, vs, h1, h2, h3⟩ := resK_sound hG E S hk
    have hvu : VR φ' (oneU us) (if h : vs.length = 1 then vs[0] else .tuple ⟨vs⟩) := by
      match us, vs, h2 with
      | [], vs, h2 => simp only [VRL] at h2; subst h2; exact ⟨_, rfl, rfl⟩
      | [x], vs, h2 => obtain ⟨v, vs', rfl, a1, a2⟩ := h2; simp only [VRL] at a2; subst a2; exact a1
      | x :: y :: r, vs, h2 =>
        have h2' := h2
        obtain ⟨v, vs', rfl, a1, v2, vs2, rfl, a2, a3⟩ := h2
        have : ¬ (v :: v2 :: vs2).length = 1 := by simp
        rw [dif_neg this]
        exact ⟨_, rfl, h2'⟩
    obtain ⟨u2, h2', φ2, b1, b2, b3, b4⟩ := gc_sound h1 hvu S X
    refine ⟨E.defers, _, ?_, _, u2, h2', φ2, rfl, b1, b2, b3, b4⟩
    unfold results
    rw [Array.mapM_eq_mapM_toList]
    rw [map_eq_pure_bind, bind_assoc]
    simp only [pure_bind]
    rw [run_bind]
    erw [h3]
    by_cases hl : vs.length = 1 <;> simp [hl, run_pure]
  refine calls_of_wp hf hb (wp_mono (codeK_sound hm hG hC hgc code hl _ _ _ hk φ _ w E' S (Nat.le_refl _)) fun ex a' w' hp => ?_)
  cases ex with
  | normal => obtain ⟨e', h', φ', h1, h2, h3, h4⟩ := hp; exact fin h1 h2 h3 h4.toExt
  | ret => obtain ⟨e', h', φ', h1, h2, h3, h4⟩ := hp; exact fin h1 h2 h3 h4.toExt
  | exit id => obtain ⟨e', h', φ', h1, h2, h3, h4⟩ := hp; exact h1.elim
  | panic ch => obtain ⟨v, v', e', h', φ', h1, h2, h3, h4, h5⟩ := hp; exact h2.elim
  | goto l => exact hp.elim
  | outgrown => exact hp.elim

/-! ### tables of summaries -/
abbrev Spec := List Value → AHeap → (Value → AHeap → Prop) → Prop
def tabC : List (Nat × Spec) → Nat → Spec
  | [], _ => fun _ _ _ => False
  | (i, s) :: r, f => fun args h K => cond (Nat.beq i f) (s args h K) (tabC r f args h K)
/-- The summary holds of the function, whatever world the law begins in. -/
def SpecOk (P : Program) (G : Nat → Option (List Value)) (fid : Nat) (s : Spec) : Prop :=
  ∀ W0 : World, GOk G W0 → ∀ args h K, s args h K → SoundCall W0 P fid args h K
def AllOk (P : Program) (G : Nat → Option (List Value)) : List (Nat × Spec) → Prop
  | [] => True
  | (i, s) :: r => SpecOk P G i s ∧ AllOk P G r
theorem tabC_sound {P : Program} {G : Nat → Option (List Value)} {W0 : World} (hG : GOk G W0) : ∀ {l : List (Nat × Spec)}, AllOk P G l → ∀ f args h K, tabC l f args h K → SoundCall W0 P f args h K
  | [], _, _, _, _, _, hk => hk.elim
  | (i, s) :: r, ha, f, args, h, K, hk => by
    simp only [tabC] at hk
    by_cases e : i = f
    · subst e
      simp only [Nat.beq_refl, cond_true] at hk
      exact ha.1 W0 hG args h K hk
    · rw [beq_ne e, cond_false] at hk
      exact tabC_sound hG ha.2 f args h K hk

/-- A function's configuration. -/
noncomputable def mkF (P : Program) (G : Nat → Option (List Value)) (tbl : List (Nat × Spec)) (N : Nat) (held : Nat → Bool) (loops : Nat → Option (Env → AHeap → (AExit → Env → AHeap → Prop) → Prop)) (keep : List Nat) (fuel : Nat) (sl : List Nat) : FCfg :=
  { shut := fun d => cond (memB d sl) 1 0, P := P, G := G, C := tabC tbl, N := N, held := held, loops := loops, keep := fun _ => keep, live := fun _ => keep, out := fun _ => keep, fuel := fuel, gc := none }

theorem spec_of_body {P : Program} {G : Nat → Option (List Value)} {tbl : List (Nat × Spec)} (hm : P.follows .mixedOrders = true) (ht : AllOk P G tbl) {fid : Nat} {fn : Func} {code : Code} (hf : P.funcs[fid]? = some fn) (hb : fn.body = some code)
    {N : Nat} {held : Nat → Bool} {loops : Nat → Option (Env → AHeap → (AExit → Env → AHeap → Prop) → Prop)} {keep : List Nat} {fuel : Nat} {sl : List Nat} (hN : N = fn.ntmps)
    (hl : ∀ W0 n0, GOk G W0 → LoopsOk W0 (mkF P G tbl N held loops keep fuel sl) n0 code) {s : Spec} (hs : ∀ args h K, s args h K → bodyK (mkF P G tbl N held loops keep fuel sl) code fn.results.toList args h K) : SpecOk P G fid s :=
  fun W0 hG args h K hk => fn_sound (f := mkF P G tbl N held loops keep fuel sl) hm hG (fun _ _ _ _ hk => tabC_sound hG ht _ _ _ _ hk) hf hb hN (hl W0 h.length hG) (hs args h K hk)
attribute [irreducible] bodyK
end Go.Am
