/-
  The abstract machine, part 15: code, loops, functions. Own work; plain definitions and lemmas.
-/
import Derived.Test.YtjbagcmcpmhfnaaDoorAm14
import Derived.Deep.LoopGhost
namespace Go.Am
open Go

/-- As 'Ext', of the first n0 blocks alone: the others may be numbered anew. -/
structure ExtB (n0 : Nat) (φ : Phi) (h : AHeap) (w : World) (φ' : Phi) (h' : AHeap) (w' : World) : Prop where
  len : n0 ≤ h'.length
  size : w.heap.size ≤ w'.heap.size
  place : ∀ i, i < n0 → φ'[i]? = φ[i]? ∨ movedB h' i = true
  moved : ∀ i, i < n0 → movedB h i = true → movedB h' i = true
  fresh : ∀ (i : Nat) (p : PB), liveB h' i = true → φ'[i]? = some p → w.heap.size ≤ p.b ∨ ∃ (j : Nat) (q : PB), liveB h j = true ∧ φ[j]? = some q ∧ p.b = q.b
  rest : ∀ n, n < w.heap.size → (∀ (i : Nat) (p : PB), liveB h i = true → φ[i]? = some p → p.b ≠ n) → w'.heap[n]? = w.heap[n]?
theorem Ext.toB {n0 : Nat} {φ φ' : Phi} {h h' : AHeap} {w w' : World} (a : Ext φ h w φ' h' w') (hn : n0 ≤ h.length) : ExtB n0 φ h w φ' h' w' :=
  ⟨Nat.le_trans hn a.len, a.size, fun i hi => a.place i (by omega), fun i hi => a.moved i (by omega), a.fresh, a.rest⟩
theorem ExtB.refl {n0 : Nat} (φ : Phi) {h : AHeap} (w : World) (hn : n0 ≤ h.length) : ExtB n0 φ h w φ h w := (Ext.refl φ h w).toB hn
theorem ExtB.toExt {φ φ' : Phi} {h h' : AHeap} {w w' : World} (a : ExtB h.length φ h w φ' h' w') : Ext φ h w φ' h' w' := ⟨a.len, a.size, a.place, a.moved, a.fresh, a.rest⟩
theorem ExtB.trans {n0 : Nat} {φ φ' φ'' : Phi} {h h' h'' : AHeap} {w w' w'' : World} (a : ExtB n0 φ h w φ' h' w') (b : ExtB n0 φ' h' w' φ'' h'' w'') : ExtB n0 φ h w φ'' h'' w'' where
  len := b.len
  size := Nat.le_trans a.size b.size
  place i hi := by
    rcases a.place i hi with h1 | h1
    · rcases b.place i hi with h2 | h2
      · exact .inl (h2.trans h1)
      · exact .inr h2
    · exact .inr (b.moved i hi h1)
  moved i hi hm := b.moved i hi (a.moved i hi hm)
  fresh i p h1 h2 := by
    rcases b.fresh i p h1 h2 with h3 | ⟨j, q, h3, h4, h5⟩
    · exact .inl (Nat.le_trans a.size h3)
    · rcases a.fresh j q h3 h4 with h6 | ⟨k, r, h6, h7, h8⟩
      · exact .inl (by rw [h5]; exact h6)
      · exact .inr ⟨k, r, h6, h7, h5.trans h8⟩
  rest n hn hne := by
    have h1 := a.rest n hn hne
    have h2 := b.rest n (Nat.lt_of_lt_of_le hn a.size) (fun i p hl hp => by
      rcases a.fresh i p hl hp with h3 | ⟨j, q, h3, h4, h5⟩
      · omega
      · rw [h5]; exact hne j q h3 h4)
    exact h2.trans h1

def upto : Nat → Nat → List Nat
  | 0, _ => []
  | n + 1, s => s :: upto n (s + 1)
/-- The first n blocks keep their numbers. -/
def prefB : Nat → List Nat → Nat → Bool
  | 0, _, _ => true
  | n + 1, i :: r, s => Nat.beq i s && prefB n r (s + 1)
  | _ + 1, [], _ => false
def kidsH : Nat → AHeap → List Nat
  | 0, _ => []
  | _ + 1, [] => []
  | n + 1, o :: r => idsO o ++ kidsH n r
theorem prefB_get : ∀ {n : Nat} {ι : List Nat} {s : Nat}, prefB n ι s = true → n ≤ ι.length ∧ ∀ i, i < n → ι[i]? = some (s + i)
  | 0, _, _, _ => ⟨Nat.zero_le _, fun i hi => by omega⟩
  | n + 1, [], _, h => by cases h
  | n + 1, j :: r, s, h => by
    simp only [prefB, Bool.and_eq_true] at h
    have e : j = s := Nat.eq_of_beq_eq_true h.1
    subst e
    obtain ⟨h1, h2⟩ := prefB_get h.2
    refine ⟨by simp; omega, fun i hi => ?_⟩
    cases i with
    | zero => rfl
    | succ i =>
      rw [List.getElem?_cons_succ, h2 i (by omega)]
      congr 1; omega


/-- What the slots that are kept reach, and the first blocks with what they reach, are kept and numbered anew. -/
def idsE : Env → List Nat
  | [] => []
  | (_, v) :: r => idsV v ++ idsE r
def idsEB (q : Nat → Bool) : Env → Bool
  | [] => true
  | (_, v) :: r => idsB q v && idsEB q r
def rnE (m : Nat → Nat) : Env → Env
  | [] => []
  | (k, v) :: r => (k, rn m v) :: rnE m r
def gcE' (n0 : Nat) (e : Env) (h : AHeap) (k : Env → AHeap → Prop) (ι : List Nat) : Prop :=
  cond (prefB n0 ι 0 && closedB h ι && idsEB (fun j => memB j ι) e) (frH (pullH false h ι) fun h => k (rnE (findI ι) e) h) False
def gcE (g : Option Nat) (e : Env) (h : AHeap) (k : Env → AHeap → Prop) : Prop := match g with
  | none => k e h
  | some n0 => frI (reach 4000 h (kidsH n0 h ++ idsE e) (upto n0 0)) (gcE' n0 e h k)
theorem eget_rnE (m : Nat → Nat) : ∀ (e : Env) (k : Nat), eget (rnE m e) k = (eget e k).map (rn m)
  | [], _ => rfl
  | (j, v) :: r, k => by
    simp only [rnE, eget]
    cases Nat.beq j k
    · exact eget_rnE m r k
    · rfl
theorem idsEB_get {q : Nat → Bool} : ∀ {e : Env} {k : Nat} {v : Value}, idsEB q e = true → eget e k = some v → idsB q v = true
  | [], _, _, _, h => by cases h
  | (j, u) :: r, k, v, hq, h => by
    simp only [idsEB, Bool.and_eq_true] at hq
    simp only [eget] at h
    cases hj : Nat.beq j k with
    | true => rw [hj, cond_true] at h; cases h; exact hq.1
    | false => rw [hj, cond_false] at h; exact idsEB_get hq.2 h

structure FCfg extends Cfg where
  held : Nat → Bool
  loops : Nat → Option (Env → AHeap → (AExit → Env → AHeap → Prop) → Prop)
  keep : Nat → List Nat
  live : Nat → List Nat
  out : Nat → List Nat
  fuel : Nat
  gc : Option Nat

def keepE : List Nat → Env → Env
  | [], _ => []
  | k :: r, e => match eget e k with
    | some v => (k, v) :: keepE r e
    | none => keepE r e
def litE (e : Env) (t : Operand) (b : Bool) : Env := match t with | .tmp d => eset e d (.bool b) | _ => e

def firstReg : Code → Nat
  | .region id _ _ => id
  | .seq a _ => firstReg a
  | .block _ a => firstReg a
  | .loop a => firstReg a
  | _ => 0

def loopK (g : Option Nat) (live out : List Nat) (body : Env → AHeap → (AExit → Env → AHeap → Prop) → Prop) : Nat → Env → AHeap → (AExit → Env → AHeap → Prop) → Prop
  | 0, _, _, _ => False
  | n + 1, e, h, k => gcE g (keepE live e) h fun e h => body e h fun x e h => match x with
    | .normal => loopK g live out body n e h k
    | .exit i => gcE g (keepE out e) h (k (.exit i))
    | .ret => gcE g (keepE out e) h (k .ret)
    | .panic v => k (.panic v) e h

theorem loopK_succ (g : Option Nat) (live out : List Nat) (body : Env → AHeap → (AExit → Env → AHeap → Prop) → Prop) (n : Nat) (e : Env) (h : AHeap) (k : AExit → Env → AHeap → Prop) :
    loopK g live out body (n + 1) e h k = gcE g (keepE live e) h (fun e h => body e h (fun x e h => match x with
      | .normal => loopK g live out body n e h k
      | .exit i => gcE g (keepE out e) h (k (.exit i))
      | .ret => gcE g (keepE out e) h (k .ret)
      | .panic v => k (.panic v) e h)) := rfl

noncomputable def codeK (f : FCfg) : Code → Env → AHeap → (AExit → Env → AHeap → Prop) → Prop
  | .skip, e, h, k => k .normal e h
  | .region id ops draw, e, h, k => match draw with
    | false => seqK f.toCfg ops (fun e h => k .normal (keepE (f.keep id) e) h) (fun v e h => k (.panic v) e h) ops.toList e h
    | true => cond (Region.noSelect ops) (anyK f.toCfg (f.held id) h.length ops (fun e h => k .normal (keepE (f.keep id) e) h) ops.size (Array.replicate ops.size false) e h) False
  | .seq a b, e, h, k => codeK f a e h fun x e h => match x with
    | .normal => codeK f b e h k
    | .exit i => k (.exit i) e h
    | .ret => k .ret e h
    | .panic v => k (.panic v) e h
  | .cond t a b, e, h, k => evK e t fun v => match v with
    | .bool v => cond v (codeK f a (litE e t true) h k) (codeK f b (litE e t false) h k)
    | _ => False
  | .block id a, e, h, k => codeK f a e h fun x e h => match x with
    | .normal => k .normal e h
    | .exit i => cond (Nat.beq i id) (k .normal e h) (k (.exit i) e h)
    | .ret => k .ret e h
    | .panic v => k (.panic v) e h
  | .loop a, e, h, k => match f.loops (firstReg a) with
    | some T => gcE f.gc (keepE (f.live (firstReg a)) e) h fun e h => T e h k
    | none => loopK f.gc (f.live (firstReg a)) (f.out (firstReg a)) (codeK f a) f.fuel e h k
  | .exit id, e, h, k => k (.exit id) e h
  | .ret, e, h, k => k .ret e h
  | .label _, e, h, k => k .normal e h
  | _, _, _, _ => False

/-- What the end of a piece of code bears. -/
def CPost (W0 : World) (N n0 : Nat) (φ : Phi) (h : AHeap) (w : World) (k : AExit → Env → AHeap → Prop) : Exit → Act → World → Prop := fun ex a' w' =>
  match ex with
  | .normal => ∃ e' h' φ', k .normal e' h' ∧ EnvR N φ' e' a' ∧ Sim W0 φ' h' w' ∧ ExtB n0 φ h w φ' h' w'
  | .exit id => ∃ e' h' φ', k (.exit id) e' h' ∧ EnvR N φ' e' a' ∧ Sim W0 φ' h' w' ∧ ExtB n0 φ h w φ' h' w'
  | .ret => ∃ e' h' φ', k .ret e' h' ∧ EnvR N φ' e' a' ∧ Sim W0 φ' h' w' ∧ ExtB n0 φ h w φ' h' w'
  | .panic ch => ∃ v v' e' h' φ', ch = [{ v := v', recovered := false }] ∧ k (.panic v) e' h' ∧ VR φ' v v' ∧ Sim W0 φ' h' w' ∧ ExtB n0 φ h w φ' h' w'
  | _ => False

/-- The code runs from the abstract state to k. -/
def Wp (W0 : World) (c : Cfg) (n0 : Nat) (code : Code) (e : Env) (h : AHeap) (k : AExit → Env → AHeap → Prop) : Prop :=
  ∀ (φ : Phi) (a : Act) (w : World), EnvR c.N φ e a → Sim W0 φ h w → n0 ≤ h.length → code.wp c.P (CPost W0 c.N n0 φ h w k) a w

theorem CPost.mono {W0 : World} {N n0 : Nat} {φ φ0 : Phi} {h h0 : AHeap} {w w0 : World} {k k' : AExit → Env → AHeap → Prop} (X : ExtB n0 φ0 h0 w0 φ h w) (hk : ∀ x e h, k x e h → k' x e h) {ex : Exit} {a' : Act} {w' : World}
    (hp : CPost W0 N n0 φ h w k ex a' w') : CPost W0 N n0 φ0 h0 w0 k' ex a' w' := by
  cases ex with
  | normal => obtain ⟨e', h', φ', h1, h2, h3, h4⟩ := hp; exact ⟨e', h', φ', hk _ _ _ h1, h2, h3, X.trans h4⟩
  | exit id => obtain ⟨e', h', φ', h1, h2, h3, h4⟩ := hp; exact ⟨e', h', φ', hk _ _ _ h1, h2, h3, X.trans h4⟩
  | ret => obtain ⟨e', h', φ', h1, h2, h3, h4⟩ := hp; exact ⟨e', h', φ', hk _ _ _ h1, h2, h3, X.trans h4⟩
  | panic ch => obtain ⟨v, v', e', h', φ', h1, h2, h3, h4, h5⟩ := hp; exact ⟨v, v', e', h', φ', h1, hk _ _ _ h2, h3, h4, X.trans h5⟩
  | _ => exact hp.elim

/-- Numbered anew, the state stands for the same world. -/
theorem gcE_sound {W0 : World} {N n0 : Nat} {g : Option Nat} (hg : ∀ b, g = some b → n0 ≤ b) {φ : Phi} {e : Env} {h : AHeap} {a : Act} {w : World} {k : Env → AHeap → Prop} (hk : gcE g e h k) (E : EnvR N φ e a) (S : Sim W0 φ h w) (hn : n0 ≤ h.length) :
    ∃ e' h' φ', k e' h' ∧ EnvR N φ' e' a ∧ Sim W0 φ' h' w ∧ ExtB n0 φ h w φ' h' w := by
  cases g with
  | none => exact ⟨e, h, φ, hk, E, S, ExtB.refl φ w hn⟩
  | some b =>
    have hb := hg b rfl
    simp only [gcE, frI_eq, gcE', frH_eq] at hk
    revert hk
    generalize reach 4000 h (kidsH b h ++ idsE e) (upto b 0) = ι
    intro hk
    obtain ⟨hc, hk⟩ := cond_prop hk
    simp only [Bool.and_eq_true] at hc
    obtain ⟨⟨hp, hc⟩, hu⟩ := hc
    obtain ⟨hlen, hpre⟩ := prefB_get hp
    have hget : ∀ i, i < n0 → ι[i]? = some i := fun i hi => by rw [hpre i (by omega), Nat.zero_add]
    refine ⟨_, _, pullP φ ι, hk, ⟨E.size, E.defers, fun j v hv => ?_⟩, S.pull false hc, ⟨by simp [pullH]; omega, Nat.le_refl _, fun i hi => .inl ?_, fun i hi hm => ?_, fun t p h1 h2 => ?_, fun _ _ _ => rfl⟩⟩
    · rw [eget_rnE] at hv
      cases hv' : eget e j with
      | none => rw [hv'] at hv; cases hv
      | some u =>
        rw [hv'] at hv; cases hv
        exact ⟨(E.get j u hv').1, VR_pull (idsEB_get hu hv') (E.get j u hv').2⟩
    · have hi' : i < φ.length := by rw [S.len]; omega
      simp only [pullP, List.getElem?_map, hget i hi, Option.map_some, List.getD_eq_getElem?_getD, List.getElem?_eq_getElem hi', Option.getD_some]
    · have hi' : i < h.length := by omega
      simp only [movedB, List.getElem?_eq_getElem hi'] at hm
      simp only [movedB, pullH, List.getElem?_map, hget i hi, Option.map_some, List.getD_eq_getElem?_getD, List.getElem?_eq_getElem hi', Option.getD_some, pullO, cond_false, rnO_movedB]
      exact hm
    · obtain ⟨i, h3, h4⟩ := pullH_live hc h1
      obtain ⟨j, h6, h7⟩ := pullP_at S hc h2
      rw [h3] at h6; cases h6
      exact .inr ⟨i, p, h4, h7, rfl⟩

theorem eget_keepE : ∀ (l : List Nat) (e : Env) (k : Nat) (v : Value), eget (keepE l e) k = some v → eget e k = some v
  | [], _, _, _, h => by cases h
  | j :: r, e, k, v, h => by
    simp only [keepE] at h
    split at h
    · rename_i u hu
      simp only [eget] at h
      by_cases hj : j = k
      · subst hj
        simp only [Nat.beq_refl, cond_true] at h
        cases h; exact hu
      · rw [beq_ne hj, cond_false] at h
        exact eget_keepE r e k v h
    · exact eget_keepE r e k v h
theorem EnvR.keep {N : Nat} {φ : Phi} {e : Env} {a : Act} (E : EnvR N φ e a) (l : List Nat) : EnvR N φ (keepE l e) a :=
  ⟨E.size, E.defers, fun k v hv => E.get k v (eget_keepE l e k v hv)⟩
theorem EnvR.lits {N : Nat} {φ : Phi} {e : Env} {a : Act} (E : EnvR N φ e a) {t : Operand} {b : Bool} (hb : ev e t = some (.bool b)) : EnvR N φ (litE e t b) a := by
  cases t with
  | tmp d => exact E.lit hb
  | _ => exact E

section
variable {W0 : World} {f : FCfg} {n0 : Nat} (hm : f.P.follows .mixedOrders = true) (hG : GOk f.G W0) (hC : SoundC f.toCfg W0) (hgc : ∀ b, f.gc = some b → n0 ≤ b)

/-- The summaries of the loops hold. -/
def LoopsOk (W0 : World) (f : FCfg) (n0 : Nat) : Code → Prop
  | .seq a b => LoopsOk W0 f n0 a ∧ LoopsOk W0 f n0 b
  | .cond _ a b => LoopsOk W0 f n0 a ∧ LoopsOk W0 f n0 b
  | .block _ a => LoopsOk W0 f n0 a
  | .loop a => LoopsOk W0 f n0 a ∧ ∀ T, f.loops (firstReg a) = some T → ∀ e h k, T e h k → Wp W0 f.toCfg n0 (.loop a) e h k
  | _ => True

theorem loopsOk_none (hl : ∀ i, f.loops i = none) : ∀ code, LoopsOk W0 f n0 code
  | .seq a b => ⟨loopsOk_none hl a, loopsOk_none hl b⟩
  | .cond _ a b => ⟨loopsOk_none hl a, loopsOk_none hl b⟩
  | .block _ a => loopsOk_none hl a
  | .loop a => ⟨loopsOk_none hl a, fun T h => by rw [hl] at h; cases h⟩
  | .skip => trivial
  | .region _ _ _ => trivial
  | .rangeFunc _ _ _ _ => trivial
  | .exit _ => trivial
  | .scope _ => trivial
  | .label _ => trivial
  | .goto _ => trivial
  | .ret => trivial
  | .refuse _ => trivial

include hm hG hC hgc

theorem codeK_sound : ∀ (code : Code), LoopsOk W0 f n0 code → ∀ (e : Env) (h : AHeap) (k : AExit → Env → AHeap → Prop), codeK f code e h k → Wp W0 f.toCfg n0 code e h k
  | .skip, _, e, h, k, hk => fun φ a w E S hn => wp_skip ⟨e, h, φ, hk, E, S, ExtB.refl _ _ hn⟩
  | .label _, _, e, h, k, hk => fun φ a w E S hn => wp_label ⟨e, h, φ, hk, E, S, ExtB.refl _ _ hn⟩
  | .exit _, _, e, h, k, hk => fun φ a w E S hn => wp_exit ⟨e, h, φ, hk, E, S, ExtB.refl _ _ hn⟩
  | .ret, _, e, h, k, hk => fun φ a w E S hn => wp_ret ⟨e, h, φ, hk, E, S, ExtB.refl _ _ hn⟩
  | .region id ops draw, _, e, h, k, hk => fun φ a w E S hn => by
    cases draw with
    | false =>
      refine wp_region ?_
      rw [List.range_eq_range', ← Array.length_toList]
      exact seqK_sound hG hC ops.toList 0 (by simp) E S hk (fun e' h' φ' a' w' h1 h2 h3 h4 => ⟨_, h', φ', h1, h2.keep _, h3, h4.toB hn⟩) (fun v v' e' h' φ' a' w' h1 h2 _ h3 h4 => ⟨v, v', e', h', φ', rfl, h1, h2, h3, h4.toB hn⟩)
    | true =>
      obtain ⟨hs, hk⟩ := cond_prop hk
      have S' : Sim W0 φ h { w with drawn := w.drawn + 1 } := ⟨S.os, S.tape, S.out, S.size, S.old, S.len, fun i o p h1 h2 => (S.blk i o p h1 h2).congr rfl, S.inj⟩
      refine wp_region_held (S := fun w2 => f.held id = true → Agree { w with drawn := w.drawn + 1 } w2) hm (anyK_sound hG hC hs (fun c a a' w hq => hq) { w with drawn := w.drawn + 1 } S.size _ _ E S' (Nat.le_refl _)
        (fun _ => ⟨fun _ _ => rfl, Nat.le_refl _, fun i o p _ ho hp hne => ?_⟩) hk
        (fun e' h' φ' a' w' h1 h2 h3 h4 => ⟨_, h', φ', h1, h2.keep _, h3, ⟨Nat.le_trans hn h4.len, h4.size, fun i hi => h4.place i (by omega), fun i hi => h4.moved i (by omega), h4.fresh, h4.rest⟩⟩))
      have hb := S'.blk i o p ho hp
      cases o with
      | dead => exact absurd rfl hne
      | ro vs t => exact Nat.lt_of_lt_of_le hb.1 S'.size
      | cells => exact hb.there rfl
      | map => exact hb.there rfl
      | siter => exact hb.there rfl
  | .seq x y, hl, e, h, k, hk => fun φ a w E S hn => by
    refine wp_seq (wp_mono (codeK_sound x hl.1 e h _ hk φ a w E S hn) fun ex a' w' hp => ?_)
    cases ex with
    | normal =>
      obtain ⟨e', h', φ', h1, h2, h3, h4⟩ := hp
      exact wp_mono (codeK_sound y hl.2 e' h' k h1 φ' a' w' h2 h3 h4.len) fun ex a w hq => CPost.mono h4 (fun _ _ _ h => h) hq
    | exit id => exact hp
    | ret => exact hp
    | panic ch => obtain ⟨v, v', e', h', φ', h1, h2, h3, h4, h5⟩ := hp; exact ⟨v, v', e', h', φ', h1, h2, h3, h4, h5⟩
    | goto l => exact hp
    | outgrown => exact hp
  | .cond t x y, hl, e, h, k, hk => fun φ a w E S hn => by
    obtain ⟨v, h1, h2⟩ := evK_spec hk
    have hv := ev_sound E h1
    split at h2
    · rename_i b
      have e1 : a.eval t = .bool b := by simpa [VR] using hv
      cases b with
      | true => exact wp_cond_true e1 (codeK_sound x hl.1 _ h k h2 φ a w (E.lits h1) S hn)
      | false => exact wp_cond_false e1 (codeK_sound y hl.2 _ h k h2 φ a w (E.lits h1) S hn)
    · exact h2.elim
  | .block id x, hl, e, h, k, hk => fun φ a w E S hn => by
    refine wp_block (wp_mono (codeK_sound x hl e h _ hk φ a w E S hn) fun ex a' w' hp => ?_)
    cases ex with
    | normal => exact hp
    | exit i =>
      obtain ⟨e', h', φ', h1, h2, h3, h4⟩ := hp
      simp only [Exit.inBlock]
      by_cases hi : i = id
      · subst hi
        rw [if_pos rfl]
        simp only [Nat.beq_refl, cond_true] at h1
        exact ⟨e', h', φ', h1, h2, h3, h4⟩
      · rw [if_neg hi]
        simp only [beq_ne hi, cond_false] at h1
        exact ⟨e', h', φ', h1, h2, h3, h4⟩
    | ret => exact hp
    | panic ch => obtain ⟨v, v', e', h', φ', h1, h2, h3, h4, h5⟩ := hp; exact ⟨v, v', e', h', φ', h1, h2, h3, h4, h5⟩
    | goto l => exact hp.elim
    | outgrown => exact hp.elim
  | .loop x, hl, e, h, k, hk => by
    simp only [codeK] at hk
    split at hk
    · rename_i T hT
      intro φ a w E S hn
      obtain ⟨e', h', φ', h1, h2, h3, h4⟩ := gcE_sound hgc hk (E.keep _) S hn
      exact wp_mono (hl.2 T hT e' h' k h1 φ' a w h2 h3 h4.len) fun ex a w hq => CPost.mono h4 (fun _ _ _ h => h) hq
    · intro φ a w E S hn
      refine wp_loop_ghost (fun n a' w' => ∃ e' h' φ', loopK f.gc (f.live (firstReg x)) (f.out (firstReg x)) (codeK f x) n e' h' k ∧ EnvR f.N φ' e' a' ∧ Sim W0 φ' h' w' ∧ ExtB n0 φ h w φ' h' w') f.fuel ⟨e, h, φ, hk, E, S, ExtB.refl _ _ hn⟩ ?_
      rintro n a' w' ⟨e', h', φ', h1, h2, h3, h4⟩
      cases n with
      | zero => exact h1.elim
      | succ n =>
        obtain ⟨eg, hg, φg, g1, g2, g3, g4⟩ := gcE_sound hgc h1 (h2.keep _) h3 h4.len
        refine wp_mono (codeK_sound x hl.1 _ hg _ g1 φg a' w' g2 g3 g4.len) fun ex a2 w2 hp => ?_
        have X := h4.trans g4
        cases ex with
        | normal => obtain ⟨e2, h2, φ2, g1, g2, g3, g4⟩ := hp; exact ⟨n, Nat.lt_succ_self _, e2, h2, φ2, g1, g2, g3, X.trans g4⟩
        | exit id =>
          obtain ⟨e2, h2, φ2, g1, g2, g3, g4⟩ := hp
          obtain ⟨e3, h3, φ3, k1, k2, k3, k4⟩ := gcE_sound hgc g1 (g2.keep _) g3 g4.len
          exact ⟨e3, h3, φ3, k1, k2, k3, (X.trans g4).trans k4⟩
        | ret =>
          obtain ⟨e2, h2, φ2, g1, g2, g3, g4⟩ := hp
          obtain ⟨e3, h3, φ3, k1, k2, k3, k4⟩ := gcE_sound hgc g1 (g2.keep _) g3 g4.len
          exact ⟨e3, h3, φ3, k1, k2, k3, (X.trans g4).trans k4⟩
        | panic ch => obtain ⟨v, v', e2, h2, φ2, g1, g2, g3, g4, g5⟩ := hp; exact ⟨v, v', e2, h2, φ2, g1, g2, g3, g4, X.trans g5⟩
        | goto l => exact hp.elim
        | outgrown => exact hp.elim
  | .rangeFunc _ _ _ _, _, _, _, _, hk => hk.elim
  | .scope _, _, _, _, _, hk => hk.elim
  | .goto _, _, _, _, _, hk => hk.elim
  | .refuse _, _, _, _, _, hk => hk.elim

/-- A loop by rounds, where a number of rounds is given. -/
theorem Wp.rounds {body : Code} (hl : LoopsOk W0 f n0 body) (live out : List Nat) : ∀ (n : Nat) {e : Env} {h : AHeap} {k : AExit → Env → AHeap → Prop}, loopK f.gc live out (codeK f body) n e h k → Wp W0 f.toCfg n0 (.loop body) e h k := by
  intro m e h k hk φ a w E S hn
  refine wp_loop_ghost (fun n a' w' => ∃ e' h' φ', loopK f.gc live out (codeK f body) n e' h' k ∧ EnvR f.N φ' e' a' ∧ Sim W0 φ' h' w' ∧ ExtB n0 φ h w φ' h' w') m ⟨e, h, φ, hk, E, S, ExtB.refl _ _ hn⟩ ?_
  rintro n a' w' ⟨e', h', φ', h1, h2, h3, h4⟩
  cases n with
  | zero => exact h1.elim
  | succ n =>
    obtain ⟨eg, hg, φg, g1, g2, g3, g4⟩ := gcE_sound hgc h1 (h2.keep _) h3 h4.len
    refine wp_mono (codeK_sound hm hG hC hgc body hl _ hg _ g1 φg a' w' g2 g3 g4.len) fun ex a2 w2 hp => ?_
    have X := h4.trans g4
    cases ex with
    | normal => obtain ⟨e2, h2, φ2, g1, g2, g3, g4⟩ := hp; exact ⟨n, Nat.lt_succ_self _, e2, h2, φ2, g1, g2, g3, X.trans g4⟩
    | exit id =>
      obtain ⟨e2, h2, φ2, g1, g2, g3, g4⟩ := hp
      obtain ⟨e3, h3, φ3, k1, k2, k3, k4⟩ := gcE_sound hgc g1 (g2.keep _) g3 g4.len
      exact ⟨e3, h3, φ3, k1, k2, k3, (X.trans g4).trans k4⟩
    | ret =>
      obtain ⟨e2, h2, φ2, g1, g2, g3, g4⟩ := hp
      obtain ⟨e3, h3, φ3, k1, k2, k3, k4⟩ := gcE_sound hgc g1 (g2.keep _) g3 g4.len
      exact ⟨e3, h3, φ3, k1, k2, k3, (X.trans g4).trans k4⟩
    | panic ch => obtain ⟨v, v', e2, h2, φ2, g1, g2, g3, g4, g5⟩ := hp; exact ⟨v, v', e2, h2, φ2, g1, g2, g3, g4, X.trans g5⟩
    | goto l => exact hp.elim
    | outgrown => exact hp.elim
end
attribute [irreducible] codeK loopK
end Go.Am
