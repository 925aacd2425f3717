/-
  The abstract machine, part 15: code, loops, functions. Own work; plain definitions and lemmas.
-/
import Derived.Test.YtbafdehohlpjhaaDoorAm14
import Derived.Deep.LoopGhost
namespace Go.Am
open Go

structure FCfg extends Cfg where
  held : Nat → Bool
  loops : Nat → Option (Env → AHeap → (AExit → Env → AHeap → Prop) → Prop)
  keep : Nat → List Nat
  live : Nat → List Nat
  out : Nat → List Nat
  fuel : Nat

def keepE : List Nat → Env → Env
  | [], _ => []
  | k :: r, e => match eget e k with
    | some v => (k, v) :: keepE r e
    | none => keepE r e
def litE (e : Env) (t : Operand) (b : Bool) : Env := match t with | .tmp d => eset e d (.bool b) | _ => e

def firstReg : Code → Nat
  | .region id _ _ => id
  | .seq a _ => firstReg a
  | .block _ a => firstReg a
  | .loop a => firstReg a
  | _ => 0

def loopK (live out : List Nat) (body : Env → AHeap → (AExit → Env → AHeap → Prop) → Prop) : Nat → Env → AHeap → (AExit → Env → AHeap → Prop) → Prop
  | 0, _, _, _ => False
  | n + 1, e, h, k => body (keepE live e) h fun x e h => match x with
    | .normal => loopK live out body n e h k
    | .exit i => k (.exit i) (keepE out e) h
    | .ret => k .ret (keepE out e) h
    | .panic v => k (.panic v) e h

theorem loopK_succ (live out : List Nat) (body : Env → AHeap → (AExit → Env → AHeap → Prop) → Prop) (n : Nat) (e : Env) (h : AHeap) (k : AExit → Env → AHeap → Prop) :
    loopK live out body (n + 1) e h k = body (keepE live e) h (fun x e h => match x with
      | .normal => loopK live out body n e h k
      | .exit i => k (.exit i) (keepE out e) h
      | .ret => k .ret (keepE out e) h
      | .panic v => k (.panic v) e h) := rfl

noncomputable def codeK (f : FCfg) : Code → Env → AHeap → (AExit → Env → AHeap → Prop) → Prop
  | .skip, e, h, k => k .normal e h
  | .region id ops draw, e, h, k => match draw with
    | false => seqK f.toCfg ops (fun e h => k .normal (keepE (f.keep id) e) h) (fun v e h => k (.panic v) e h) ops.toList e h
    | true => cond (Region.noSelect ops) (anyK f.toCfg (f.held id) h.length ops (fun e h => k .normal (keepE (f.keep id) e) h) ops.size (Array.replicate ops.size false) e h) False
  | .seq a b, e, h, k => codeK f a e h fun x e h => match x with
    | .normal => codeK f b e h k
    | .exit i => k (.exit i) e h
    | .ret => k .ret e h
    | .panic v => k (.panic v) e h
  | .cond t a b, e, h, k => evK e t fun v => match v with
    | .bool v => cond v (codeK f a (litE e t true) h k) (codeK f b (litE e t false) h k)
    | _ => False
  | .block id a, e, h, k => codeK f a e h fun x e h => match x with
    | .normal => k .normal e h
    | .exit i => cond (Nat.beq i id) (k .normal e h) (k (.exit i) e h)
    | .ret => k .ret e h
    | .panic v => k (.panic v) e h
  | .loop a, e, h, k => match f.loops (firstReg a) with
    | some T => T (keepE (f.live (firstReg a)) e) h k
    | none => loopK (f.live (firstReg a)) (f.out (firstReg a)) (codeK f a) f.fuel e h k
  | .exit id, e, h, k => k (.exit id) e h
  | .ret, e, h, k => k .ret e h
  | .label _, e, h, k => k .normal e h
  | _, _, _, _ => False

/-- What the end of a piece of code bears. -/
def CPost (W0 : World) (N : Nat) (φ : Phi) (h : AHeap) (w : World) (k : AExit → Env → AHeap → Prop) : Exit → Act → World → Prop := fun ex a' w' =>
  match ex with
  | .normal => ∃ e' h' φ', k .normal e' h' ∧ EnvR N φ' e' a' ∧ Sim W0 φ' h' w' ∧ Ext φ h w φ' h' w'
  | .exit id => ∃ e' h' φ', k (.exit id) e' h' ∧ EnvR N φ' e' a' ∧ Sim W0 φ' h' w' ∧ Ext φ h w φ' h' w'
  | .ret => ∃ e' h' φ', k .ret e' h' ∧ EnvR N φ' e' a' ∧ Sim W0 φ' h' w' ∧ Ext φ h w φ' h' w'
  | .panic ch => ∃ v v' e' h' φ', ch = [{ v := v', recovered := false }] ∧ k (.panic v) e' h' ∧ VR φ' v v' ∧ Sim W0 φ' h' w' ∧ Ext φ h w φ' h' w'
  | _ => False

/-- The code runs from the abstract state to k. -/
def Wp (W0 : World) (c : Cfg) (code : Code) (e : Env) (h : AHeap) (k : AExit → Env → AHeap → Prop) : Prop :=
  ∀ (φ : Phi) (a : Act) (w : World), EnvR c.N φ e a → Sim W0 φ h w → code.wp c.P (CPost W0 c.N φ h w k) a w

theorem CPost.mono {W0 : World} {N : Nat} {φ φ0 : Phi} {h h0 : AHeap} {w w0 : World} {k k' : AExit → Env → AHeap → Prop} (X : Ext φ0 h0 w0 φ h w) (hk : ∀ x e h, k x e h → k' x e h) {ex : Exit} {a' : Act} {w' : World}
    (hp : CPost W0 N φ h w k ex a' w') : CPost W0 N φ0 h0 w0 k' ex a' w' := by
  cases ex with
  | normal => obtain ⟨e', h', φ', h1, h2, h3, h4⟩ := hp; exact ⟨e', h', φ', hk _ _ _ h1, h2, h3, X.trans h4⟩
  | exit id => obtain ⟨e', h', φ', h1, h2, h3, h4⟩ := hp; exact ⟨e', h', φ', hk _ _ _ h1, h2, h3, X.trans h4⟩
  | ret => obtain ⟨e', h', φ', h1, h2, h3, h4⟩ := hp; exact ⟨e', h', φ', hk _ _ _ h1, h2, h3, X.trans h4⟩
  | panic ch => obtain ⟨v, v', e', h', φ', h1, h2, h3, h4, h5⟩ := hp; exact ⟨v, v', e', h', φ', h1, hk _ _ _ h2, h3, h4, X.trans h5⟩
  | _ => exact hp.elim

theorem eget_keepE : ∀ (l : List Nat) (e : Env) (k : Nat) (v : Value), eget (keepE l e) k = some v → eget e k = some v
  | [], _, _, _, h => by cases h
  | j :: r, e, k, v, h => by
    simp only [keepE] at h
    split at h
    · rename_i u hu
      simp only [eget] at h
      by_cases hj : j = k
      · subst hj
        simp only [Nat.beq_refl, cond_true] at h
        cases h; exact hu
      · rw [beq_ne hj, cond_false] at h
        exact eget_keepE r e k v h
    · exact eget_keepE r e k v h
theorem EnvR.keep {N : Nat} {φ : Phi} {e : Env} {a : Act} (E : EnvR N φ e a) (l : List Nat) : EnvR N φ (keepE l e) a :=
  ⟨E.size, E.defers, fun k v hv => E.get k v (eget_keepE l e k v hv)⟩
theorem EnvR.lits {N : Nat} {φ : Phi} {e : Env} {a : Act} (E : EnvR N φ e a) {t : Operand} {b : Bool} (hb : ev e t = some (.bool b)) : EnvR N φ (litE e t b) a := by
  cases t with
  | tmp d => exact E.lit hb
  | _ => exact E

section
variable {W0 : World} {f : FCfg} (hm : f.P.follows .mixedOrders = true) (hG : GOk f.G W0) (hC : SoundC f.toCfg W0)

/-- The summaries of the loops hold. -/
def LoopsOk (W0 : World) (f : FCfg) : Code → Prop
  | .seq a b => LoopsOk W0 f a ∧ LoopsOk W0 f b
  | .cond _ a b => LoopsOk W0 f a ∧ LoopsOk W0 f b
  | .block _ a => LoopsOk W0 f a
  | .loop a => LoopsOk W0 f a ∧ ∀ T, f.loops (firstReg a) = some T → ∀ e h k, T e h k → Wp W0 f.toCfg (.loop a) e h k
  | _ => True

theorem loopsOk_none (hl : ∀ i, f.loops i = none) : ∀ code, LoopsOk W0 f code
  | .seq a b => ⟨loopsOk_none hl a, loopsOk_none hl b⟩
  | .cond _ a b => ⟨loopsOk_none hl a, loopsOk_none hl b⟩
  | .block _ a => loopsOk_none hl a
  | .loop a => ⟨loopsOk_none hl a, fun T h => by rw [hl] at h; cases h⟩
  | .skip => trivial
  | .region _ _ _ => trivial
  | .rangeFunc _ _ _ _ => trivial
  | .exit _ => trivial
  | .scope _ => trivial
  | .label _ => trivial
  | .goto _ => trivial
  | .ret => trivial
  | .refuse _ => trivial

include hm hG hC

theorem codeK_sound : ∀ (code : Code), LoopsOk W0 f code → ∀ (e : Env) (h : AHeap) (k : AExit → Env → AHeap → Prop), codeK f code e h k → Wp W0 f.toCfg code e h k
  | .skip, _, e, h, k, hk => fun φ a w E S => wp_skip ⟨e, h, φ, hk, E, S, Ext.refl _ _ _⟩
  | .label _, _, e, h, k, hk => fun φ a w E S => wp_label ⟨e, h, φ, hk, E, S, Ext.refl _ _ _⟩
  | .exit _, _, e, h, k, hk => fun φ a w E S => wp_exit ⟨e, h, φ, hk, E, S, Ext.refl _ _ _⟩
  | .ret, _, e, h, k, hk => fun φ a w E S => wp_ret ⟨e, h, φ, hk, E, S, Ext.refl _ _ _⟩
  | .region id ops draw, _, e, h, k, hk => fun φ a w E S => by
    cases draw with
    | false =>
      refine wp_region ?_
      rw [List.range_eq_range', ← Array.length_toList]
      exact seqK_sound hG hC ops.toList 0 (by simp) E S hk (fun e' h' φ' a' w' h1 h2 h3 h4 => ⟨_, h', φ', h1, h2.keep _, h3, h4⟩) (fun v v' e' h' φ' a' w' h1 h2 _ h3 h4 => ⟨v, v', e', h', φ', rfl, h1, h2, h3, h4⟩)
    | true =>
      obtain ⟨hs, hk⟩ := cond_prop hk
      have S' : Sim W0 φ h { w with drawn := w.drawn + 1 } := ⟨S.os, S.tape, S.out, S.size, S.old, S.len, fun i o p h1 h2 => (S.blk i o p h1 h2).congr rfl, S.inj⟩
      refine wp_region_held (S := fun w2 => f.held id = true → Agree { w with drawn := w.drawn + 1 } w2) hm (anyK_sound hG hC hs (fun c a a' w hq => hq) { w with drawn := w.drawn + 1 } S.size _ _ E S' (Nat.le_refl _)
        (fun _ => ⟨fun _ _ => rfl, Nat.le_refl _, fun i o p _ ho hp hne => ?_⟩) hk
        (fun e' h' φ' a' w' h1 h2 h3 h4 => ⟨_, h', φ', h1, h2.keep _, h3, ⟨h4.len, h4.size, h4.place, h4.moved, h4.fresh, h4.rest⟩⟩))
      have hb := S'.blk i o p ho hp
      cases o with
      | dead => exact absurd rfl hne
      | ro vs t => exact Nat.lt_of_lt_of_le hb.1 S'.size
      | cells => exact hb.there rfl
      | map => exact hb.there rfl
      | siter => exact hb.there rfl
  | .seq x y, hl, e, h, k, hk => fun φ a w E S => by
    refine wp_seq (wp_mono (codeK_sound x hl.1 e h _ hk φ a w E S) fun ex a' w' hp => ?_)
    cases ex with
    | normal =>
      obtain ⟨e', h', φ', h1, h2, h3, h4⟩ := hp
      exact wp_mono (codeK_sound y hl.2 e' h' k h1 φ' a' w' h2 h3) fun ex a w hq => CPost.mono h4 (fun _ _ _ h => h) hq
    | exit id => exact hp
    | ret => exact hp
    | panic ch => obtain ⟨v, v', e', h', φ', h1, h2, h3, h4, h5⟩ := hp; exact ⟨v, v', e', h', φ', h1, h2, h3, h4, h5⟩
    | goto l => exact hp
    | outgrown => exact hp
  | .cond t x y, hl, e, h, k, hk => fun φ a w E S => by
    obtain ⟨v, h1, h2⟩ := evK_spec hk
    have hv := ev_sound E h1
    split at h2
    · rename_i b
      have e1 : a.eval t = .bool b := by simpa [VR] using hv
      cases b with
      | true => exact wp_cond_true e1 (codeK_sound x hl.1 _ h k h2 φ a w (E.lits h1) S)
      | false => exact wp_cond_false e1 (codeK_sound y hl.2 _ h k h2 φ a w (E.lits h1) S)
    · exact h2.elim
  | .block id x, hl, e, h, k, hk => fun φ a w E S => by
    refine wp_block (wp_mono (codeK_sound x hl e h _ hk φ a w E S) fun ex a' w' hp => ?_)
    cases ex with
    | normal => exact hp
    | exit i =>
      obtain ⟨e', h', φ', h1, h2, h3, h4⟩ := hp
      simp only [Exit.inBlock]
      by_cases hi : i = id
      · subst hi
        rw [if_pos rfl]
        simp only [Nat.beq_refl, cond_true] at h1
        exact ⟨e', h', φ', h1, h2, h3, h4⟩
      · rw [if_neg hi]
        simp only [beq_ne hi, cond_false] at h1
        exact ⟨e', h', φ', h1, h2, h3, h4⟩
    | ret => exact hp
    | panic ch => obtain ⟨v, v', e', h', φ', h1, h2, h3, h4, h5⟩ := hp; exact ⟨v, v', e', h', φ', h1, h2, h3, h4, h5⟩
    | goto l => exact hp.elim
    | outgrown => exact hp.elim
  | .loop x, hl, e, h, k, hk => by
    simp only [codeK] at hk
    split at hk
    · rename_i T hT
      exact fun φ a w E S => hl.2 T hT _ h k hk φ a w (E.keep _) S
    · intro φ a w E S
      refine wp_loop_ghost (fun n a' w' => ∃ e' h' φ', loopK (f.live (firstReg x)) (f.out (firstReg x)) (codeK f x) n e' h' k ∧ EnvR f.N φ' e' a' ∧ Sim W0 φ' h' w' ∧ Ext φ h w φ' h' w') f.fuel ⟨e, h, φ, hk, E, S, Ext.refl _ _ _⟩ ?_
      rintro n a' w' ⟨e', h', φ', h1, h2, h3, h4⟩
      cases n with
      | zero => exact h1.elim
      | succ n =>
        refine wp_mono (codeK_sound x hl.1 _ h' _ h1 φ' a' w' (h2.keep _) h3) fun ex a2 w2 hp => ?_
        cases ex with
        | normal => obtain ⟨e2, h2, φ2, g1, g2, g3, g4⟩ := hp; exact ⟨n, Nat.lt_succ_self _, e2, h2, φ2, g1, g2, g3, h4.trans g4⟩
        | exit id => obtain ⟨e2, h2, φ2, g1, g2, g3, g4⟩ := hp; exact ⟨_, h2, φ2, g1, g2.keep _, g3, h4.trans g4⟩
        | ret => obtain ⟨e2, h2, φ2, g1, g2, g3, g4⟩ := hp; exact ⟨_, h2, φ2, g1, g2.keep _, g3, h4.trans g4⟩
        | panic ch => obtain ⟨v, v', e2, h2, φ2, g1, g2, g3, g4, g5⟩ := hp; exact ⟨v, v', e2, h2, φ2, g1, g2, g3, g4, h4.trans g5⟩
        | goto l => exact hp.elim
        | outgrown => exact hp.elim
  | .rangeFunc _ _ _ _, _, _, _, _, hk => hk.elim
  | .scope _, _, _, _, _, hk => hk.elim
  | .goto _, _, _, _, _, hk => hk.elim
  | .refuse _, _, _, _, _, hk => hk.elim

/-- A loop by rounds, where a number of rounds is given. -/
theorem Wp.rounds {body : Code} (hl : LoopsOk W0 f body) (live out : List Nat) : ∀ (n : Nat) {e : Env} {h : AHeap} {k : AExit → Env → AHeap → Prop}, loopK live out (codeK f body) n e h k → Wp W0 f.toCfg (.loop body) e h k := by
  intro n0 e h k hk φ a w E S
  refine wp_loop_ghost (fun n a' w' => ∃ e' h' φ', loopK live out (codeK f body) n e' h' k ∧ EnvR f.N φ' e' a' ∧ Sim W0 φ' h' w' ∧ Ext φ h w φ' h' w') n0 ⟨e, h, φ, hk, E, S, Ext.refl _ _ _⟩ ?_
  rintro n a' w' ⟨e', h', φ', h1, h2, h3, h4⟩
  cases n with
  | zero => exact h1.elim
  | succ n =>
    refine wp_mono (codeK_sound hm hG hC body hl _ h' _ h1 φ' a' w' (h2.keep _) h3) fun ex a2 w2 hp => ?_
    cases ex with
    | normal => obtain ⟨e2, h2, φ2, g1, g2, g3, g4⟩ := hp; exact ⟨n, Nat.lt_succ_self _, e2, h2, φ2, g1, g2, g3, h4.trans g4⟩
    | exit id => obtain ⟨e2, h2, φ2, g1, g2, g3, g4⟩ := hp; exact ⟨_, h2, φ2, g1, g2.keep _, g3, h4.trans g4⟩
    | ret => obtain ⟨e2, h2, φ2, g1, g2, g3, g4⟩ := hp; exact ⟨_, h2, φ2, g1, g2.keep _, g3, h4.trans g4⟩
    | panic ch => obtain ⟨v, v', e2, h2, φ2, g1, g2, g3, g4, g5⟩ := hp; exact ⟨v, v', e2, h2, φ2, g1, g2, g3, g4, h4.trans g5⟩
    | goto l => exact hp.elim
    | outgrown => exact hp.elim

omit hm hG hC in
/-- A loop: what holds at every round's head, with a number that falls. -/
theorem Wp.loop {body : Code} (live : List Nat) (I : Nat → Env → AHeap → Prop) {e : Env} {h : AHeap} {k : AExit → Env → AHeap → Prop} (n0 : Nat) (h0 : I n0 (keepE live e) h)
    (round : ∀ n e h, I n e h → Wp W0 f.toCfg body e h fun x e' h' => match x with
      | .normal => ∃ n', n' < n ∧ I n' (keepE live e') h'
      | .exit i => k (.exit i) e' h'
      | .ret => k .ret e' h'
      | .panic v => k (.panic v) e' h') : Wp W0 f.toCfg (.loop body) e h k := by
  intro φ a w E S
  refine wp_loop_ghost (fun n a' w' => ∃ e' h' φ', I n e' h' ∧ EnvR f.N φ' e' a' ∧ Sim W0 φ' h' w' ∧ Ext φ h w φ' h' w') n0 ⟨_, h, φ, h0, E.keep live, S, Ext.refl _ _ _⟩ ?_
  rintro n a' w' ⟨e', h', φ', h1, h2, h3, h4⟩
  refine wp_mono (round n e' h' h1 φ' a' w' h2 h3) fun ex a2 w2 hp => ?_
  cases ex with
  | normal => obtain ⟨e2, h2, φ2, ⟨n', g0, g1⟩, g2, g3, g4⟩ := hp; exact ⟨n', g0, _, h2, φ2, g1, g2.keep live, g3, h4.trans g4⟩
  | exit id => obtain ⟨e2, h2, φ2, g1, g2, g3, g4⟩ := hp; exact ⟨e2, h2, φ2, g1, g2, g3, h4.trans g4⟩
  | ret => obtain ⟨e2, h2, φ2, g1, g2, g3, g4⟩ := hp; exact ⟨e2, h2, φ2, g1, g2, g3, h4.trans g4⟩
  | panic ch => obtain ⟨v, v', e2, h2, φ2, g1, g2, g3, g4, g5⟩ := hp; exact ⟨v, v', e2, h2, φ2, g1, g2, g3, g4, h4.trans g5⟩
  | goto l => exact hp.elim
  | outgrown => exact hp.elim
end
attribute [irreducible] codeK loopK
end Go.Am
