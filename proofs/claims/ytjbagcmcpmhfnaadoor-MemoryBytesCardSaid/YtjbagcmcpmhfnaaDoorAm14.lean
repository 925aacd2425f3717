/-
  The abstract machine, part 14: regions and code. Own work; plain definitions and lemmas.
-/
import Derived.Test.YtjbagcmcpmhfnaaDoorAm13
import Derived.OrdersHeld
namespace Go.Am
open Go

inductive AExit where
  | normal
  | exit (id : Nat)
  | ret
  | panic (v : Value)

noncomputable def putK (N : Nat) (sl : Nat → Nat) (dst : Option Tmp) (e : Env) (v : Value) (mv : List Nat) (h : AHeap) (k : Env → AHeap → Prop) : Prop :=
  match dst with
  | some d => cond (Nat.blt d N) (bindV (sl d) v fun u => k (eset (epzs e mv) d u) h) False
  | none => k (epzs e mv) h

/-- Its result needs no name of its own. -/
def plainB : Op → Bool
  | .move _ | .assign _ | .pick _ _ _ | .load _ _ => true
  | _ => false
def modeOf (m : Nat) (op : Op) : Nat := match m with
  | 0 => 0
  | 1 => 1
  | _ => cond (plainB op) 0 2

def guardK (ops : Array Oper) (g : Option (Nat × Bool)) (e : Env) (go skip : Env → Prop) : Prop :=
  match g with
  | none => go e
  | some (j, want) => match (ops[j]?).bind (·.dst) with
    | some d => match eget e d with
      | some (.bool b) => cond b (cond want (go (eset e d (.bool true))) (skip (eset e d (.bool true)))) (cond want (skip (eset e d (.bool false))) (go (eset e d (.bool false))))
      | some (.tuple _) => skip e
      | _ => False
    | none => False

noncomputable def stepK (c : Cfg) (ops : Array Oper) (o : Oper) (e : Env) (h : AHeap) (k : Env → AHeap → Prop) : Prop :=
  guardK ops o.guard e (fun e => execK c o e h fun v h' mv => putK c.N (fun d => modeOf (c.shut d) o.op) o.dst e v mv h' k) (fun e => putK c.N (fun d => modeOf (c.shut d) o.op) o.dst e undef [] h k)

def panicArg : Op → Option Operand
  | .panic x => some x
  | _ => none

noncomputable def seqK (c : Cfg) (ops : Array Oper) (k : Env → AHeap → Prop) (pk : Value → Env → AHeap → Prop) : List Oper → Env → AHeap → Prop
  | [], e, h => k e h
  | o :: r, e, h => match panicArg o.op with
    | some x => match o.guard with
      | none => evK e x fun v => match v with
        | .iface t u => pk (.iface t u) e h
        | _ => False
      | some _ => False
    | none => stepK c ops o e h (seqK c ops k pk r)

theorem eget_eset : ∀ (e : Env) (k : Nat) (v : Value) (j : Nat), eget (eset e k v) j = if j = k then some v else eget e j
  | [], k, v, j => by
    by_cases h : k = j
    · subst h; simp [eset, eget]
    · rw [if_neg (fun e => h e.symm)]
      simp [eset, eget, beq_ne h]
  | (i, u) :: r, k, v, j => by
    by_cases hik : i = k
    · subst hik
      simp only [eset, Nat.beq_refl, cond_true, eget]
      by_cases h : i = j
      · subst h; simp
      · rw [beq_ne h, cond_false, if_neg (fun e => h e.symm)]
        rfl
    · simp only [eset, beq_ne hik, cond_false, eget]
      by_cases h : i = j
      · subst h
        simp only [Nat.beq_refl, cond_true]
        rw [if_neg hik]
      · rw [beq_ne h, cond_false, eget_eset r k v j, cond_false]

theorem eget_epz (q : Nat → Bool) : ∀ (e : Env) (j : Nat), eget (epz q e) j = (eget e j).map (pz q)
  | [], _ => rfl
  | (i, u) :: r, j => by
    simp only [epz, eget]
    cases Nat.beq i j
    · exact eget_epz q r j
    · rfl
theorem eget_epzs (e : Env) (l : List Nat) (j : Nat) : eget (epzs e l) j = (eget e j).map (pzVs l) := by
  cases l with
  | nil => simp only [epzs]; cases eget e j <;> rfl
  | cons i r => exact eget_epz _ e j

theorem EnvR.poison {N : Nat} {φ φ' : Phi} {e : Env} {a : Act} (E : EnvR N φ e a) {mv : List Nat} (hm : ∀ u u', VR φ u u' → VR φ' (pzVs mv u) u') : EnvR N φ' (epzs e mv) a := by
  refine ⟨E.size, E.defers, fun k v hv => ?_⟩
  rw [eget_epzs] at hv
  cases he : eget e k with
  | none => rw [he] at hv; cases hv
  | some u =>
    rw [he] at hv; cases hv
    exact ⟨(E.get k u he).1, hm u _ (E.get k u he).2⟩

theorem EnvR.put {N : Nat} {φ : Phi} {e : Env} {a : Act} (E : EnvR N φ e a) {d : Nat} (hd : d < N) {v v' : Value} (hv : VR φ v v') : EnvR N φ (eset e d v) (a.put (some d) v') := by
  refine ⟨by simp [Act.put, E.size], E.defers, fun k u hu => ?_⟩
  rw [eget_eset] at hu
  simp only [Act.put]
  by_cases h : k = d
  · rw [if_pos h] at hu; cases hu; subst h
    refine ⟨hd, ?_⟩
    have : k < a.tmps.size := by rw [E.size]; exact hd
    rw [Array.getD_eq_getD_getElem?, Array.getElem?_setIfInBounds_self_of_lt this]
    exact hv
  · rw [if_neg h] at hu
    obtain ⟨h1, h2⟩ := E.get k u hu
    refine ⟨h1, ?_⟩
    rw [Array.getD_eq_getD_getElem?, Array.getElem?_setIfInBounds_ne (fun e => h e.symm), ← Array.getD_eq_getD_getElem?]
    exact h2

theorem EnvR.lit {N : Nat} {φ : Phi} {e : Env} {a : Act} (E : EnvR N φ e a) {d : Nat} {b : Bool} (hb : eget e d = some (.bool b)) : EnvR N φ (eset e d (.bool b)) a := by
  refine ⟨E.size, E.defers, fun k u hu => ?_⟩
  rw [eget_eset] at hu
  by_cases h : k = d
  · rw [if_pos h] at hu; cases hu; subst h; exact E.get _ _ hb
  · rw [if_neg h] at hu; exact E.get k u hu

theorem putK_sound {N : Nat} {φ φ' : Phi} {e : Env} {a : Act} (E : EnvR N φ e a) {mv : List Nat} (hm : ∀ u u', VR φ u u' → VR φ' (pzVs mv u) u') {dst : Option Tmp} {v v' : Value} (hv : VR φ' v v') {h : AHeap} {k : Env → AHeap → Prop}
    {sl : Nat → Nat} (hk : putK N sl dst e v mv h k) : ∃ e', k e' h ∧ EnvR N φ' e' (a.put dst v') := by
  unfold putK at hk
  split at hk
  · rename_i d
    obtain ⟨hd, hk⟩ := cond_prop hk
    exact ⟨_, bindV_sound hk, (E.poison hm).put (by simpa [Nat.blt_eq] using hd) hv⟩
  · exact ⟨_, hk, E.poison hm⟩

theorem VR_undef (φ : Phi) : VR φ undef undef := (VR_flat φ _ _ rfl).2 rfl

/-- the guard's answer in the model -/
theorem guardK_sound {N : Nat} {φ : Phi} {e : Env} {a : Act} (E : EnvR N φ e a) {ops : Array Oper} {o : Oper} {go skip : Env → Prop} (hk : guardK ops o.guard e go skip) :
    ∃ e', EnvR N φ e' a ∧ ((Region.wanted o (yielded ops a.tmps) = true ∧ go e') ∨ (Region.wanted o (yielded ops a.tmps) = false ∧ skip e')) := by
  unfold guardK at hk
  split at hk
  · rename_i hg
    exact ⟨e, E, .inl ⟨by simp [Region.wanted, hg], hk⟩⟩
  · rename_i j want hg
    split at hk
    · rename_i d hd
      split at hk
      · rename_i b hb
        have hlt := (E.get _ _ hb).1
        have hv : a.tmps.getD d undef = .bool b := by simpa [VR] using (E.get _ _ hb).2
        have hy : yielded ops a.tmps j = some b := by
          unfold yielded
          rw [hd]
          have hlt' : d < a.tmps.size := by rw [E.size]; exact hlt
          rw [Array.getD_eq_getD_getElem?, Array.getElem?_eq_getElem hlt'] at hv
          simp only [Option.bind_some, Array.getElem?_eq_getElem hlt']
          simp only [Option.getD_some] at hv
          rw [hv]
        have hw : Region.wanted o (yielded ops a.tmps) = (b == want) := by simp [Region.wanted, hg, hy]
        refine ⟨_, E.lit hb, ?_⟩
        rw [hw]
        cases b <;> cases want <;> simp only [cond_true, cond_false] at hk <;> first | exact .inl ⟨rfl, hk⟩ | exact .inr ⟨rfl, hk⟩
      · rename_i t hb
        have hlt := (E.get _ _ hb).1
        obtain ⟨⟨l⟩, hv, _⟩ : ∃ cs', a.tmps.getD d undef = .tuple cs' ∧ VRA φ t cs' := by have := (E.get _ _ hb).2; cases t; simpa [VR] using this
        have hy : yielded ops a.tmps j = none := by
          unfold yielded
          rw [hd]
          have hlt' : d < a.tmps.size := by rw [E.size]; exact hlt
          rw [Array.getD_eq_getD_getElem?, Array.getElem?_eq_getElem hlt'] at hv
          simp only [Option.bind_some, Array.getElem?_eq_getElem hlt']
          simp only [Option.getD_some] at hv
          rw [hv]
        exact ⟨e, E, .inr ⟨by simp [Region.wanted, hg, hy], hk⟩⟩
      · exact hk.elim
    · exact hk.elim

section
variable {W0 : World} {c : Cfg} (hG : GOk c.G W0) (hC : SoundC c W0)
include hG hC

/-- One operation with its guard. -/
theorem stepK_sound {ops : Array Oper} {i : Nat} {o : Oper} (ho : ops[i]? = some o) {φ : Phi} {e : Env} {h : AHeap} {a : Act} {w : World} (E : EnvR c.N φ e a) (S : Sim W0 φ h w) {k : Env → AHeap → Prop} (hk : stepK c ops o e h k)
    {Q : Exit → Act → World → Prop} {K : Act → World → Prop} (hK : ∀ e' h' φ' a' w', k e' h' → EnvR c.N φ' e' a' → Sim W0 φ' h' w' → Ext φ h w φ' h' w' → K a' w') : wpOp c.P ops Q i K a w := by
  unfold wpOp
  simp only [ho]
  obtain ⟨e', E', hw | hw⟩ := guardK_sound E hk
  · rw [if_pos hw.1]
    refine .inl ((exec_sound hG hC E' S hw.2).wp fun v' w' hp => ?_)
    obtain ⟨v, h', mv, φ', h1, h2, h3, h4, h5⟩ := hp
    obtain ⟨e2, h6, h7⟩ := putK_sound E' h5 h2 h1
    exact hK _ _ _ _ _ h6 h7 h3 h4
  · rw [hw.1]
    simp only [Bool.false_eq_true, if_false]
    obtain ⟨e2, h6, h7⟩ := putK_sound E' (mv := []) (fun _ _ h => h) (VR_undef φ) hw.2
    exact hK _ _ _ _ _ h6 h7 S (Ext.refl _ _ _)


omit hG hC in
theorem run_panic_iface {P : Program} (t : TypeId) (u : Value) (w : World) : (Instr.panic (.iface t u)).run P w = .halt (.panic (.iface t u)) w := rfl

/-- A region in the order of the text. -/
theorem seqK_sound {ops : Array Oper} {k : Env → AHeap → Prop} {pk : Value → Env → AHeap → Prop} {Q : Exit → Act → World → Prop} : ∀ (l : List Oper) (i : Nat) {φ : Phi} {e : Env} {h : AHeap} {a : Act} {w : World}, ops.toList.drop i = l →
    EnvR c.N φ e a → Sim W0 φ h w → seqK c ops k pk l e h →
    (∀ e' h' φ' a' w', k e' h' → EnvR c.N φ' e' a' → Sim W0 φ' h' w' → Ext φ h w φ' h' w' → Q .normal a' w') →
    (∀ v v' e' h' φ' a' w', pk v e' h' → VR φ' v v' → EnvR c.N φ' e' a' → Sim W0 φ' h' w' → Ext φ h w φ' h' w' → Q (.panic [{ v := v', recovered := false }]) a' w') →
    wpOps c.P ops Q (List.range' i l.length) a w
  | [], _, _, _, _, _, _, _, E, S, hk, hn, _ => hn _ _ _ _ _ hk E S (Ext.refl _ _ _)
  | o :: r, i, φ, e, h, a, w, hl, E, S, hk, hn, hp => by
    have hlt : i < ops.toList.length := by
      rcases Nat.lt_or_ge i ops.toList.length with h1 | h1
      · exact h1
      · rw [List.drop_eq_nil_of_le h1] at hl; cases hl
    have hd := List.drop_eq_getElem_cons hlt
    rw [hl] at hd
    have ho : ops[i]? = some o := by
      have : ops.toList[i]? = some o := by rw [List.getElem?_eq_getElem hlt]; rw [(List.cons.inj hd).1]
      simpa using this
    have hr : ops.toList.drop (i + 1) = r := (List.cons.inj hd).2.symm
    rw [List.length_cons, List.range'_succ, wpOps_cons]
    simp only [seqK] at hk
    split at hk
    · rename_i x hx
      split at hk
      · rename_i hg
        obtain ⟨v, h1, h2⟩ := evK_spec hk
        split at h2
        · rename_i t u
          have hv := ev_sound E h1
          obtain ⟨u', e1, hu⟩ := id hv
          have hop : o.op = .panic x := by
            unfold panicArg at hx
            split at hx
            · cases hx; assumption
            · cases hx
          unfold wpOp
          simp only [ho]
          rw [if_pos (by simp [Region.wanted, hg])]
          refine .inl ?_
          unfold Oper.wp
          have : (execOp a.eval o).run c.P w = .halt (.panic (.iface t u')) w := by
            simp only [execOp, hop, e1, run_bind]
            rfl
          rw [this]
          exact hp _ _ _ _ _ _ _ h2 ⟨u', rfl, hu⟩ E S (Ext.refl _ _ _)
        · exact h2.elim
      · exact hk.elim
    · refine stepK_sound hG hC ho E S hk fun e' h' φ' a' w' h1 E1 S1 X1 => ?_
      exact seqK_sound r (i + 1) hr E1 S1 h1 (fun e2 h2 φ2 a2 w2 k2 E2 S2 X2 => hn _ _ _ _ _ k2 E2 S2 (X1.trans X2))
        (fun v v' e2 h2 φ2 a2 w2 k2 V2 E2 S2 X2 => hp _ _ _ _ _ _ _ k2 V2 E2 S2 (X1.trans X2))
end

/-! ### a region that draws its order -/
def Agree (w w2 : World) : Prop := ∀ n, n < w.heap.size → w2.heap[n]? = w.heap[n]?

def intTB (P : Program) (t : TypeId) : Bool := match P.underlying t with | some (.int _) => true | _ => false
/-- It may be taken first: it reads nothing but its operands (under 'held' it may load, too). -/
def takeB (P : Program) (held : Bool) : Op → Bool
  | .move _ | .assign _ | .pick _ _ _ | .nilCheck _ | .extract _ _ | .fieldAddr _ _ _ | .indexAddr _ _ _ | .index _ _ _ | .field _ _ _ | .unOp _ _ _ | .binOp _ _ _ _ _ => true
  | .convert s d _ => intTB P s && intTB P d
  | .load _ _ => held
  | _ => false
/-- Under 'held': it writes nothing that was there. -/
def calmB (e : Env) : Op → Bool
  | .alloc _ => true
  | .box _ _ => true
  | .call cl => match cl.callee with
    | .value f => match evL e cl.args.toList, ev e f with
      | some vs, some (.func _ fs cs) => (idsVL (fs.toList ++ vs ++ cs.toList)).isEmpty
      | _, _ => false
    | _ => false
  | _ => false

/-- A load under 'held' reads a block that was there when the region began. -/
def addrB (e : Env) (n0 : Nat) : Op → Bool
  | .load _ x => match ev e x with
    | some (.pointer (some a)) => match a.spot with
      | none => true
      | some _ => Nat.blt a.block n0
    | _ => false
  | _ => true
def firstTake (c : Cfg) (held : Bool) (n0 : Nat) (ops : Array Oper) (e : Env) (listed : Array Bool) : List Nat → Option Nat
  | [] => none
  | i :: r => match ops[i]? with
    | some o => cond (takeB c.P held o.op && addrB e n0 o.op && Region.free .any ops listed i) (some i) (firstTake c held n0 ops e listed r)
    | none => firstTake c held n0 ops e listed r

/-- One operation with its guard, and a test ahead of it. -/
noncomputable def stepA (c : Cfg) (ops : Array Oper) (o : Oper) (chk : Env → Bool) (e : Env) (h : AHeap) (k : Env → AHeap → Prop) : Prop :=
  guardK ops o.guard e (fun e => cond (chk e) (execK c o e h fun v h' mv => putK c.N (fun d => modeOf (c.shut d) o.op) o.dst e v mv h' k) False) (fun e => putK c.N (fun d => modeOf (c.shut d) o.op) o.dst e undef [] h k)

def allK (f : Nat → Prop) : List Nat → Prop
  | [] => True
  | [i] => f i
  | i :: r => f i ∧ allK f r

noncomputable def anyK (c : Cfg) (held : Bool) (n0 : Nat) (ops : Array Oper) (k : Env → AHeap → Prop) : Nat → Array Bool → Env → AHeap → Prop
  | 0, listed, e, h => match Region.ready .any ops listed with
    | [] => k e h
    | _ => False
  | n + 1, listed, e, h => match Region.ready .any ops listed with
    | [] => k e h
    | i :: r => match firstTake c held n0 ops e listed (i :: r) with
      | some j => match ops[j]? with
        | some o => stepA c ops o (fun e => addrB e n0 o.op) e h (anyK c held n0 ops k n (listed.setIfInBounds j true))
        | none => False
      | none => allK (fun j => match ops[j]? with
        | some o => stepA c ops o (fun e => !held || calmB e o.op) e h (anyK c held n0 ops k n (listed.setIfInBounds j true))
        | none => False) (i :: r)

theorem allK_mem {f : Nat → Prop} : ∀ {l : List Nat}, allK f l → ∀ i ∈ l, f i
  | [], _, i, h => by cases h
  | [j], hk, i, h => by
    rcases List.mem_cons.1 h with rfl | h
    · exact hk
    · cases h
  | j :: k :: r, hk, i, h => by
    rcases List.mem_cons.1 h with rfl | h
    · exact hk.1
    · exact allK_mem hk.2 i h

theorem firstTake_spec {c : Cfg} {held : Bool} {n0 : Nat} {ops : Array Oper} {e : Env} {listed : Array Bool} : ∀ {l : List Nat} {j : Nat}, firstTake c held n0 ops e listed l = some j → j ∈ l ∧ ∃ o, ops[j]? = some o ∧ takeB c.P held o.op = true ∧ addrB e n0 o.op = true ∧ Region.free .any ops listed j = true
  | [], _, h => by cases h
  | i :: r, j, h => by
    simp only [firstTake] at h
    split at h
    · rename_i o ho
      cases hb : takeB c.P held o.op && addrB e n0 o.op && Region.free .any ops listed i with
      | true =>
        rw [hb] at h; cases h
        simp only [Bool.and_eq_true] at hb
        exact ⟨List.mem_cons_self, o, ho, hb.1.1, hb.1.2, hb.2⟩
      | false =>
        rw [hb] at h
        obtain ⟨h1, h2⟩ := firstTake_spec h
        exact ⟨List.mem_cons_of_mem _ h1, h2⟩
    · obtain ⟨h1, h2⟩ := firstTake_spec h
      exact ⟨List.mem_cons_of_mem _ h1, h2⟩

/-- The blocks that were there when the region began lie in the memory of that time. -/
def Placed (n0 : Nat) (w0 : World) (φ : Phi) (h : AHeap) : Prop := ∀ (i : Nat) (o : AObj) (p : PB), i < n0 → h[i]? = some o → φ[i]? = some p → o ≠ .dead → p.b < w0.heap.size

/-- What may be taken first yields one value, in whatever world that agrees. -/
theorem take_sound {W0 : World} {c : Cfg} (hG : GOk c.G W0) {N : Nat} {φ : Phi} {e : Env} {h : AHeap} {a : Act} {w : World} (E : EnvR N φ e a) (S : Sim W0 φ h w) {o : Oper} {held : Bool} (ht : takeB c.P held o.op = true) {n0 : Nat} (had : addrB e n0 o.op = true)
    {w0 : World} (hW : held = true → W0.heap.size ≤ w0.heap.size) (hpl : held = true → Placed n0 w0 φ h) (hag : held = true → Agree w0 w)
    {k : Value → AHeap → List Nat → Prop} (hk : execK c o e h k) : ∃ v v', k v h [] ∧ VR φ v v' ∧ ∀ w2 : World, (held = true → Agree w0 w2) → (execOp a.eval o).run c.P w2 = .ok (.value v') w2 := by
  obtain ⟨dst, op, ty, pos, after, guard⟩ := o
  have pr : (∀ cs b, op ≠ .select cs b) → (pureK c.P ⟨dst, op, ty, pos, after, guard⟩ e fun v => k v h []) → ∃ v v', k v h [] ∧ VR φ v v' ∧ ∀ w2 : World, (held = true → Agree w0 w2) → (execOp a.eval ⟨dst, op, ty, pos, after, guard⟩).run c.P w2 = .ok (.value v') w2 := fun hs hp => by
    obtain ⟨v, h1, h2, h3⟩ := pure_sound E hs hp
    exact ⟨v, v, h1, (VR_flat φ _ _ h2).2 rfl, fun w2 _ => h3 w2⟩
  cases op <;> simp only [takeB] at ht <;> try (cases ht; done)
  all_goals simp only [execK] at hk
  case move x =>
    obtain ⟨v, h1, h2⟩ := evK_spec hk
    exact ⟨_, _, h2, ev_sound E h1, fun _ _ => rfl⟩
  case assign x =>
    obtain ⟨v, h1, h2⟩ := evK_spec hk
    exact ⟨_, _, h2, ev_sound E h1, fun _ _ => rfl⟩
  case pick x y z =>
    obtain ⟨v, h1, h2⟩ := evK_spec hk
    have hx := ev_sound E h1
    split at h2
    · rename_i t
      have e1 : a.eval x = .bool t := by simpa [VR] using hx
      cases t with
      | true =>
        obtain ⟨u, h3, h4⟩ := evK_spec h2
        exact ⟨_, _, h4, ev_sound E h3, fun _ _ => by simp only [execOp, run_bind, e1, asBool, run_pure, if_true]⟩
      | false =>
        obtain ⟨u, h3, h4⟩ := evK_spec h2
        exact ⟨_, _, h4, ev_sound E h3, fun _ _ => by simp only [execOp, run_bind, e1, asBool, run_pure, Bool.false_eq_true, if_false]⟩
    · exact h2.elim
  case load t x =>
    obtain ⟨v, h1, h2⟩ := evK_spec hk
    obtain ⟨u, u', b, a1, a2, a4, a3⟩ := load_sound S hG h2 (ev_sound E h1)
    refine ⟨_, _, a1, a2, fun w2 hw => run_v (a3 w2 ?_)⟩
    have hb : b < w0.heap.size := by
      obtain ⟨ad, rfl, h5 | ⟨⟨s, h5⟩, p, o, h6, h7, h8, h9⟩⟩ := a4
      · have := hW ht; omega
      · simp only [addrB, h1, h5] at had
        rw [← h9]
        exact hpl ht _ _ _ (by simpa [Nat.blt_eq] using had) h7 h6 h8
    rw [hw ht b hb, hag ht b hb]
  case nilCheck x =>
    obtain ⟨v, h1, h2⟩ := evK_spec hk
    have hx := ev_sound E h1
    split at h2
    · rename_i ad
      have hx0 := hx
      obtain ⟨a', e, _⟩ := VR_addA hx
      rw [e] at hx0
      exact ⟨_, _, h2, hx0, fun _ _ => by simp only [execOp, e, run_pure]⟩
    · rename_i f fs cs
      have hx0 := hx
      obtain ⟨f', c', e, _, _⟩ := hx
      rw [e] at hx0
      exact ⟨_, _, h2, hx0, fun _ _ => by simp only [execOp, e, run_pure]⟩
    · exact h2.elim
  case binOp op t x y yt =>
    obtain ⟨v, h1, h2⟩ := evK_spec hk
    obtain ⟨u, h3, h4⟩ := evK_spec h2
    rcases bin_sound (ox := x) (oy := y) h4 (ev_sound E h1) (ev_sound E h3) with hp | ⟨r, r', a1, a2, a3⟩
    · exact pr (by simp) hp
    · exact ⟨_, _, a1, a2, fun w2 _ => run_v (a3 w2)⟩
  case unOp op t x => exact pr (by simp) hk
  case convert s d x =>
    obtain ⟨v, h1, h2⟩ := evK_spec hk
    simp only [Bool.and_eq_true] at ht
    have hs : elemIs c.P s .u8 = false := by
      have := ht.1
      unfold intTB at this
      unfold elemIs
      split at this
      · rename_i hu; rw [hu]
      · cases this
    have hd : elemIs c.P d .u8 = false := by
      have := ht.2
      unfold intTB at this
      unfold elemIs
      split at this
      · rename_i hu; rw [hu]
      · cases this
    unfold convertK at h2
    split at h2
    · rw [hd, Bool.false_and] at h2; exact pr (by simp) h2
    · rw [hs, Bool.false_and] at h2; exact h2.elim
    · exact pr (by simp) h2
  case fieldAddr t x f =>
    obtain ⟨v, h1, h2⟩ := evK_spec hk
    obtain ⟨r, r', a1, a2, a3⟩ := fieldAddr_sound h2 (ev_sound E h1)
    exact ⟨_, _, a1, a2, fun w2 _ => run_v (a3 w2)⟩
  case field t x f =>
    obtain ⟨v, h1, h2⟩ := evK_spec hk
    obtain ⟨r, r', a1, a2, a3⟩ := field_sound h2 (ev_sound E h1)
    exact ⟨_, _, a1, a2, fun w2 _ => run_v (a3 w2)⟩
  case indexAddr t x ix =>
    obtain ⟨v, h1, h2⟩ := evK_spec hk
    obtain ⟨u, h3, h4⟩ := evK_spec h2
    obtain ⟨r, r', a1, a2, a3⟩ := indexAddr_sound h4 (ev_sound E h1) (ev_sound E h3)
    exact ⟨_, _, a1, a2, fun w2 _ => run_v (a3 w2)⟩
  case index t x ix =>
    obtain ⟨v, h1, h2⟩ := evK_spec hk
    obtain ⟨u, h3, h4⟩ := evK_spec h2
    obtain ⟨r, r', a1, a2, a3⟩ := index_sound h4 (ev_sound E h1) (ev_sound E h3)
    exact ⟨_, _, a1, a2, fun w2 _ => run_v (a3 w2)⟩
  case extract x i =>
    obtain ⟨v, h1, h2⟩ := evK_spec hk
    have hx := ev_sound E h1
    split at h2
    · rename_i vs
      split at h2
      · rename_i u hu
        obtain ⟨vs', e, hvs⟩ := hx
        have hvs : VRL φ vs.toList vs'.toList := by cases vs; exact hvs
        obtain ⟨u', a1, a2⟩ := VRL_get hvs hu
        refine ⟨_, _, h2, a2, fun w2 _ => run_v ?_⟩
        rw [e]
        have : vs'[i]? = some u' := by simpa using a1
        simp only [Instr.extract, this, run_pure]
      · exact h2.elim
    · exact h2.elim

theorem agree_push {w w' : World} {x : Obj} (h : w'.heap = w.heap.push x) : Agree w w' := fun n hn => by rw [h, Array.getElem?_push, if_neg (by omega)]

theorem Does.mono {P : Program} {o : Oper} {a : Act} {w : World} {Q Q' : Value → World → Prop} (h : Does P o a w Q) (hq : ∀ v w', Q v w' → Q' v w') : Does P o a w Q' := by
  obtain ⟨n, w', h1, h2⟩ := h
  refine ⟨n, w', h1, ?_⟩
  cases n <;> simp only at h2 ⊢ <;> first
    | exact hq _ _ h2
    | exact Calls.mono h2 (fun e w'' ⟨v, he, hv⟩ => ⟨v, he, hq _ _ hv⟩)
    | exact h2.elim

def CalmPost (W0 : World) (φ : Phi) (h : AHeap) (w : World) (k : Value → AHeap → List Nat → Prop) (v' : Value) (w' : World) : Prop :=
  ∃ v h' mv φ', k v h' mv ∧ VR φ' v v' ∧ Sim W0 φ' h' w' ∧ Ext φ h w φ' h' w' ∧ (∀ u u', VR φ u u' → VR φ' (pzVs mv u) u') ∧ Agree w w' ∧ (∀ i, i < h.length → φ'[i]? = φ[i]?) ∧ ∀ i, i < h.length → h'[i]? = h[i]?

theorem calm_alloc {W0 : World} {φ : Phi} {h : AHeap} {w : World} (S : Sim W0 φ h w) {k : Value → AHeap → List Nat → Prop} {t : TypeId} {vs : List Value} {cs : Array Value} (h1 : ∀ u ∈ cs.toList, OneC u) (hv : VRL φ vs cs.toList)
    (hk : allocK t vs h fun v h' => k v h' []) : CalmPost W0 φ h w k (.pointer (some ⟨w.heap.size, 0, none⟩)) { w with heap := w.heap.push (.cells cs t) } := by
  obtain ⟨h1, h2, h3⟩ := push_cells S (fl := flatL vs) (t := t) (cs := cs) (rest := []) (fr := (0, 0)) (w' := { w with heap := w.heap.push (.cells cs t) }) (List.append_nil _).symm h1 hv id (fun j _ h => by omega) rfl rfl rfl rfl
  refine ⟨_, _, _, _, hk, ?_, h1, h2, fun u u' hu => VR_mono (push_mono φ _) u u' hu, agree_push rfl, fun i hi => List.getElem?_append_left (by rw [S.len]; exact hi), fun i hi => List.getElem?_append_left hi⟩
  simp only [newAddr, VR]
  exact ⟨_, h3, by simp⟩

/-- What writes nothing that was there. -/
theorem calm_sound {W0 : World} {c : Cfg} (hC : SoundC c W0) {N : Nat} {φ : Phi} {e : Env} {h : AHeap} {a : Act} {w : World} (E : EnvR N φ e a) (S : Sim W0 φ h w) {o : Oper} (hc : calmB e o.op = true)
    {k : Value → AHeap → List Nat → Prop} (hk : execK c o e h k) : Does c.P o a w (CalmPost W0 φ h w k) := by
  obtain ⟨dst, op, ty, pos, after, guard⟩ := o
  cases op <;> simp only [calmB] at hc <;> try (cases hc; done)
  all_goals simp only [execK] at hk
  case alloc t =>
    split at hk
    · rename_i i hi
      split at hk
      · rename_i z hz
        obtain ⟨ho, hk⟩ := cond_prop hk
        simp only [Bool.and_eq_true] at ho
        exact .value (run_v (run_alloc hi hz w)) (calm_alloc S (VRL_one (φ := []) ho.1 (VRL_flatL ho.2)) (VRL_flatL ho.2) hk)
      · exact hk.elim
    · exact hk.elim
  case box t x =>
    obtain ⟨v, h1, h2⟩ := evK_spec hk
    obtain ⟨ho, hk⟩ := cond_prop h2
    have hv := VR_cells ho (ev_sound E h1)
    exact .value (v := .pointer (some ⟨w.heap.size, 0, none⟩)) (w' := { w with heap := w.heap.push (.cells (a.eval x).cells t) })
      (run_v (by simp only [Instr.box, newVar, run_bind, run_newRow, run_pure])) (calm_alloc S (VRL_one ho hv) hv hk)
  case call cl =>
    obtain ⟨callee, args, argTypes⟩ := cl
    cases callee with
    | invoke r m => cases hc
    | builtin b => cases hc
    | value f =>
      simp only at hc hk
      split at hk
      · rename_i vs hvs
        have hargs := evL_sound E hvs
        have hargs' : VRL φ vs (args.map a.eval).toList := by simpa using hargs
        obtain ⟨fv, h1, h2⟩ := evK_spec hk
        have hf := ev_sound E h1
        split at h2
        · rename_i fid first captured
          simp only [hvs, h1] at hc
          obtain ⟨f', c', e, g1, g2⟩ := hf
          cases hb : entersB c.P fid with
          | false =>
            rw [hb] at h2
            obtain ⟨v, b1, b2, b3⟩ := pure_sound E (by simp) h2
            exact .value (b3 w) ⟨_, _, _, φ, b1, (VR_flat φ _ _ b2).2 rfl, S, Ext.refl _ _ _, fun _ _ h => h, fun _ _ => rfl, fun _ _ => rfl, fun _ _ => rfl⟩
          | true =>
            rw [hb] at h2
            have g1 : VRL φ first.toList f'.toList := by cases first; exact g1
            have g2 : VRL φ captured.toList c'.toList := by cases captured; exact g2
            refine ⟨.enter fid (f' ++ args.map a.eval ++ c'), w, ?_, ?_⟩
            · simp only [execOp, resolve, run_bind, e, Deferred.ofValue, run_pure, invoke]
              exact entersB_run hb _ w
            · have hids : idsVL (first.toList ++ vs ++ captured.toList) = [] := by simpa using hc
              unfold callK at h2
              rw [frI_eq] at h2
              unfold callK' at h2
              rw [cond_true, hids, show reach 4000 h [] [] = [] from rfl] at h2
              obtain ⟨hcl, h2⟩ := cond_prop h2
              simp only [Bool.and_eq_true] at hcl
              refine (hC _ _ _ _ h2 _ w _ (S.pull true hcl.1) (VRL_pull hcl.2 (by simpa using VRL_append (VRL_append g1 hargs') g2))).mono ?_
              rintro e w' ⟨v', u, h1', φ1, rfl, hK, hv, S1, E1⟩
              rw [frH_eq] at hK
              obtain ⟨m1, m2, m3, m4⟩ := merge S hcl.1 S1 E1
              refine ⟨v', rfl, _, _, _, _, hK, m3 u v' hv, m1, m2, m4, fun n hn => E1.rest n hn fun i p hl _ => by simp [liveB, pullH] at hl, fun i hi => ?_, fun i hi => ?_⟩
              · rw [mergeP, List.getElem?_append_left (by rw [mapI_length, S.len]; exact hi), mapI_get]
                have : (fun p : PB => cond (memB (0 + i) []) (φ1.getD (findI [] (0 + i)) ⟨0, 0, 0⟩) p) = fun p => p := by funext p; rfl
                rw [this, Option.map_id']
              · rw [mergeH, List.getElem?_append_left (by rw [mapI_length]; exact hi), mapI_get]
                have : mergeO [] h.length h1' (0 + i) = fun o => o := by funext o; rfl
                rw [this, Option.map_id']
        · exact h2.elim
      · exact hk.elim

theorem stepA_stepK {c : Cfg} {ops : Array Oper} {o : Oper} {chk : Env → Bool} {e : Env} {h : AHeap} {k : Env → AHeap → Prop} (hk : stepA c ops o chk e h k) : stepK c ops o e h k := by
  have go : ∀ {e : Env}, cond (chk e) (execK c o e h fun v h' mv => putK c.N (fun d => modeOf (c.shut d) o.op) o.dst e v mv h' k) False → execK c o e h fun v h' mv => putK c.N (fun d => modeOf (c.shut d) o.op) o.dst e v mv h' k := fun h => (cond_prop h).2
  cases hg : o.guard with
  | none =>
    simp only [stepA, stepK, hg, guardK] at hk ⊢
    exact go hk
  | some p =>
    obtain ⟨j, want⟩ := p
    simp only [stepA, stepK, hg, guardK] at hk ⊢
    cases hd : (ops[j]?).bind (·.dst) with
    | none => simp only [hd] at hk
    | some d =>
      simp only [hd] at hk ⊢
      cases he : eget e d with
      | none => simp only [he] at hk
      | some v =>
        simp only [he] at hk ⊢
        cases v <;> try exact hk.elim
        case tuple l => exact hk
        case bool b => cases b <;> cases want <;> first | exact go hk | exact hk

section
variable {W0 : World} {c : Cfg} (hG : GOk c.G W0) (hC : SoundC c W0)
include hG hC

/-- A region in whatever order. -/
theorem anyK_sound {held : Bool} {n0 : Nat} {ops : Array Oper} (hs : Region.noSelect ops = true) {k : Env → AHeap → Prop} {Q : Exit → Act → World → Prop} (hQp : ∀ c a a' w, Q (.panic c) a w → Q (.panic c) a' w) (w0 : World) (hW : W0.heap.size ≤ w0.heap.size) :
    ∀ (n : Nat) (listed : Array Bool) {φ : Phi} {e : Env} {h : AHeap} {a : Act} {w : World}, EnvR c.N φ e a → Sim W0 φ h w → n0 ≤ h.length → (held = true → Agree w0 w ∧ w0.heap.size ≤ w.heap.size ∧ Placed n0 w0 φ h) → anyK c held n0 ops k n listed e h →
    (∀ e' h' φ' a' w', k e' h' → EnvR c.N φ' e' a' → Sim W0 φ' h' w' → Ext φ h w φ' h' w' → Q .normal a' w') →
    wpAnyH c.P .any ops Q (fun w2 => held = true → Agree w0 w2) n listed a w
  | 0, listed, φ, e, h, a, w, E, S, hn0, hag, hk, hn => by
    simp only [anyK] at hk
    split at hk
    · rename_i hr
      exact ⟨hr, hn _ _ _ _ _ hk E S (Ext.refl _ _ _)⟩
    · exact hk.elim
  | n + 1, listed, φ, e, h, a, w, E, S, hn0, hag, hk, hn => by
    simp only [anyK] at hk
    split at hk
    · rename_i hr
      exact wpAnyH_done hr (hn _ _ _ _ _ hk E S (Ext.refl _ _ _)) (n + 1)
    · rename_i i r hr
      split at hk
      · rename_i j hft
        obtain ⟨hmem, o, ho, htk, had, hfree⟩ := firstTake_spec hft
        rw [ho] at hk
        simp only at hk
        unfold stepA at hk
        have hq : ∀ v c a w, Q (.panic c) (a.put o.dst v) w → Q (.panic c) a w := fun v c a w hq => hQp c _ _ w hq
        obtain ⟨e', E', hw | hw⟩ := guardK_sound E hk
        · obtain ⟨hw1, hw2⟩ := hw
          obtain ⟨had', hw2⟩ := cond_prop hw2
          have hw : Region.wanted o (yielded ops a.tmps) = true ∧ execK c o e' h (fun v h' mv => putK c.N (fun d => modeOf (c.shut d) o.op) o.dst e' v mv h' (anyK c held n0 ops k n (listed.setIfInBounds j true))) := ⟨hw1, hw2⟩
          obtain ⟨v, v', h1, h2, h3⟩ := take_sound hG E' S htk had' (fun _ => hW) (fun hh => (hag hh).2.2) (fun hh => (hag hh).1) hw.2
          obtain ⟨e2, h6, h7⟩ := putK_sound E' (mv := []) (fun _ _ h => h) h2 h1
          refine wpAnyH_take ho hs hfree (by rw [hr]; simpa using hmem) (hq v') (.inl ⟨hw.1, h3⟩) (fun hh => (hag hh).1) ?_
          exact anyK_sound hs hQp w0 hW n _ h7 S hn0 hag h6 hn
        · obtain ⟨e2, h6, h7⟩ := putK_sound E' (mv := []) (fun _ _ h => h) (VR_undef φ) hw.2
          refine wpAnyH_take ho hs hfree (by rw [hr]; simpa using hmem) (hq undef) (.inr ⟨hw.1, rfl⟩) (fun hh => (hag hh).1) ?_
          exact anyK_sound hs hQp w0 hW n _ h7 S hn0 hag h6 hn
      · refine wpAnyH_all hr (by simp) fun j hj => ?_
        have hkj := allK_mem hk j hj
        split at hkj
        · rename_i o ho
          cases held with
          | false =>
            refine stepK_sound hG hC ho E S (stepA_stepK hkj) fun e' h' φ' a' w' k1 E1 S1 X1 => ⟨(fun h => by cases h), ?_⟩
            exact anyK_sound hs hQp w0 hW n _ E1 S1 (Nat.le_trans hn0 X1.len) (fun h => by cases h) k1 (fun e2 h2 φ2 a2 w2 k2 E2 S2 X2 => hn _ _ _ _ _ k2 E2 S2 (X1.trans X2))
          | true =>
            obtain ⟨g1, g2, g3⟩ := hag rfl
            unfold wpOp
            split
            · rename_i ho'; rw [ho] at ho'; cases ho'
            rename_i o2 ho'
            rw [ho] at ho'; cases ho'
            unfold stepA at hkj
            obtain ⟨e', E', hw | hw⟩ := guardK_sound E hkj
            · rw [if_pos hw.1]
              obtain ⟨hcalm', hw2⟩ := cond_prop hw.2
              refine .inl ((calm_sound hC E' S (by simpa using hcalm') hw2).wp fun v' w' hp => ?_)
              obtain ⟨v, h', mv, φ', h1, h2, h3, h4, h5, h6, h7, h8⟩ := hp
              obtain ⟨e2, h9, h10⟩ := putK_sound E' h5 h2 h1
              have hag' : Agree w0 w' := fun m hm => by rw [h6 m (by omega), g1 m hm]
              refine ⟨fun _ => hag', anyK_sound hs hQp w0 hW n _ h10 h3 (Nat.le_trans hn0 h4.len) (fun _ => ⟨hag', Nat.le_trans g2 h4.size, fun i o p hi ho hp hne => ?_⟩) h9
                (fun e2 h2 φ2 a2 w2 k2 E2 S2 X2 => hn _ _ _ _ _ k2 E2 S2 (h4.trans X2))⟩
              rw [h8 i (by omega)] at ho
              rw [h7 i (by omega)] at hp
              exact g3 i o p hi ho hp hne
            · rw [if_neg (by rw [hw.1]; simp)]
              obtain ⟨e2, h6, h7⟩ := putK_sound E' (mv := []) (fun _ _ h => h) (VR_undef φ) hw.2
              exact ⟨fun _ => g1, anyK_sound hs hQp w0 hW n _ h7 S hn0 (fun _ => ⟨g1, g2, g3⟩) h6 hn⟩
        · exact hkj.elim
end
end Go.Am
