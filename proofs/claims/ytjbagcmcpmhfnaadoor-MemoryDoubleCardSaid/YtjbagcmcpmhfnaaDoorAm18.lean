/-
  The abstract machine, part 18: results under names of their own, loops by rounds. Own work; plain definitions and lemmas.
-/
import Derived.Test.YtjbagcmcpmhfnaaDoorAm17
namespace Go.Am
open Go

abbrev LSpec := Env → AHeap → (AExit → Env → AHeap → Prop) → Prop
def lookL : List (Nat × List Nat) → Nat → List Nat
  | [], _ => []
  | (i, l) :: r, j => cond (Nat.beq i j) l (lookL r j)
def lookT : List (Nat × LSpec) → Nat → Option LSpec
  | [], _ => none
  | (i, l) :: r, j => cond (Nat.beq i j) (some l) (lookT r j)

/-- A configuration in which each result has a name of its own, but for those in 'opn'. -/
noncomputable def mkG (P : Program) (G : Nat → Option (List Value)) (tbl : List (Nat × Spec)) (N : Nat) (keep live out : List (Nat × List Nat)) (loops : List (Nat × LSpec)) (held opn : List Nat) (fuel : Nat) (base : Nat) : FCfg :=
  { shut := fun d => cond (memB d opn) 0 2, P := P, G := G, C := tabC tbl, N := N, held := fun i => memB i held, loops := lookT loops, keep := lookL keep, live := lookL live, out := lookL out, fuel := fuel, gc := some base }
/-- A configuration in which all is worked out. -/
noncomputable def mkC (P : Program) (G : Nat → Option (List Value)) (tbl : List (Nat × Spec)) (N : Nat) (keep live out : List (Nat × List Nat)) (held : List Nat) (fuel : Nat) : FCfg :=
  { shut := fun _ => 0, P := P, G := G, C := tabC tbl, N := N, held := fun i => memB i held, loops := fun _ => none, keep := lookL keep, live := lookL live, out := lookL out, fuel := fuel, gc := none }

/-- The nth loop's body. -/
def nthLoop (n : Nat) (c : Code) : Code := (loopsIn c).getD n .skip
/-- The nth loop, from a state at its head. -/
noncomputable def loopN (f : FCfg) (c : Code) (n i : Nat) : Nat → LSpec := loopK f.gc (f.live i) (f.out i) (codeK f (nthLoop n c))
theorem loopN_succ (f : FCfg) (c : Code) (n i m : Nat) (e : Env) (h : AHeap) (k : AExit → Env → AHeap → Prop) :
    loopN f c n i (m + 1) e h k = gcE f.gc (keepE (f.live i) e) h (fun e h => codeK f (nthLoop n c) e h (fun x e h => match x with
      | .normal => loopN f c n i m e h k
      | .exit j => gcE f.gc (keepE (f.out i) e) h (k (.exit j))
      | .ret => gcE f.gc (keepE (f.out i) e) h (k .ret)
      | .panic v => k (.panic v) e h)) := loopK_succ _ _ _ _ _ _ _ _
attribute [irreducible] loopN

def EachLoop (f : FCfg) (c : Code) : Nat → List Nat → Prop
  | _, [] => True
  | j, i :: r => (match f.loops i with | none => True | some T => ∀ e h k, T e h k → ∃ m, loopN f c j i m e h k) ∧ EachLoop f c (j + 1) r

theorem EachLoop.get {f : FCfg} {c : Code} : ∀ {l : List Nat} {j : Nat}, EachLoop f c j l → ∀ t i, l[t]? = some i → ∀ T, f.loops i = some T → ∀ e h k, T e h k → ∃ m, loopN f c (j + t) i m e h k
  | [], _, _, t, i, h => by simp at h
  | x :: r, j, hE, 0, i, h => by
    simp at h; subst h
    intro T hT
    have h1 := hE.1
    rw [hT] at h1
    exact h1
  | x :: r, j, hE, t + 1, i, h => by
    rw [List.getElem?_cons_succ] at h
    have := EachLoop.get hE.2 t i h
    rw [show j + 1 + t = j + (t + 1) from by omega] at this
    exact this

theorem loopsOk_each {W0 : World} {f : FCfg} (hm : f.P.follows .mixedOrders = true) (hG : GOk f.G W0) (hC : SoundC f.toCfg W0) {n0 : Nat} (hgc : ∀ b, f.gc = some b → n0 ≤ b) :
    ∀ {code : Code}, (∀ a ∈ loopsIn code, ∀ T, f.loops (firstReg a) = some T → ∀ e h k, T e h k → ∃ m, loopK f.gc (f.live (firstReg a)) (f.out (firstReg a)) (codeK f a) m e h k) → LoopsOk W0 f n0 code
  | .seq a b, h => ⟨loopsOk_each hm hG hC hgc fun x hx => h x (by simp [loopsIn, hx]), loopsOk_each hm hG hC hgc fun x hx => h x (by simp [loopsIn, hx])⟩
  | .cond _ a b, h => ⟨loopsOk_each hm hG hC hgc fun x hx => h x (by simp [loopsIn, hx]), loopsOk_each hm hG hC hgc fun x hx => h x (by simp [loopsIn, hx])⟩
  | .block _ a, h => loopsOk_each hm hG hC hgc (code := a) fun x hx => h x (by simp [loopsIn, hx])
  | .loop a, h => by
    have hi : LoopsOk W0 f n0 a := loopsOk_each hm hG hC hgc fun x hx => h x (by simp [loopsIn, hx])
    refine ⟨hi, fun T hT e h' k hk => ?_⟩
    obtain ⟨m, hm'⟩ := h a (by simp [loopsIn]) T hT e h' k hk
    exact Wp.rounds hm hG hC hgc hi _ _ m hm'
  | .skip, _ => trivial
  | .region _ _ _, _ => trivial
  | .rangeFunc _ _ _ _, _ => trivial
  | .exit _, _ => trivial
  | .scope _, _ => trivial
  | .label _, _ => trivial
  | .goto _, _ => trivial
  | .ret, _ => trivial
  | .refuse _, _ => trivial

/-- A summary out of what the text computes. -/
theorem spec2 {P : Program} {G : Nat → Option (List Value)} {tbl : List (Nat × Spec)} (hm : P.follows .mixedOrders = true) (ht : AllOk P G tbl) {fid : Nat} {fn : Func} {code : Code} (hf : P.funcs[fid]? = some fn) (hb : fn.body = some code)
    (f : FCfg) (hP : f.P = P) (hG : f.G = G) (hC : f.C = tabC tbl) (hN : f.N = fn.ntmps) {ids : List Nat} (hids : (loopsIn code).map firstReg = ids) (hl : EachLoop f code 0 ids)
    {s : Spec} (hs : ∀ args h K, s args h K → bodyK f code fn.results.toList args h K) : SpecOk P G fid s := by
  subst hP hG
  intro W0 hG args h K hk
  have hC' : SoundC f.toCfg W0 := fun g a h K hk => tabC_sound hG ht g a h K (by rw [← hC]; exact hk)
  have hbk := hs args h K hk
  have hgc : ∀ b, f.gc = some b → h.length ≤ b := fun b hb => by
    unfold bodyK at hbk
    obtain ⟨hn, _⟩ := cond_prop hbk
    simp only [Bool.and_eq_true] at hn
    have hn := hn.2
    rw [hb] at hn
    exact Nat.le_of_ble_eq_true hn
  refine fn_sound hm hG hC' hf hb hN (loopsOk_each hm hG hC' hgc fun a ha T hT e h k hT' => ?_) hbk
  obtain ⟨t, ht'⟩ := List.getElem?_of_mem ha
  have h1 : ids[t]? = some (firstReg a) := by rw [← hids, List.getElem?_map, ht']; rfl
  have h2 := EachLoop.get hl t (firstReg a) h1 T hT e h k hT'
  rw [Nat.zero_add] at h2
  have h3 : nthLoop t code = a := by unfold nthLoop; rw [List.getD_eq_getElem?_getD, ht']; rfl
  unfold loopN at h2
  rw [h3] at h2
  exact h2

/-! ### what the printed equations are simplified by -/
theorem condF {p : Prop} [Decidable p] {A : Prop} : cond (decide p) A False = (p ∧ A) := by
  by_cases h : p <;> simp [h]
theorem condD {p : Prop} [Decidable p] {A B : Prop} : cond (decide p) A B = ((p → A) ∧ (¬ p → B)) := by
  by_cases h : p <;> simp [h]
theorem condB {b : Bool} {A B : Prop} : cond b A B = ((b = true → A) ∧ (b = false → B)) := by
  cases b <;> simp
theorem condBF {b : Bool} {A : Prop} : cond b A False = (b = true ∧ A) := by
  cases b <;> simp

theorem iAdd_i64 {a b : Int} (h0 : -9223372036854775808 ≤ a + b) (h1 : a + b ≤ 9223372036854775807) : iAdd .i64 a b = a + b := wrap_i64 h0 h1
theorem iSub_i64 {a b : Int} (h0 : -9223372036854775808 ≤ a - b) (h1 : a - b ≤ 9223372036854775807) : iSub .i64 a b = a - b := wrap_i64 h0 h1
theorem iMul_i64 {a b : Int} (h0 : -9223372036854775808 ≤ a * b) (h1 : a * b ≤ 9223372036854775807) : iMul .i64 a b = a * b := wrap_i64 h0 h1
theorem wrap_u {k : IntKind} (hs : k.signed = false) (n : Int) : k.wrap n = n % (2 ^ k.bits : Nat) := by
  cases k <;> simp [IntKind.signed] at hs <;> simp [IntKind.wrap, IntKind.bits, IntKind.signed]
theorem wrap_u8 {n : Int} (h0 : 0 ≤ n) (h1 : n ≤ 255) : IntKind.u8.wrap n = n := by rw [wrap_u rfl]; simp [IntKind.bits]; omega
theorem wrap_u16 {n : Int} (h0 : 0 ≤ n) (h1 : n ≤ 65535) : IntKind.u16.wrap n = n := by rw [wrap_u rfl]; simp [IntKind.bits]; omega
theorem wrap_u32 {n : Int} (h0 : 0 ≤ n) (h1 : n ≤ 4294967295) : IntKind.u32.wrap n = n := by rw [wrap_u rfl]; simp [IntKind.bits]; omega
theorem wrap_u64 {n : Int} (h0 : 0 ≤ n) (h1 : n ≤ 18446744073709551615) : IntKind.u64.wrap n = n := by rw [wrap_u rfl]; simp [IntKind.bits]; omega
end Go.Am