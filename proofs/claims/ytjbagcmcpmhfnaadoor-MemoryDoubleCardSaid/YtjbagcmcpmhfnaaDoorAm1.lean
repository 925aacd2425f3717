/-
  The abstract machine, part 1: values, heaps and how they stand to the model's world. Own work; plain definitions and lemmas.
-/
import Derived.Control
import Derived.Calls
import Derived.Orders
namespace Go.Am
open Go

/-- Where an abstract block lies: block number, number of cells, shift. -/
structure PB where
  b : Nat
  sz : Nat
  sh : Nat

abbrev Phi := List PB

mutual
/-- The abstract value stands for the concrete one. A channel that is not nil stands for anything (poison). -/
def VR (φ : Phi) : Value → Value → Prop
  | .pointer (some a), v' => match a.spot with
    | none => v' = .pointer (some a)
    | some _ => ∃ p, φ[a.block]? = some p ∧ v' = .pointer (some ⟨p.b, p.sh + a.off, none⟩)
  | .slice (some a) n c, v' => match a.spot with
    | none => v' = .slice (some a) n c
    | some _ => ∃ p c' o', φ[a.block]? = some p ∧ v' = .slice (some ⟨p.b, o', none⟩) n c' ∧ n ≤ c' ∧ (c' ≠ 0 → o' = p.sh + a.off ∧ p.sh + a.off + c' * (c / 2) ≤ p.sz) ∧ (c % 2 = 1 → c' = n)
  | .map (some r), v' => ∃ p, φ[r]? = some p ∧ v' = .map (some p.b)
  | .chan (some _), _ => True
  | .func fn f c, v' => ∃ f' c', v' = .func fn f' c' ∧ VRA φ f f' ∧ VRA φ c c'
  | .iface t v, v' => ∃ u, v' = .iface t u ∧ VR φ v u
  | .agg cs, v' => ∃ cs', v' = .agg cs' ∧ VRA φ cs cs'
  | .tuple cs, v' => ∃ cs', v' = .tuple cs' ∧ VRA φ cs cs'
  | .bool b, v' => v' = .bool b
  | .int k n, v' => v' = .int k n
  | .float k n, v' => v' = .float k n
  | .complex k n m, v' => v' = .complex k n m
  | .string s, v' => v' = .string s
  | .pointer none, v' => v' = .pointer none
  | .slice none n c, v' => v' = .slice none n c
  | .map none, v' => v' = .map none
  | .chan none, v' => v' = .chan none
  | .nilFunc, v' => v' = .nilFunc
  | .nilIface, v' => v' = .nilIface
def VRA (φ : Phi) : Array Value → Array Value → Prop
  | ⟨l⟩, l' => VRL φ l l'.toList
def VRL (φ : Phi) : List Value → List Value → Prop
  | [], l' => l' = []
  | v :: vs, l' => ∃ u us, l' = u :: us ∧ VR φ v u ∧ VRL φ vs us
end

mutual
/-- No address of an abstract block in it, no poison: it stands for itself alone. -/
def flat : Value → Bool
  | .pointer (some a) => a.spot.isNone
  | .slice (some a) _ _ => a.spot.isNone
  | .map (some _) => false
  | .chan (some _) => false
  | .func _ f c => flatA f && flatA c
  | .iface _ v => flat v
  | .agg cs => flatA cs
  | .tuple cs => flatA cs
  | .bool _ => true
  | .int _ _ => true
  | .float _ _ => true
  | .complex _ _ _ => true
  | .string _ => true
  | .pointer none => true
  | .slice none _ _ => true
  | .map none => true
  | .chan none => true
  | .nilFunc => true
  | .nilIface => true
def flatA : Array Value → Bool
  | ⟨l⟩ => flatL l
def flatL : List Value → Bool
  | [] => true
  | v :: vs => flat v && flatL vs
end

mutual
theorem VR_flat (φ : Phi) : ∀ (v v' : Value), flat v = true → (VR φ v v' ↔ v' = v)
  | .pointer (some a), v', h => by
    simp only [flat, Option.isNone_iff_eq_none] at h; simp [VR, h]
  | .slice (some a) _ _, v', h => by
    simp only [flat, Option.isNone_iff_eq_none] at h; simp [VR, h]
  | .map (some _), _, h => by simp [flat] at h
  | .chan (some _), _, h => by simp [flat] at h
  | .func fn ⟨f⟩ ⟨c⟩, v', h => by
    simp only [flat, flatA, Bool.and_eq_true] at h
    simp only [VR, VRA]
    constructor
    · rintro ⟨⟨f'⟩, ⟨c'⟩, rfl, h1, h2⟩
      rw [(VRL_flat φ f f' h.1).1 h1, (VRL_flat φ c c' h.2).1 h2]
    · rintro rfl
      exact ⟨_, _, rfl, (VRL_flat φ f f h.1).2 rfl, (VRL_flat φ c c h.2).2 rfl⟩
  | .iface t v, v', h => by
    simp only [flat] at h
    simp only [VR]
    constructor
    · rintro ⟨u, rfl, hu⟩; rw [(VR_flat φ v u h).1 hu]
    · rintro rfl; exact ⟨_, rfl, (VR_flat φ v v h).2 rfl⟩
  | .agg ⟨cs⟩, v', h => by
    simp only [flat, flatA] at h
    simp only [VR, VRA]
    constructor
    · rintro ⟨⟨c'⟩, rfl, h1⟩; rw [(VRL_flat φ cs c' h).1 h1]
    · rintro rfl; exact ⟨_, rfl, (VRL_flat φ cs cs h).2 rfl⟩
  | .tuple ⟨cs⟩, v', h => by
    simp only [flat, flatA] at h
    simp only [VR, VRA]
    constructor
    · rintro ⟨⟨c'⟩, rfl, h1⟩; rw [(VRL_flat φ cs c' h).1 h1]
    · rintro rfl; exact ⟨_, rfl, (VRL_flat φ cs cs h).2 rfl⟩
  | .bool _, _, _ => by simp [VR]
  | .int _ _, _, _ => by simp [VR]
  | .float _ _, _, _ => by simp [VR]
  | .complex _ _ _, _, _ => by simp [VR]
  | .string _, _, _ => by simp [VR]
  | .pointer none, _, _ => by simp [VR]
  | .slice none _ _, _, _ => by simp [VR]
  | .map none, _, _ => by simp [VR]
  | .chan none, _, _ => by simp [VR]
  | .nilFunc, _, _ => by simp [VR]
  | .nilIface, _, _ => by simp [VR]
theorem VRL_flat (φ : Phi) : ∀ (l l' : List Value), flatL l = true → (VRL φ l l' ↔ l' = l)
  | [], l', _ => by simp [VRL]
  | v :: vs, l', h => by
    simp only [flatL, Bool.and_eq_true] at h
    simp only [VRL]
    constructor
    · rintro ⟨u, us, rfl, h1, h2⟩
      rw [(VR_flat φ v u h.1).1 h1, (VRL_flat φ vs us h.2).1 h2]
    · rintro rfl
      exact ⟨_, _, rfl, (VR_flat φ v v h.1).2 rfl, (VRL_flat φ vs vs h.2).2 rfl⟩
end

mutual
/-- Rename the abstract blocks. -/
def rn (m : Nat → Nat) : Value → Value
  | .pointer (some a) => match a.spot with
    | none => .pointer (some a)
    | some s => .pointer (some ⟨m a.block, a.off, some s⟩)
  | .slice (some a) n c => match a.spot with
    | none => .slice (some a) n c
    | some s => .slice (some ⟨m a.block, a.off, some s⟩) n c
  | .map (some r) => .map (some (m r))
  | .chan (some r) => .chan (some r)
  | .func fn f c => .func fn (rnA m f) (rnA m c)
  | .iface t v => .iface t (rn m v)
  | .agg cs => .agg (rnA m cs)
  | .tuple cs => .tuple (rnA m cs)
  | .bool b => .bool b
  | .int k n => .int k n
  | .float k n => .float k n
  | .complex k n p => .complex k n p
  | .string s => .string s
  | .pointer none => .pointer none
  | .slice none n c => .slice none n c
  | .map none => .map none
  | .chan none => .chan none
  | .nilFunc => .nilFunc
  | .nilIface => .nilIface
def rnA (m : Nat → Nat) : Array Value → Array Value
  | ⟨l⟩ => ⟨rnL m l⟩
def rnL (m : Nat → Nat) : List Value → List Value
  | [] => []
  | v :: vs => rn m v :: rnL m vs
end

mutual
/-- Every abstract block that is named passes the test. -/
def idsB (q : Nat → Bool) : Value → Bool
  | .pointer (some a) => match a.spot with
    | none => true
    | some _ => q a.block
  | .slice (some a) _ _ => match a.spot with
    | none => true
    | some _ => q a.block
  | .map (some r) => q r
  | .chan (some _) => true
  | .func _ f c => idsBA q f && idsBA q c
  | .iface _ v => idsB q v
  | .agg cs => idsBA q cs
  | .tuple cs => idsBA q cs
  | .bool _ => true
  | .int _ _ => true
  | .float _ _ => true
  | .complex _ _ _ => true
  | .string _ => true
  | .pointer none => true
  | .slice none _ _ => true
  | .map none => true
  | .chan none => true
  | .nilFunc => true
  | .nilIface => true
def idsBA (q : Nat → Bool) : Array Value → Bool
  | ⟨l⟩ => idsBL q l
def idsBL (q : Nat → Bool) : List Value → Bool
  | [] => true
  | v :: vs => idsB q v && idsBL q vs
end

mutual
/-- The relation under a renaming. -/
theorem VR_rn {φ ψ : Phi} (m : Nat → Nat) (q : Nat → Bool) (hm : ∀ (i : Nat) (p : PB), q i = true → φ[i]? = some p → ψ[m i]? = some p) :
    ∀ (v v' : Value), idsB q v = true → VR φ v v' → VR ψ (rn m v) v'
  | .pointer (some ⟨b, o, none⟩), v', _, h => by simpa [VR, rn] using h
  | .pointer (some ⟨b, o, some s⟩), v', hq, h => by
    simp only [idsB] at hq
    simp only [VR] at h
    obtain ⟨p, hp, rfl⟩ := h
    simp only [rn, VR]
    exact ⟨p, hm _ _ hq hp, rfl⟩
  | .slice (some ⟨b, o, none⟩) n c, v', _, h => by simpa [VR, rn] using h
  | .slice (some ⟨b, o, some s⟩) n c, v', hq, h => by
    simp only [idsB] at hq
    simp only [VR] at h
    obtain ⟨p, c', o', hp, rfl, h1, h2, h3⟩ := h
    simp only [rn, VR]
    exact ⟨p, c', o', hm _ _ hq hp, rfl, h1, h2, h3⟩
  | .map (some r), v', hq, h => by
    simp only [idsB] at hq
    simp only [VR] at h
    obtain ⟨p, hp, rfl⟩ := h
    simp only [rn, VR]
    exact ⟨p, hm _ _ hq hp, rfl⟩
  | .chan (some _), v', _, _ => by simp [VR, rn]
  | .func fn ⟨f⟩ ⟨c⟩, v', hq, h => by
    simp only [idsB, idsBA, Bool.and_eq_true] at hq
    simp only [VR, VRA] at h
    obtain ⟨f', c', rfl, h1, h2⟩ := h
    simp only [rn, rnA, VR, VRA]
    exact ⟨_, _, rfl, VRL_rn m q hm f _ hq.1 h1, VRL_rn m q hm c _ hq.2 h2⟩
  | .iface t v, v', hq, h => by
    simp only [idsB] at hq
    simp only [VR] at h
    obtain ⟨u, rfl, hu⟩ := h
    simp only [rn, VR]
    exact ⟨_, rfl, VR_rn m q hm v u hq hu⟩
  | .agg ⟨cs⟩, v', hq, h => by
    simp only [idsB, idsBA] at hq
    simp only [VR, VRA] at h
    obtain ⟨c', rfl, h1⟩ := h
    simp only [rn, rnA, VR, VRA]
    exact ⟨_, rfl, VRL_rn m q hm cs _ hq h1⟩
  | .tuple ⟨cs⟩, v', hq, h => by
    simp only [idsB, idsBA] at hq
    simp only [VR, VRA] at h
    obtain ⟨c', rfl, h1⟩ := h
    simp only [rn, rnA, VR, VRA]
    exact ⟨_, rfl, VRL_rn m q hm cs _ hq h1⟩
  | .bool _, _, _, h => by simpa [VR, rn] using h
  | .int _ _, _, _, h => by simpa [VR, rn] using h
  | .float _ _, _, _, h => by simpa [VR, rn] using h
  | .complex _ _ _, _, _, h => by simpa [VR, rn] using h
  | .string _, _, _, h => by simpa [VR, rn] using h
  | .pointer none, _, _, h => by simpa [VR, rn] using h
  | .slice none _ _, _, _, h => by simpa [VR, rn] using h
  | .map none, _, _, h => by simpa [VR, rn] using h
  | .chan none, _, _, h => by simpa [VR, rn] using h
  | .nilFunc, _, _, h => by simpa [VR, rn] using h
  | .nilIface, _, _, h => by simpa [VR, rn] using h
theorem VRL_rn {φ ψ : Phi} (m : Nat → Nat) (q : Nat → Bool) (hm : ∀ (i : Nat) (p : PB), q i = true → φ[i]? = some p → ψ[m i]? = some p) :
    ∀ (l l' : List Value), idsBL q l = true → VRL φ l l' → VRL ψ (rnL m l) l'
  | [], l', _, h => by simpa [VRL, rnL] using h
  | v :: vs, l', hq, h => by
    simp only [idsBL, Bool.and_eq_true] at hq
    simp only [VRL] at h
    obtain ⟨u, us, rfl, h1, h2⟩ := h
    simp only [rnL, VRL]
    exact ⟨_, _, rfl, VR_rn m q hm v u hq.1 h1, VRL_rn m q hm vs us hq.2 h2⟩
end

theorem beq_ne {a b : Nat} (h : a ≠ b) : Nat.beq a b = false := by
  cases e : Nat.beq a b
  · rfl
  · exact absurd (Nat.eq_of_beq_eq_true e) h

mutual
/-- Poison whatever names a block that passes the test. -/
def pz (i : Nat → Bool) : Value → Value
  | .pointer (some a) => match a.spot with
    | none => .pointer (some a)
    | some s => cond (i a.block) (.chan (some 0)) (.pointer (some ⟨a.block, a.off, some s⟩))
  | .slice (some a) n c => match a.spot with
    | none => .slice (some a) n c
    | some s => cond (i a.block) (.chan (some 0)) (.slice (some ⟨a.block, a.off, some s⟩) n c)
  | .map (some r) => cond (i r) (.chan (some 0)) (.map (some r))
  | .chan (some r) => .chan (some r)
  | .func fn f c => .func fn (pzA i f) (pzA i c)
  | .iface t v => .iface t (pz i v)
  | .agg cs => .agg (pzA i cs)
  | .tuple cs => .tuple (pzA i cs)
  | .bool b => .bool b
  | .int k n => .int k n
  | .float k n => .float k n
  | .complex k n p => .complex k n p
  | .string s => .string s
  | .pointer none => .pointer none
  | .slice none n c => .slice none n c
  | .map none => .map none
  | .chan none => .chan none
  | .nilFunc => .nilFunc
  | .nilIface => .nilIface
def pzA (i : Nat → Bool) : Array Value → Array Value
  | ⟨l⟩ => ⟨pzL i l⟩
def pzL (i : Nat → Bool) : List Value → List Value
  | [] => []
  | v :: vs => pz i v :: pzL i vs
end

mutual
theorem VR_pz {φ ψ : Phi} (i : Nat → Bool) (hm : ∀ (j : Nat) (p : PB), i j = false → φ[j]? = some p → ψ[j]? = some p) :
    ∀ (v v' : Value), VR φ v v' → VR ψ (pz i v) v'
  | .pointer (some ⟨b, o, none⟩), v', h => by simpa [VR, pz] using h
  | .pointer (some ⟨b, o, some s⟩), v', h => by
    simp only [VR] at h
    obtain ⟨p, hp, rfl⟩ := h
    simp only [pz]
    cases hb : i b with
    | true => simp [VR]
    | false =>
      simp only [cond_false, VR]
      exact ⟨p, hm _ _ hb hp, rfl⟩
  | .slice (some ⟨b, o, none⟩) n c, v', h => by simpa [VR, pz] using h
  | .slice (some ⟨b, o, some s⟩) n c, v', h => by
    simp only [VR] at h
    obtain ⟨p, c', o', hp, rfl, h1, h2, h3⟩ := h
    simp only [pz]
    cases hb : i b with
    | true => simp [VR]
    | false =>
      simp only [cond_false, VR]
      exact ⟨p, c', o', hm _ _ hb hp, rfl, h1, h2, h3⟩
  | .map (some r), v', h => by
    simp only [VR] at h
    obtain ⟨p, hp, rfl⟩ := h
    simp only [pz]
    cases hb : i r with
    | true => simp [VR]
    | false =>
      simp only [cond_false, VR]
      exact ⟨p, hm _ _ hb hp, rfl⟩
  | .chan (some _), v', _ => by simp [VR, pz]
  | .func fn ⟨f⟩ ⟨c⟩, v', h => by
    simp only [VR, VRA] at h
    obtain ⟨f', c', rfl, h1, h2⟩ := h
    simp only [pz, pzA, VR, VRA]
    exact ⟨_, _, rfl, VRL_pz i hm f _ h1, VRL_pz i hm c _ h2⟩
  | .iface t v, v', h => by
    simp only [VR] at h
    obtain ⟨u, rfl, hu⟩ := h
    simp only [pz, VR]
    exact ⟨_, rfl, VR_pz i hm v u hu⟩
  | .agg ⟨cs⟩, v', h => by
    simp only [VR, VRA] at h
    obtain ⟨c', rfl, h1⟩ := h
    simp only [pz, pzA, VR, VRA]
    exact ⟨_, rfl, VRL_pz i hm cs _ h1⟩
  | .tuple ⟨cs⟩, v', h => by
    simp only [VR, VRA] at h
    obtain ⟨c', rfl, h1⟩ := h
    simp only [pz, pzA, VR, VRA]
    exact ⟨_, rfl, VRL_pz i hm cs _ h1⟩
  | .bool _, _, h => by simpa [VR, pz] using h
  | .int _ _, _, h => by simpa [VR, pz] using h
  | .float _ _, _, h => by simpa [VR, pz] using h
  | .complex _ _ _, _, h => by simpa [VR, pz] using h
  | .string _, _, h => by simpa [VR, pz] using h
  | .pointer none, _, h => by simpa [VR, pz] using h
  | .slice none _ _, _, h => by simpa [VR, pz] using h
  | .map none, _, h => by simpa [VR, pz] using h
  | .chan none, _, h => by simpa [VR, pz] using h
  | .nilFunc, _, h => by simpa [VR, pz] using h
  | .nilIface, _, h => by simpa [VR, pz] using h
theorem VRL_pz {φ ψ : Phi} (i : Nat → Bool) (hm : ∀ (j : Nat) (p : PB), i j = false → φ[j]? = some p → ψ[j]? = some p) :
    ∀ (l l' : List Value), VRL φ l l' → VRL ψ (pzL i l) l'
  | [], l', h => by simpa [VRL, pzL] using h
  | v :: vs, l', h => by
    simp only [VRL] at h
    obtain ⟨u, us, rfl, h1, h2⟩ := h
    simp only [pzL, VRL]
    exact ⟨_, _, rfl, VR_pz i hm v u h1, VRL_pz i hm vs us h2⟩
end

mutual
/-- Nothing changes where the places are kept. -/
theorem VR_mono {φ ψ : Phi} (hm : ∀ (j : Nat) (p : PB), φ[j]? = some p → ψ[j]? = some p) : ∀ (v v' : Value), VR φ v v' → VR ψ v v'
  | .pointer (some ⟨b, o, none⟩), v', h => by simpa [VR] using h
  | .pointer (some ⟨b, o, some s⟩), v', h => by
    simp only [VR] at h ⊢
    obtain ⟨p, hp, rfl⟩ := h
    exact ⟨p, hm _ _ hp, rfl⟩
  | .slice (some ⟨b, o, none⟩) n c, v', h => by simpa [VR] using h
  | .slice (some ⟨b, o, some s⟩) n c, v', h => by
    simp only [VR] at h ⊢
    obtain ⟨p, c', o', hp, rfl, h1, h2, h3⟩ := h
    exact ⟨p, c', o', hm _ _ hp, rfl, h1, h2, h3⟩
  | .map (some r), v', h => by
    simp only [VR] at h ⊢
    obtain ⟨p, hp, rfl⟩ := h
    exact ⟨p, hm _ _ hp, rfl⟩
  | .chan (some _), v', _ => by simp [VR]
  | .func fn ⟨f⟩ ⟨c⟩, v', h => by
    simp only [VR, VRA] at h ⊢
    obtain ⟨f', c', rfl, h1, h2⟩ := h
    exact ⟨_, _, rfl, VRL_mono hm f _ h1, VRL_mono hm c _ h2⟩
  | .iface t v, v', h => by
    simp only [VR] at h ⊢
    obtain ⟨u, rfl, hu⟩ := h
    exact ⟨_, rfl, VR_mono hm v u hu⟩
  | .agg ⟨cs⟩, v', h => by
    simp only [VR, VRA] at h ⊢
    obtain ⟨c', rfl, h1⟩ := h
    exact ⟨_, rfl, VRL_mono hm cs _ h1⟩
  | .tuple ⟨cs⟩, v', h => by
    simp only [VR, VRA] at h ⊢
    obtain ⟨c', rfl, h1⟩ := h
    exact ⟨_, rfl, VRL_mono hm cs _ h1⟩
  | .bool _, _, h => by simpa [VR] using h
  | .int _ _, _, h => by simpa [VR] using h
  | .float _ _, _, h => by simpa [VR] using h
  | .complex _ _ _, _, h => by simpa [VR] using h
  | .string _, _, h => by simpa [VR] using h
  | .pointer none, _, h => by simpa [VR] using h
  | .slice none _ _, _, h => by simpa [VR] using h
  | .map none, _, h => by simpa [VR] using h
  | .chan none, _, h => by simpa [VR] using h
  | .nilFunc, _, h => by simpa [VR] using h
  | .nilIface, _, h => by simpa [VR] using h
theorem VRL_mono {φ ψ : Phi} (hm : ∀ (j : Nat) (p : PB), φ[j]? = some p → ψ[j]? = some p) : ∀ (l l' : List Value), VRL φ l l' → VRL ψ l l'
  | [], l', h => by simpa [VRL] using h
  | v :: vs, l', h => by
    simp only [VRL] at h ⊢
    obtain ⟨u, us, rfl, h1, h2⟩ := h
    exact ⟨_, _, rfl, VR_mono hm v u h1, VRL_mono hm vs us h2⟩
end
end Go.Am
