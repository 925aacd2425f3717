/-
  The abstract machine, part 2: abstract heaps and how they stand to the model's world. Own work; plain definitions and lemmas.
-/
import Derived.Test.YtjbagcmcpmhfnaaDoorAm1
namespace Go.Am
open Go

/-- An abstract block: cells ('fl': all of them flat; 'mv': it may lie elsewhere than at the function's start), cells that are only read, a map, a string's iterator, nothing. -/
inductive AObj where
  | cells (fl : Bool) (vs : List Value) (t : TypeId) (mv : Bool)
  | ro (vs : List Value) (t : TypeId)
  | map (es : List (Value × Value))
  | siter (s : ByteArray) (pos : Nat)
  | dead

abbrev AHeap := List AObj

def AObj.liveB : AObj → Bool
  | .cells .. | .map _ | .siter .. => true
  | _ => false
def AObj.movedB : AObj → Bool
  | .cells _ _ _ mv => mv
  | .dead => true
  | _ => false
def liveB (h : AHeap) (i : Nat) : Bool := match h[i]? with | some o => o.liveB | none => false
def movedB (h : AHeap) (i : Nat) : Bool := match h[i]? with | some o => o.movedB | none => false

def EntR (φ : Phi) (e : Value × Value) (m : MapEntry) : Prop := flat e.1 = true ∧ m.key = e.1 ∧ VR φ e.2 m.val
def EntsR (φ : Phi) : List (Value × Value) → List MapEntry → Prop
  | [], l => l = []
  | e :: es, l => ∃ m ms, l = m :: ms ∧ EntR φ e m ∧ EntsR φ es ms

/-- A value that fits one cell. -/
def OneC (v : Value) : Prop := (∀ c, v ≠ .agg c) ∧ (∀ c, v ≠ .tuple c)

/-- The concrete block at 'p' holds what the abstract one says. -/
def BlkOk (W0 : World) (φ : Phi) (p : PB) : AObj → World → Prop
  | .cells fl vs t _, w => W0.heap.size ≤ p.b ∧ (fl = true → flatL vs = true) ∧
      ∃ cs fr, w.heap[p.b]? = some (.cells cs t fr) ∧ cs.size = p.sz ∧ (∀ j, j < cs.size → ¬ (fr.1 ≤ j ∧ j < fr.2)) ∧ ∃ pre us rest, cs.toList = pre ++ (us ++ rest) ∧ pre.length = p.sh ∧ (∀ u ∈ us, OneC u) ∧ VRL φ vs us
  | .ro vs t, w => p.b < W0.heap.size ∧ flatL vs = true ∧ (∀ u ∈ vs, OneC u) ∧
      ∃ cs fr, w.heap[p.b]? = some (.cells cs t fr) ∧ cs.size = p.sz ∧ ∃ pre rest, cs.toList = pre ++ (vs ++ rest) ∧ pre.length = p.sh
  | .map es, w => W0.heap.size ≤ p.b ∧ ∃ ms clock, w.heap[p.b]? = some (.map ms clock) ∧ EntsR φ es ms.toList
  | .siter s pos, w => W0.heap.size ≤ p.b ∧ w.heap[p.b]? = some (.stringIter s pos)
  | .dead, _ => True

theorem BlkOk.congr {W0 : World} {φ : Phi} {p : PB} {o : AObj} {w w' : World} (h : BlkOk W0 φ p o w) (e : w'.heap[p.b]? = w.heap[p.b]?) : BlkOk W0 φ p o w' := by
  cases o <;> simp only [BlkOk] at h ⊢
  all_goals first | (rw [e]; exact h) | exact h

theorem EntsR_mono {φ ψ : Phi} (hm : ∀ (j : Nat) (p : PB), φ[j]? = some p → ψ[j]? = some p) : ∀ (es : List (Value × Value)) (l : List MapEntry), EntsR φ es l → EntsR ψ es l
  | [], _, h => h
  | _ :: es, _, h => by
    obtain ⟨m, ms, rfl, h1, h2⟩ := h
    exact ⟨m, ms, rfl, ⟨h1.1, h1.2.1, VR_mono hm _ _ h1.2.2⟩, EntsR_mono hm es ms h2⟩

theorem BlkOk.mono {W0 : World} {φ ψ : Phi} {p : PB} {o : AObj} {w : World} (hm : ∀ (j : Nat) (p : PB), φ[j]? = some p → ψ[j]? = some p) (h : BlkOk W0 φ p o w) : BlkOk W0 ψ p o w := by
  cases o with
  | cells fl vs t mv =>
    obtain ⟨h1, h3, cs, fr, h4, h5, h6, pre, us, rest, h7, h9, h10, h8⟩ := h
    exact ⟨h1, h3, cs, fr, h4, h5, h6, pre, us, rest, h7, h9, h10, VRL_mono hm _ _ h8⟩
  | ro vs t => exact h
  | map es =>
    obtain ⟨h1, ms, cl, h2, h3⟩ := h
    exact ⟨h1, ms, cl, h2, EntsR_mono hm _ _ h3⟩
  | siter s pos => exact h
  | dead => trivial

/-- The abstract heap stands for the world: W0 is the world in which the law began. -/
structure Sim (W0 : World) (φ : Phi) (h : AHeap) (w : World) : Prop where
  os : w.os = W0.os
  tape : w.tape = W0.tape
  out : w.output = W0.output
  size : W0.heap.size ≤ w.heap.size
  old : ∀ n, n < W0.heap.size → w.heap[n]? = W0.heap[n]?
  len : φ.length = h.length
  blk : ∀ (i : Nat) (o : AObj) (p : PB), h[i]? = some o → φ[i]? = some p → BlkOk W0 φ p o w
  inj : ∀ (i j : Nat) (p q : PB), liveB h i = true → liveB h j = true → φ[i]? = some p → φ[j]? = some q → p.b = q.b → i = j

/-- What stays: unmoved blocks lie where they lay; every live block is an old one or a new one; all other memory is as it was. -/
structure Ext (φ : Phi) (h : AHeap) (w : World) (φ' : Phi) (h' : AHeap) (w' : World) : Prop where
  len : h.length ≤ h'.length
  size : w.heap.size ≤ w'.heap.size
  place : ∀ i, i < h.length → φ'[i]? = φ[i]? ∨ movedB h' i = true
  moved : ∀ i, i < h.length → movedB h i = true → movedB h' i = true
  fresh : ∀ (i : Nat) (p : PB), liveB h' i = true → φ'[i]? = some p → w.heap.size ≤ p.b ∨ ∃ (j : Nat) (q : PB), liveB h j = true ∧ φ[j]? = some q ∧ p.b = q.b
  rest : ∀ n, n < w.heap.size → (∀ (i : Nat) (p : PB), liveB h i = true → φ[i]? = some p → p.b ≠ n) → w'.heap[n]? = w.heap[n]?

theorem Ext.refl (φ : Phi) (h : AHeap) (w : World) : Ext φ h w φ h w where
  len := Nat.le_refl _
  size := Nat.le_refl _
  place _ _ := .inl rfl
  moved _ _ h := h
  fresh i p h1 h2 := .inr ⟨i, p, h1, h2, rfl⟩
  rest _ _ _ := rfl

theorem Ext.trans {φ φ' φ'' : Phi} {h h' h'' : AHeap} {w w' w'' : World} (a : Ext φ h w φ' h' w') (b : Ext φ' h' w' φ'' h'' w'') : Ext φ h w φ'' h'' w'' where
  len := Nat.le_trans a.len b.len
  size := Nat.le_trans a.size b.size
  place i hi := by
    have hi' := Nat.lt_of_lt_of_le hi a.len
    rcases a.place i hi with h1 | h1
    · rcases b.place i hi' with h2 | h2
      · exact .inl (h2.trans h1)
      · exact .inr h2
    · exact .inr (b.moved i hi' h1)
  moved i hi hm := b.moved i (Nat.lt_of_lt_of_le hi a.len) (a.moved i hi hm)
  fresh i p h1 h2 := by
    rcases b.fresh i p h1 h2 with h3 | ⟨j, q, h3, h4, h5⟩
    · exact .inl (Nat.le_trans a.size h3)
    · rcases a.fresh j q h3 h4 with h6 | ⟨k, r, h6, h7, h8⟩
      · exact .inl (by rw [h5]; exact h6)
      · exact .inr ⟨k, r, h6, h7, h5.trans h8⟩
  rest n hn hne := by
    have h1 := a.rest n hn hne
    have h2 := b.rest n (Nat.lt_of_lt_of_le hn a.size) (fun i p hl hp => by
      rcases a.fresh i p hl hp with h3 | ⟨j, q, h3, h4, h5⟩
      · omega
      · rw [h5]; exact hne j q h3 h4)
    exact h2.trans h1

theorem Phi.get_append {φ : Phi} {i : Nat} {p : PB} (q : Phi) (h : φ[i]? = some p) : (φ ++ q)[i]? = some p := by
  have hlt : i < φ.length := by
    rcases Nat.lt_or_ge i φ.length with h1 | h1
    · exact h1
    · rw [List.getElem?_eq_none h1] at h; cases h
  rw [List.getElem?_append_left hlt]; exact h

theorem Sim.some_of {W0 : World} {φ : Phi} {h : AHeap} {w : World} (S : Sim W0 φ h w) {i : Nat} {o : AObj} (hi : h[i]? = some o) : ∃ p, φ[i]? = some p := by
  have hlt : i < h.length := by
    rcases Nat.lt_or_ge i h.length with h1 | h1
    · exact h1
    · rw [List.getElem?_eq_none h1] at hi; cases hi
  exact ⟨φ[i]'(by rw [S.len]; exact hlt), List.getElem?_eq_getElem _⟩

theorem liveB_lt {h : AHeap} {i : Nat} (hl : liveB h i = true) : i < h.length := by
  rcases Nat.lt_or_ge i h.length with h1 | h1
  · exact h1
  · simp [liveB, List.getElem?_eq_none h1] at hl

theorem liveB_some {h : AHeap} {i : Nat} (hl : liveB h i = true) : ∃ o, h[i]? = some o ∧ o.liveB = true := by
  unfold liveB at hl
  split at hl
  · exact ⟨_, ‹_›, hl⟩
  · cases hl

theorem BlkOk.base {W0 : World} {φ : Phi} {p : PB} {o : AObj} {w : World} (h : BlkOk W0 φ p o w) (hl : o.liveB = true) : W0.heap.size ≤ p.b := by
  cases o <;> simp [AObj.liveB] at hl <;> exact h.1
theorem BlkOk.there {W0 : World} {φ : Phi} {p : PB} {o : AObj} {w : World} (h : BlkOk W0 φ p o w) (hl : o.liveB = true) : p.b < w.heap.size := by
  have key : ∀ x, w.heap[p.b]? = some x → p.b < w.heap.size := fun x hx => (Array.getElem?_eq_some_iff.1 hx).1
  cases o <;> simp [AObj.liveB] at hl
  case cells => obtain ⟨_, _, cs, fr, h4, _⟩ := h; exact key _ h4
  case map => obtain ⟨_, ms, cl, h2, _⟩ := h; exact key _ h2
  case siter => exact key _ h.2

theorem get_set {h : AHeap} {i j : Nat} {o o' : AObj} (h1 : (h.set i o')[j]? = some o) : (i = j ∧ o = o') ∨ (i ≠ j ∧ h[j]? = some o) := by
  by_cases e : i = j
  · subst e
    rw [List.getElem?_set] at h1
    simp only [if_true] at h1
    split at h1
    · exact .inl ⟨rfl, (Option.some.inj h1).symm⟩
    · cases h1
  · rw [List.getElem?_set_ne e] at h1; exact .inr ⟨e, h1⟩

theorem liveB_set {h : AHeap} {i j : Nat} {o' : AObj} (hi : liveB h i = true) (h1 : liveB (h.set i o') j = true) : liveB h j = true := by
  obtain ⟨o, h2, h3⟩ := liveB_some h1
  rcases get_set h2 with ⟨rfl, rfl⟩ | ⟨_, h4⟩
  · exact hi
  · simp [liveB, h4, h3]

/-- One live block is given other contents in place. -/
theorem Sim.put {W0 : World} {φ : Phi} {h : AHeap} {w w' : World} (S : Sim W0 φ h w) {i : Nat} {p : PB} (hi : liveB h i = true) (hp : φ[i]? = some p) (o' : AObj)
    (hos : w'.os = w.os) (ht : w'.tape = w.tape) (hout : w'.output = w.output) (hsz : w'.heap.size = w.heap.size)
    (hold : ∀ n, n ≠ p.b → w'.heap[n]? = w.heap[n]?) (hb : BlkOk W0 φ p o' w') : Sim W0 φ (h.set i o') w' := by
  obtain ⟨o, ho, hl⟩ := liveB_some hi
  have hbase := (S.blk i o p ho hp).base hl
  refine ⟨hos.trans S.os, ht.trans S.tape, hout.trans S.out, by rw [hsz]; exact S.size, fun n hn => ?_, by simp [S.len], fun j oj q h1 h2 => ?_, fun j k q r h1 h2 h3 h4 h5 => ?_⟩
  · rw [hold n (by omega)]; exact S.old n hn
  · rcases get_set h1 with ⟨rfl, rfl⟩ | ⟨hne, h1⟩
    · rw [hp] at h2; cases h2; exact hb
    · have hq := S.blk j oj q h1 h2
      cases oj with
      | dead => trivial
      | ro vs t => exact hq.congr (hold _ fun e => by have := hq.1; omega)
      | cells => exact hq.congr (hold _ fun e => hne (S.inj i j p q hi (by simp [liveB, h1, AObj.liveB]) hp h2 e.symm))
      | map => exact hq.congr (hold _ fun e => hne (S.inj i j p q hi (by simp [liveB, h1, AObj.liveB]) hp h2 e.symm))
      | siter => exact hq.congr (hold _ fun e => hne (S.inj i j p q hi (by simp [liveB, h1, AObj.liveB]) hp h2 e.symm))
  · exact S.inj j k q r (liveB_set hi h1) (liveB_set hi h2) h3 h4 h5

theorem Ext.put {φ : Phi} {h : AHeap} {w w' : World} {i : Nat} {p : PB} (hi : liveB h i = true) (hp : φ[i]? = some p) (o' : AObj)
    (hsz : w'.heap.size = w.heap.size) (hold : ∀ n, n ≠ p.b → w'.heap[n]? = w.heap[n]?) (hm : movedB h i = true → o'.movedB = true) : Ext φ h w φ (h.set i o') w' where
  len := by simp
  size := by omega
  place _ _ := .inl rfl
  moved j hj hmj := by
    by_cases e : i = j
    · subst e; simp only [movedB, List.getElem?_set_self hj]; exact hm hmj
    · simpa only [movedB, List.getElem?_set_ne e] using hmj
  fresh j q h1 h2 := .inr ⟨j, q, liveB_set hi h1, h2, rfl⟩
  rest n hn hne := hold n (fun e => hne i p hi hp e.symm)

theorem get_push {h : AHeap} {o o' : AObj} {j : Nat} (h1 : (h ++ [o'])[j]? = some o) : (j < h.length ∧ h[j]? = some o) ∨ (j = h.length ∧ o = o') := by
  rcases Nat.lt_trichotomy j h.length with hj | hj | hj
  · rw [List.getElem?_append_left hj] at h1; exact .inl ⟨hj, h1⟩
  · subst hj; simp at h1; exact .inr ⟨rfl, h1.symm⟩
  · rw [List.getElem?_eq_none (by simp; omega)] at h1; cases h1

theorem liveB_push {h : AHeap} {o' : AObj} {j : Nat} (h1 : liveB (h ++ [o']) j = true) : (j < h.length ∧ liveB h j = true) ∨ j = h.length := by
  obtain ⟨o, h2, h3⟩ := liveB_some h1
  rcases get_push h2 with ⟨h4, h5⟩ | ⟨h4, _⟩
  · exact .inl ⟨h4, by simp [liveB, h5, h3]⟩
  · exact .inr h4

theorem Phi.get_push {φ : Phi} {p q : PB} {j : Nat} (h1 : (φ ++ [q])[j]? = some p) : (j < φ.length ∧ φ[j]? = some p) ∨ (j = φ.length ∧ p = q) := by
  rcases Nat.lt_trichotomy j φ.length with hj | hj | hj
  · rw [List.getElem?_append_left hj] at h1; exact .inl ⟨hj, h1⟩
  · subst hj; simp at h1; exact .inr ⟨rfl, h1.symm⟩
  · rw [List.getElem?_eq_none (by simp; omega)] at h1; cases h1

theorem push_mono (φ : Phi) (q : PB) : ∀ (j : Nat) (p : PB), φ[j]? = some p → (φ ++ [q])[j]? = some p := fun _ _ h => Phi.get_append _ h

/-- A new block at the end. -/
theorem Sim.push {W0 : World} {φ : Phi} {h : AHeap} {w w' : World} (S : Sim W0 φ h w) (o' : AObj) (q : PB) (x : Obj) (hqb : q.b = w.heap.size)
    (hos : w'.os = w.os) (ht : w'.tape = w.tape) (hout : w'.output = w.output) (hheap : w'.heap = w.heap.push x)
    (hb : BlkOk W0 (φ ++ [q]) q o' w') : Sim W0 (φ ++ [q]) (h ++ [o']) w' := by
  have hget : ∀ n, n < w.heap.size → w'.heap[n]? = w.heap[n]? := fun n hn => by
    rw [hheap, Array.getElem?_push, if_neg (by omega)]
  refine ⟨hos.trans S.os, ht.trans S.tape, hout.trans S.out, by rw [hheap]; simp; have := S.size; omega, fun n hn => ?_, by simp [S.len], fun j oj r h1 h2 => ?_, fun j k r s h1 h2 h3 h4 h5 => ?_⟩
  · rw [hget n (Nat.lt_of_lt_of_le hn S.size)]; exact S.old n hn
  · rcases get_push h1 with ⟨hj, h1⟩ | ⟨rfl, rfl⟩
    · have h2' : φ[j]? = some r := by
        rcases Phi.get_push h2 with ⟨_, h⟩ | ⟨h, _⟩
        · exact h
        · rw [S.len] at h; omega
      have hq := S.blk j oj r h1 h2'
      cases oj with
      | dead => trivial
      | ro vs t => exact (hq.congr (hget _ (Nat.lt_of_lt_of_le hq.1 S.size))).mono (push_mono φ q)
      | cells => exact (hq.congr (hget _ (hq.there rfl))).mono (push_mono φ q)
      | map => exact (hq.congr (hget _ (hq.there rfl))).mono (push_mono φ q)
      | siter => exact (hq.congr (hget _ (hq.there rfl))).mono (push_mono φ q)
    · rcases Phi.get_push h2 with ⟨h, _⟩ | ⟨_, rfl⟩
      · rw [S.len] at h; omega
      · exact hb
  · have key : ∀ m (t : PB), liveB (h ++ [o']) m = true → (φ ++ [q])[m]? = some t → (m < h.length ∧ liveB h m = true ∧ φ[m]? = some t ∧ t.b < w.heap.size) ∨ (m = h.length ∧ t.b = w.heap.size) := by
      intro m t hl ht
      rcases liveB_push hl with ⟨h6, h7⟩ | rfl
      · rcases Phi.get_push ht with ⟨_, h8⟩ | ⟨h8, _⟩
        · obtain ⟨o, h9, h10⟩ := liveB_some h7
          exact .inl ⟨h6, h7, h8, (S.blk m o t h9 h8).there h10⟩
        · rw [S.len] at h8; omega
      · rcases Phi.get_push ht with ⟨h8, _⟩ | ⟨_, rfl⟩
        · rw [S.len] at h8; omega
        · exact .inr ⟨rfl, hqb⟩
    rcases key j r h1 h3 with ⟨_, a2, a3, a4⟩ | ⟨a1, a2⟩ <;> rcases key k s h2 h4 with ⟨_, b2, b3, b4⟩ | ⟨b1, b2⟩
    · exact S.inj j k r s a2 b2 a3 b3 h5
    · omega
    · omega
    · omega

theorem Ext.push {W0 : World} {φ : Phi} {h : AHeap} {w w' : World} (S : Sim W0 φ h w) (o' : AObj) (q : PB) (x : Obj) (hqb : q.b = w.heap.size) (hheap : w'.heap = w.heap.push x) :
    Ext φ h w (φ ++ [q]) (h ++ [o']) w' where
  len := by simp
  size := by rw [hheap]; simp
  place i hi := .inl (List.getElem?_append_left (by rw [S.len]; exact hi))
  moved i hi hm := by simpa only [movedB, List.getElem?_append_left hi] using hm
  fresh i p h1 h2 := by
    rcases liveB_push h1 with ⟨h6, h7⟩ | rfl
    · rcases Phi.get_push h2 with ⟨_, h8⟩ | ⟨h8, _⟩
      · exact .inr ⟨i, p, h7, h8, rfl⟩
      · rw [S.len] at h8; omega
    · rcases Phi.get_push h2 with ⟨h8, _⟩ | ⟨_, rfl⟩
      · rw [S.len] at h8; omega
      · exact .inl (by omega)
  rest n hn _ := by rw [hheap, Array.getElem?_push, if_neg (by omega)]

/-- Poison in all blocks. -/
def pzO (i : Nat → Bool) : AObj → AObj
  | .cells fl vs t mv => cond fl (.cells fl vs t mv) (.cells fl (pzL i vs) t mv)
  | .map es => .map (es.map fun e => (e.1, pz i e.2))
  | o => o
def pzH (i : Nat → Bool) (h : AHeap) : AHeap := h.map (pzO i)

theorem pzO_liveB (i : Nat → Bool) (o : AObj) : (pzO i o).liveB = o.liveB := by
  cases o with
  | cells fl vs t mv => cases fl <;> rfl
  | _ => rfl
theorem pzO_movedB (i : Nat → Bool) (o : AObj) : (pzO i o).movedB = o.movedB := by
  cases o with
  | cells fl vs t mv => cases fl <;> rfl
  | _ => rfl
theorem pzH_liveB (i : Nat → Bool) (h : AHeap) (j : Nat) : liveB (pzH i h) j = liveB h j := by
  simp only [liveB, pzH, List.getElem?_map]
  cases h[j]? with
  | none => rfl
  | some o => exact pzO_liveB i o
theorem pzH_movedB (i : Nat → Bool) (h : AHeap) (j : Nat) : movedB (pzH i h) j = movedB h j := by
  simp only [movedB, pzH, List.getElem?_map]
  cases h[j]? with
  | none => rfl
  | some o => exact pzO_movedB i o

theorem EntsR_pz {φ ψ : Phi} (i : Nat → Bool) (hm : ∀ (j : Nat) (p : PB), i j = false → φ[j]? = some p → ψ[j]? = some p) :
    ∀ (es : List (Value × Value)) (l : List MapEntry), EntsR φ es l → EntsR ψ (es.map fun e => (e.1, pz i e.2)) l
  | [], _, h => h
  | _ :: es, _, h => by
    obtain ⟨m, ms, rfl, h1, h2⟩ := h
    exact ⟨m, ms, rfl, ⟨h1.1, h1.2.1, VR_pz i hm _ _ h1.2.2⟩, EntsR_pz i hm es ms h2⟩

theorem BlkOk.pz {W0 : World} {φ ψ : Phi} {p : PB} {o : AObj} {w : World} (i : Nat → Bool) (hm : ∀ (j : Nat) (p : PB), i j = false → φ[j]? = some p → ψ[j]? = some p) (h : BlkOk W0 φ p o w) : BlkOk W0 ψ p (pzO i o) w := by
  cases o with
  | cells fl vs t mv =>
    obtain ⟨h1, h3, cs, fr, h4, h5, h6, pre, us, rest, h7, h9, h10, h8⟩ := h
    cases fl with
    | true => exact ⟨h1, h3, cs, fr, h4, h5, h6, pre, us, rest, h7, h9, h10, (VRL_flat ψ vs us (h3 rfl)).2 ((VRL_flat φ vs us (h3 rfl)).1 h8)⟩
    | false => exact ⟨h1, (fun e => by cases e), cs, fr, h4, h5, h6, pre, us, rest, h7, h9, h10, VRL_pz i hm _ _ h8⟩
  | ro vs t => exact h
  | map es =>
    obtain ⟨h1, ms, cl, h2, h3⟩ := h
    exact ⟨h1, ms, cl, h2, EntsR_pz i hm _ _ h3⟩
  | siter s pos => exact h
  | dead => trivial

/-- A live block now lies in a new concrete block; every other naming of it is poisoned. -/
theorem Sim.move {W0 : World} {φ : Phi} {h : AHeap} {w w' : World} (S : Sim W0 φ h w) {i : Nat} (hi : i < h.length) (o' : AObj) (q : PB) (x : Obj) (hqb : q.b = w.heap.size)
    (hos : w'.os = w.os) (ht : w'.tape = w.tape) (hout : w'.output = w.output) (hheap : w'.heap = w.heap.push x)
    (hb : BlkOk W0 (φ.set i q) q o' w') : Sim W0 (φ.set i q) ((pzH (fun j => Nat.beq j i) h).set i o') w' := by
  have hget : ∀ n, n < w.heap.size → w'.heap[n]? = w.heap[n]? := fun n hn => by
    rw [hheap, Array.getElem?_push, if_neg (by omega)]
  have hm : ∀ (j : Nat) (p : PB), j ≠ i → φ[j]? = some p → (φ.set i q)[j]? = some p := fun j p hne hp => by
    rw [List.getElem?_set_ne (Ne.symm hne)]; exact hp
  have hφi : (φ.set i q)[i]? = some q := List.getElem?_set_self (by rw [S.len]; exact hi)
  have hlen : (pzH (fun j => Nat.beq j i) h).length = h.length := by simp [pzH]
  refine ⟨hos.trans S.os, ht.trans S.tape, hout.trans S.out, by rw [hheap]; simp; have := S.size; omega, fun n hn => ?_, by simp [S.len, pzH], fun j oj r h1 h2 => ?_, fun j k r s h1 h2 h3 h4 h5 => ?_⟩
  · rw [hget n (Nat.lt_of_lt_of_le hn S.size)]; exact S.old n hn
  · rcases get_set h1 with ⟨rfl, rfl⟩ | ⟨hne, h1⟩
    · rw [hφi] at h2; cases h2; exact hb
    · rw [List.getElem?_set_ne hne] at h2
      simp only [pzH, List.getElem?_map] at h1
      cases ho : h[j]? with
      | none => rw [ho] at h1; cases h1
      | some o =>
        rw [ho] at h1; cases h1
        have hq := S.blk j o r ho h2
        refine BlkOk.pz (fun j => Nat.beq j i) (fun j p hj hp => hm j p (fun e => by subst e; simp at hj) hp) ?_
        cases o with
        | dead => trivial
        | ro vs t => exact hq.congr (hget _ (Nat.lt_of_lt_of_le hq.1 S.size))
        | cells => exact hq.congr (hget _ (hq.there rfl))
        | map => exact hq.congr (hget _ (hq.there rfl))
        | siter => exact hq.congr (hget _ (hq.there rfl))
  · have key : ∀ m (t : PB), liveB ((pzH (fun j => Nat.beq j i) h).set i o') m = true → (φ.set i q)[m]? = some t → (m = i ∧ t.b = w.heap.size) ∨ (m ≠ i ∧ liveB h m = true ∧ φ[m]? = some t ∧ t.b < w.heap.size) := by
      intro m t hl ht
      by_cases e : m = i
      · subst e; rw [hφi] at ht; cases ht; exact .inl ⟨rfl, hqb⟩
      · rw [List.getElem?_set_ne (Ne.symm e)] at ht
        have hl' : liveB h m = true := by
          rw [← pzH_liveB (fun j => Nat.beq j i) h m]
          simpa only [liveB, List.getElem?_set_ne (Ne.symm e)] using hl
        obtain ⟨o, h9, h10⟩ := liveB_some hl'
        exact .inr ⟨e, hl', ht, (S.blk m o t h9 ht).there h10⟩
    rcases key j r h1 h3 with ⟨a1, a2⟩ | ⟨a1, a2, a3, a4⟩ <;> rcases key k s h2 h4 with ⟨b1, b2⟩ | ⟨b1, b2, b3, b4⟩
    · rw [a1, b1]
    · omega
    · omega
    · exact S.inj j k r s a2 b2 a3 b3 h5

theorem Ext.move {W0 : World} {φ : Phi} {h : AHeap} {w w' : World} (S : Sim W0 φ h w) {i : Nat} (hi : i < h.length) (o' : AObj) (q : PB) (x : Obj) (hqb : q.b = w.heap.size)
    (hheap : w'.heap = w.heap.push x) (hmv : o'.movedB = true) : Ext φ h w (φ.set i q) ((pzH (fun j => Nat.beq j i) h).set i o') w' where
  len := by simp [pzH]
  size := by rw [hheap]; simp
  place j hj := by
    by_cases e : i = j
    · subst e; right; simp only [movedB, List.getElem?_set_self (show i < (pzH (fun j => Nat.beq j i) h).length by simpa [pzH] using hi)]; exact hmv
    · left; exact List.getElem?_set_ne e
  moved j hj hm := by
    by_cases e : i = j
    · subst e; simp only [movedB, List.getElem?_set_self (show i < (pzH (fun j => Nat.beq j i) h).length by simpa [pzH] using hi)]; exact hmv
    · have : movedB ((pzH (fun j => Nat.beq j i) h).set i o') j = movedB (pzH (fun j => Nat.beq j i) h) j := by simp only [movedB, List.getElem?_set_ne e]
      rw [this, pzH_movedB]; exact hm
  fresh j p h1 h2 := by
    by_cases e : i = j
    · subst e; rw [List.getElem?_set_self (by rw [S.len]; exact hi)] at h2; cases h2; exact .inl (by omega)
    · right
      rw [List.getElem?_set_ne e] at h2
      refine ⟨j, p, ?_, h2, rfl⟩
      rw [← pzH_liveB (fun j => Nat.beq j i) h j]
      simpa only [liveB, List.getElem?_set_ne e] using h1
  rest n hn _ := by rw [hheap, Array.getElem?_push, if_neg (by omega)]

/-- A live block keeps its concrete block, which is written; its place in it may be another; every other naming of it is poisoned. -/
theorem Sim.moveIn {W0 : World} {φ : Phi} {h : AHeap} {w w' : World} (S : Sim W0 φ h w) {i : Nat} {p : PB} (hi : liveB h i = true) (hp : φ[i]? = some p) (o' : AObj) (q : PB) (hqb : q.b = p.b)
    (hos : w'.os = w.os) (ht : w'.tape = w.tape) (hout : w'.output = w.output) (hsz : w'.heap.size = w.heap.size)
    (hold : ∀ n, n ≠ p.b → w'.heap[n]? = w.heap[n]?) (hb : BlkOk W0 (φ.set i q) q o' w') : Sim W0 (φ.set i q) ((pzH (fun j => Nat.beq j i) h).set i o') w' := by
  obtain ⟨o0, ho0, hl0⟩ := liveB_some hi
  have hbase := (S.blk i o0 p ho0 hp).base hl0
  have hlt := liveB_lt hi
  have hm : ∀ (j : Nat) (p : PB), j ≠ i → φ[j]? = some p → (φ.set i q)[j]? = some p := fun j p hne hp => by
    rw [List.getElem?_set_ne (Ne.symm hne)]; exact hp
  have hφi : (φ.set i q)[i]? = some q := List.getElem?_set_self (by rw [S.len]; exact hlt)
  refine ⟨hos.trans S.os, ht.trans S.tape, hout.trans S.out, by rw [hsz]; exact S.size, fun n hn => ?_, by simp [S.len, pzH], fun j oj r h1 h2 => ?_, fun j k r s h1 h2 h3 h4 h5 => ?_⟩
  · rw [hold n (by omega)]; exact S.old n hn
  · rcases get_set h1 with ⟨rfl, rfl⟩ | ⟨hne, h1⟩
    · rw [hφi] at h2; cases h2; exact hb
    · rw [List.getElem?_set_ne hne] at h2
      simp only [pzH, List.getElem?_map] at h1
      cases ho : h[j]? with
      | none => rw [ho] at h1; cases h1
      | some o =>
        rw [ho] at h1; cases h1
        have hq := S.blk j o r ho h2
        refine BlkOk.pz (fun j => Nat.beq j i) (fun j p hj hp => hm j p (fun e => by subst e; simp at hj) hp) ?_
        cases o with
        | dead => trivial
        | ro vs t => exact hq.congr (hold _ fun e => by have := hq.1; omega)
        | cells => exact hq.congr (hold _ fun e => hne (S.inj i j p r hi (by simp [liveB, ho, AObj.liveB]) hp h2 e.symm))
        | map => exact hq.congr (hold _ fun e => hne (S.inj i j p r hi (by simp [liveB, ho, AObj.liveB]) hp h2 e.symm))
        | siter => exact hq.congr (hold _ fun e => hne (S.inj i j p r hi (by simp [liveB, ho, AObj.liveB]) hp h2 e.symm))
  · have key : ∀ m (t : PB), liveB ((pzH (fun j => Nat.beq j i) h).set i o') m = true → (φ.set i q)[m]? = some t → ∃ t' : PB, liveB h m = true ∧ φ[m]? = some t' ∧ t.b = t'.b := by
      intro m t hl ht
      by_cases e : m = i
      · subst e; rw [hφi] at ht; cases ht; exact ⟨p, hi, hp, hqb⟩
      · rw [List.getElem?_set_ne (Ne.symm e)] at ht
        have hl' : liveB h m = true := by
          rw [← pzH_liveB (fun j => Nat.beq j i) h m]
          simpa only [liveB, List.getElem?_set_ne (Ne.symm e)] using hl
        exact ⟨t, hl', ht, rfl⟩
    obtain ⟨r', a1, a2, a3⟩ := key j r h1 h3
    obtain ⟨s', b1, b2, b3⟩ := key k s h2 h4
    exact S.inj j k r' s' a1 b1 a2 b2 (by omega)

theorem Ext.moveIn {W0 : World} {φ : Phi} {h : AHeap} {w w' : World} (S : Sim W0 φ h w) {i : Nat} {p : PB} (hi : liveB h i = true) (hp : φ[i]? = some p) (o' : AObj) (q : PB) (hqb : q.b = p.b)
    (hsz : w'.heap.size = w.heap.size) (hold : ∀ n, n ≠ p.b → w'.heap[n]? = w.heap[n]?) (hmv : o'.movedB = true) : Ext φ h w (φ.set i q) ((pzH (fun j => Nat.beq j i) h).set i o') w' where
  len := by simp [pzH]
  size := by omega
  place j hj := by
    by_cases e : i = j
    · subst e; right; simp only [movedB, List.getElem?_set_self (show i < (pzH (fun j => Nat.beq j i) h).length by simpa [pzH] using hj)]; exact hmv
    · left; exact List.getElem?_set_ne e
  moved j hj hm := by
    by_cases e : i = j
    · subst e; simp only [movedB, List.getElem?_set_self (show i < (pzH (fun j => Nat.beq j i) h).length by simpa [pzH] using hj)]; exact hmv
    · have : movedB ((pzH (fun j => Nat.beq j i) h).set i o') j = movedB (pzH (fun j => Nat.beq j i) h) j := by simp only [movedB, List.getElem?_set_ne e]
      rw [this, pzH_movedB]; exact hm
  fresh j r h1 h2 := by
    by_cases e : i = j
    · subst e; rw [List.getElem?_set_self (by rw [S.len]; exact liveB_lt hi)] at h2; cases h2; exact .inr ⟨i, p, hi, hp, hqb⟩
    · right
      rw [List.getElem?_set_ne e] at h2
      refine ⟨j, r, ?_, h2, rfl⟩
      rw [← pzH_liveB (fun j => Nat.beq j i) h j]
      simpa only [liveB, List.getElem?_set_ne e] using h1
  rest n hn hne := hold n (fun e => hne i p hi hp e.symm)
end Go.Am
