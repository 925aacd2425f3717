/-
  Patches: what a memory holds, word by word; what a bank holds. Own work; plain mathematics.
-/
import Derived.Test.YtecocfcaeenaoaaDoorPatN
namespace Go.Am.Pat
open Go Go.Am Go.Am.Ham Go.Am.Mem Go.Proofs
set_option maxRecDepth 100000

/-- A stored word: what was written, with so many bits upset. -/
def Hw (c w e : Nat) : Prop := (e = 0 ∧ c = encN w) ∨ (e = 1 ∧ ∃ b, b < 39 ∧ c = encN w ^^^ 2 ^ b) ∨ (e = 2 ∧ ∃ b d, b < 39 ∧ d < 39 ∧ b ≠ d ∧ c = encN w ^^^ 2 ^ b ^^^ 2 ^ d)
theorem Hw.dec {c w e : Nat} (h : Hw c w e) (hw : w < 2 ^ 32) : decN c = if e = 2 then (0, 2, 0) else (w, e, 0) := by
  rcases h with ⟨rfl, rfl⟩ | ⟨rfl, b, hb, rfl⟩ | ⟨rfl, b, d, hb, hd, hne, rfl⟩
  · rw [if_neg (by decide)]; exact dec_enc hw
  · rw [if_neg (by decide)]; exact dec_flip hw hb
  · rw [if_pos rfl]; exact dec_two hb hd hne
theorem Hw.le {c w e : Nat} (h : Hw c w e) : e ≤ 2 := by rcases h with ⟨rfl, _⟩ | ⟨rfl, _⟩ | ⟨rfl, _⟩ <;> omega
theorem flip_flip (c b : Nat) : c ^^^ 2 ^ b ^^^ 2 ^ b = c := by rw [Nat.xor_assoc, Nat.xor_self, Nat.xor_zero]
theorem Hw.flip {c w e b : Nat} (h : Hw c w e) (hb : b < 39) (he : e ≤ 1) : ∃ e', Hw (c ^^^ 2 ^ b) w e' ∧ (e = 0 → e' = 1) := by
  rcases h with ⟨rfl, rfl⟩ | ⟨rfl, d, hd, rfl⟩ | ⟨rfl, _⟩
  · exact ⟨1, Or.inr (Or.inl ⟨rfl, b, hb, rfl⟩), fun _ => rfl⟩
  · by_cases e : b = d
    · subst e; exact ⟨0, Or.inl ⟨rfl, flip_flip _ _⟩, fun h => by omega⟩
    · exact ⟨2, Or.inr (Or.inr ⟨rfl, d, b, hd, hb, fun h => e h.symm, rfl⟩), fun h => by omega⟩
  · omega

/-- What the words are (V) and how many bits of each are upset (E). -/
structure Vw (m : Mem) (n : Nat) (V E : Nat → Nat) : Prop where
  ok : OkM m
  num : m.n = n
  lt : ∀ i, i < n → V i < 2 ^ 32
  at_ : ∀ i, i < n → Hw (wordAt m i) (V i) (E i)
  fz : m.fuse < 0 ∨ ∀ i, i < n → E i ≠ 1
/-- Reads leave this. -/
structure Sm (m m' : Mem) : Prop where
  n : m'.n = m.n
  fuse : m'.fuse = m.fuse
  bl : m'.bl = m.bl
  safe : m'.safe = m.safe
theorem Sm.refl (m : Mem) : Sm m m := ⟨rfl, rfl, rfl, rfl⟩
theorem Sm.trans {a b c : Mem} (h : Sm a b) (k : Sm b c) : Sm a c := ⟨k.n.trans h.n, k.fuse.trans h.fuse, k.bl.trans h.bl, k.safe.trans h.safe⟩
def Less (E' E : Nat → Nat) : Prop := ∀ j, E' j = E j ∨ (E j = 1 ∧ E' j = 0)
theorem Less.refl (E : Nat → Nat) : Less E E := fun _ => Or.inl rfl
theorem Less.trans {A B C : Nat → Nat} (h : Less B A) (k : Less C B) : Less C A := fun j => by
  rcases h j with a | ⟨a, a'⟩ <;> rcases k j with b | ⟨b, b'⟩
  · exact Or.inl (b.trans a)
  · exact Or.inr ⟨by omega, b'⟩
  · exact Or.inr ⟨a, by omega⟩
  · omega
theorem Less.two {E' E : Nat → Nat} (h : Less E' E) (j : Nat) : E' j = 2 ↔ E j = 2 := by rcases h j with a | ⟨a, b⟩ <;> omega
theorem Less.zero {E' E : Nat → Nat} (h : Less E' E) {j : Nat} (e : E j = 0) : E' j = 0 := by rcases h j with a | ⟨a, b⟩ <;> omega
theorem Less.one {E' E : Nat → Nat} (h : Less E' E) {j : Nat} (e : E j ≤ 1) : E' j ≤ 1 := by rcases h j with a | ⟨a, b⟩ <;> omega
theorem store_sm {m : Mem} (h : m.fuse < 0) (i c : Nat) : Sm m (storeM m i c) := by
  refine ⟨store_n _ _ _, store_fuse h _ _, ?_, ?_⟩
  · unfold storeM; rw [if_neg (by omega)]
  · unfold storeM; rw [if_neg (by omega)]
theorem count_sm (m : Mem) (k : Int) : Sm m (countM m k) := by unfold countM; split <;> (try split) <;> exact ⟨rfl, rfl, rfl, rfl⟩
section
variable {m : Mem} {n : Nat} {V E : Nat → Nat} (v : Vw m n V E)
include v
theorem Vw.decAt {i : Nat} (hi : i < n) : decN (wordAt m i) = if E i = 2 then (0, 2, 0) else (V i, E i, 0) := (v.at_ i hi).dec (v.lt i hi)
theorem Vw.kind {i : Nat} (hi : i < n) : kindAt m i = E i := by
  unfold kindAt; rw [v.decAt hi]; split
  · next h => rw [h]
  · rfl
theorem Vw.readF {i : Nat} (hi : i < n) : ∃ E', Vw (readF m i) n V E' ∧ Less E' E ∧ Sm m (Mem.readF m i) := by
  have hd := v.decAt hi
  by_cases h : E i = 1
  · rw [if_neg (by omega)] at hd
    have hf : m.fuse < 0 := by
      rcases v.fz with h' | h'
      · exact h'
      · exact absurd h (h' i hi)
    have hr : Mem.readF m i = storeM (countM m 1) i (encN (V i)) := by
      unfold Mem.readF; rw [hd, if_pos h]; show storeM (countM m ((E i : Nat) : Int)) i _ = _; rw [h]; rfl
    have hf' : (countM m 1).fuse < 0 := by rw [count_fuse]; exact hf
    have hs : Sm m (Mem.readF m i) := by rw [hr]; exact (count_sm m 1).trans (store_sm hf' _ _)
    refine ⟨fun j => if j = i then 0 else E j, ⟨ok_readF v.ok i, hs.n.trans v.num, v.lt, fun j hj => ?_, Or.inl (by rw [hs.fuse]; exact hf)⟩, fun j => ?_, hs⟩
    · rw [hr, store_at (ok_count v.ok _) (by rw [countM_n, v.num]; exact hj) (by omega), count_at]
      by_cases e : j = i
      · subst e; rw [if_pos rfl]; exact Or.inl ⟨if_pos rfl, rfl⟩
      · rw [if_neg (fun x => e x.symm)]; show Hw _ _ (if j = i then 0 else E j); rw [if_neg e]; exact v.at_ j hj
    · show (if j = i then 0 else E j) = E j ∨ _ ∧ (if j = i then 0 else E j) = 0
      by_cases e : j = i
      · subst e; exact Or.inr ⟨h, if_pos rfl⟩
      · rw [if_neg e]; exact Or.inl rfl
  · have hr : Mem.readF m i = countM m (decN (wordAt m i)).2.1 := by
      unfold Mem.readF; rw [if_neg]; rw [hd]; split
      · show ¬ (2 : Nat) = 1; omega
      · exact h
    have hs : Sm m (Mem.readF m i) := by rw [hr]; exact count_sm m _
    refine ⟨E, ⟨ok_readF v.ok i, hs.n.trans v.num, v.lt, fun j hj => ?_, by rw [hs.fuse]; exact v.fz⟩, Less.refl E, hs⟩
    rw [hr, count_at]; exact v.at_ j hj

/-! ### rows of words that are read -/
def vBytes (V : Nat → Nat) (a : Nat) : Nat → List Value
  | 0 => []
  | k + 1 => bytes4 (V a) ++ vBytes V (a + 1) k
def vW (V : Nat → Nat) (a : Nat) : Nat → List Int
  | 0 => []
  | k + 1 => ((V a : Nat) : Int) :: vW V (a + 1) k
omit v in
theorem rows_vw : ∀ (k : Nat) {m : Mem} {E : Nat → Nat} (a : Nat), Vw m n V E → a + k ≤ n → ∃ E', Vw (rbM k m a) n V E' ∧ Less E' E ∧ Sm m (rbM k m a) ∧ (rbLost k m a = false → (∀ j, j < k → E (a + j) ≠ 2) ∧ rbBytes k m a = vBytes V a k ∧ rdW k m a = vW V a k) ∧ ((∀ j, j < k → E (a + j) ≠ 2) → rbLost k m a = false)
  | 0, m, E, a, v, _ => ⟨E, v, Less.refl E, Sm.refl m, fun _ => ⟨fun j hj => by omega, rfl, rfl⟩, fun _ => rfl⟩
  | k + 1, m, E, a, v, h => by
    obtain ⟨E1, v1, l1, s1⟩ := v.readF (i := a) (by omega)
    have hk := v.kind (i := a) (by omega)
    have hd := v.decAt (i := a) (by omega)
    by_cases e : E a = 2
    · refine ⟨E1, by rw [rbM, if_pos (by omega)]; exact v1, l1, by rw [rbM, if_pos (by omega)]; exact s1, fun hl => ?_, fun hl => ?_⟩
      · rw [rbLost, if_pos (by omega)] at hl; cases hl
      · exact absurd e (hl 0 (by omega))
    · obtain ⟨E2, v2, l2, s2, p, q⟩ := rows_vw k (a + 1) v1 (by omega)
      refine ⟨E2, by rw [rbM, if_neg (by omega)]; exact v2, l1.trans l2, by rw [rbM, if_neg (by omega)]; exact s1.trans s2, fun hl => ?_, fun hl => ?_⟩
      · rw [rbLost, if_neg (by omega)] at hl
        obtain ⟨p1, p2, p3⟩ := p hl
        rw [if_neg e] at hd
        refine ⟨fun j hj => ?_, ?_, ?_⟩
        · cases j with
          | zero => exact e
          | succ j => have := p1 j (by omega); rw [Ne, l1.two, show a + 1 + j = a + (j + 1) by omega] at this; exact this
        · rw [rbBytes, vBytes, p2, hd]
        · rw [rdW, vW, p3, hd]
      · rw [rbLost, if_neg (by omega)]
        exact q fun j hj => by rw [Ne, l1.two, show a + 1 + j = a + (j + 1) by omega]; exact hl (j + 1) (by omega)
omit v in
theorem vBytes_len (V : Nat → Nat) : ∀ (k a : Nat), (vBytes V a k).length = 4 * k
  | 0, _ => rfl
  | k + 1, a => by rw [vBytes, List.length_append, vBytes_len V k]; show 4 + 4 * k = _; omega
end
end Go.Am.Pat
