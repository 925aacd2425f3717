/-
  Patches: a patch is loaded, in words. Own work; plain mathematics.
-/
import Derived.Test.YtecocfcaeenaoaaDoorPatW
import Derived.Test.YtecocfcaeenaoaaDoorPatQ
namespace Go.Am.Pat
open Go Go.Am Go.Am.Ham Go.Am.Mem Go.Proofs
set_option maxRecDepth 100000

def upd (f : Nat → Nat) (i x : Nat) : Nat → Nat := fun j => if j = i then x else f j
theorem upd_at (f : Nat → Nat) (i x : Nat) : upd f i x i = x := if_pos rfl
theorem upd_ne (f : Nat → Nat) {i j : Nat} (x : Nat) (h : j ≠ i) : upd f i x j = f j := if_neg h
/-- So many words may still be stored. -/
def Pw (m : Mem) (c : Nat) : Prop := m.fuse < 0 ∨ ((c : Int) ≤ m.fuse ∧ m.fuse ≤ 1000000)
def fzN (m : Mem) (k : Nat) : Int := if m.fuse < 0 then m.fuse else m.fuse - k
structure St (m m' : Mem) (k : Nat) : Prop where
  n : m'.n = m.n
  fuse : m'.fuse = fzN m k
  bl : m'.bl = m.bl
  safe : m'.safe = m.safe
theorem St.refl (m : Mem) : St m m 0 := ⟨rfl, by unfold fzN; split <;> omega, rfl, rfl⟩
theorem St.trans {a b c : Mem} {j k i : Nat} (h : St a b j) (g : St b c k) (hi : i = j + k) (hp : a.fuse < 0 ∨ (j : Int) ≤ a.fuse) : St a c i := by
  refine ⟨g.n.trans h.n, ?_, g.bl.trans h.bl, g.safe.trans h.safe⟩
  have h1 := g.fuse
  have h2 := h.fuse
  unfold fzN at h1 h2 ⊢
  rw [h1]
  split at h2
  · rw [if_pos (by omega), if_pos (by assumption)]; exact h2
  · rw [if_neg (by omega), if_neg (by assumption)]; omega
theorem Sm.st {m m' : Mem} (h : Sm m m') : St m m' 0 := ⟨h.n, by unfold fzN; rw [h.fuse]; split <;> omega, h.bl, h.safe⟩
theorem Pw.sm {m m' : Mem} {c : Nat} (h : Sm m m') (p : Pw m c) : Pw m' c := by unfold Pw at p ⊢; rw [h.fuse]; exact p
theorem Pw.le {m : Mem} {c d : Nat} (p : Pw m c) (h : d ≤ c) : Pw m d := by unfold Pw at p ⊢; omega
section
variable {m : Mem} {n : Nat} {V E : Nat → Nat} (v : Vw m n V E)
include v
theorem Vw.store {i w c : Nat} (hi : i < n) (hw : w < 2 ^ 32) (p : Pw m (c + 1)) : Vw (storeM m i (encN w)) n (upd V i w) (upd E i 0) ∧ St m (storeM m i (encN w)) 1 ∧ Pw (storeM m i (encN w)) c := by
  have hf : m.fuse ≠ 0 := by unfold Pw at p; omega
  have hfu : (storeM m i (encN w)).fuse = fzN m 1 := by
    unfold storeM fzN; rw [if_neg hf]
    show (if m.fuse > 0 then _ else _) = _
    unfold Pw at p
    split
    · rw [if_neg (by omega), iSub_i64 (by omega) (by omega)]; rfl
    · rw [if_pos (by omega)]
  have hst : St m (storeM m i (encN w)) 1 := ⟨store_n _ _ _, hfu, by unfold storeM; rw [if_neg hf], by unfold storeM; rw [if_neg hf]⟩
  refine ⟨⟨ok_store v.ok (enc39 _), hst.n.trans v.num, fun j hj => ?_, fun j hj => ?_, ?_⟩, hst, ?_⟩
  · by_cases e : j = i
    · subst e; rw [upd_at]; exact hw
    · rw [upd_ne _ _ e]; exact v.lt j hj
  · rw [store_at v.ok (by rw [v.num]; exact hj) hf]
    by_cases e : j = i
    · subst e; rw [if_pos rfl, upd_at, upd_at]; exact Or.inl ⟨rfl, rfl⟩
    · rw [if_neg (fun x => e x.symm), upd_ne _ _ e, upd_ne _ _ e]; exact v.at_ j hj
  · rw [hfu]
    rcases v.fz with h | h
    · left; unfold fzN; rw [if_pos h]; exact h
    · right
      intro j hj
      by_cases e : j = i
      · subst e; rw [upd_at]; omega
      · rw [upd_ne _ _ e]; exact h j hj
  · unfold Pw at p ⊢
    rw [hfu]; unfold fzN
    split <;> omega
theorem Vw.write {a : Int} {i w c : Nat} (ha : a = (i : Nat)) (hi : i < n) (hw : w < 2 ^ 32) (p : Pw m (c + 1)) : Vw (writeS m a w) n (upd V i w) (upd E i 0) ∧ St m (writeS m a w) 1 ∧ Pw (writeS m a w) c := by
  have : writeS m a w = storeM m i (encN w) := by
    unfold writeS; rw [inM_iff.2 (by rw [v.num]; omega)]; show storeM m a.toNat _ = _; rw [ha, Int.toNat_natCast]
  rw [this]; exact v.store hi hw p
end
def wV (V : Nat → Nat) (a k : Nat) (s : ByteArray) (i : Nat) : Nat → Nat := fun j => if a ≤ j ∧ j < a + k then wordB s (i + 4 * (j - a)) else V j
def wE (E : Nat → Nat) (a k : Nat) : Nat → Nat := fun j => if a ≤ j ∧ j < a + k then 0 else E j
theorem Vw.congr {m : Mem} {n : Nat} {V E V' E' : Nat → Nat} (v : Vw m n V E) (hV : ∀ j, j < n → V' j = V j) (hE : ∀ j, j < n → E' j = E j) : Vw m n V' E' :=
  ⟨v.ok, v.num, fun j hj => by rw [hV j hj]; exact v.lt j hj, fun j hj => by rw [hV j hj, hE j hj]; exact v.at_ j hj, by
    rcases v.fz with h | h
    · exact Or.inl h
    · exact Or.inr fun j hj => by rw [hE j hj]; exact h j hj⟩
theorem wb_vw (s : ByteArray) {n : Nat} : ∀ (k : Nat) {m : Mem} {V E : Nat → Nat} (a i c : Nat), Vw m n V E → Pw m (k + c) → a + k ≤ n → Vw (wbM k m a s i) n (wV V a k s i) (wE E a k) ∧ St m (wbM k m a s i) k ∧ Pw (wbM k m a s i) c
  | 0, m, V, E, a, i, c, v, p, _ => ⟨v.congr (fun j _ => if_neg (by omega)) (fun j _ => if_neg (by omega)), St.refl m, by rw [Nat.zero_add] at p; exact p⟩
  | k + 1, m, V, E, a, i, c, v, p, h => by
    obtain ⟨v1, s1, p1⟩ := v.store (i := a) (w := wordB s i) (c := k + c) (by omega) (wordB_lt _ _) (by rw [show k + c + 1 = k + 1 + c by omega]; exact p)
    obtain ⟨v2, s2, p2⟩ := wb_vw s k (a + 1) (i + 4) c v1 p1 (by omega)
    refine ⟨v2.congr (fun j _ => ?_) (fun j _ => ?_), s1.trans s2 (by omega) (by unfold Pw at p; omega), p2⟩
    · unfold wV
      by_cases e : j = a
      · subst e; rw [if_pos (by omega), if_neg (by omega), upd_at, Nat.sub_self]; rfl
      · rw [upd_ne _ _ e]
        by_cases h1 : a ≤ j ∧ j < a + (k + 1)
        · rw [if_pos h1, if_pos (by omega), show i + 4 + 4 * (j - (a + 1)) = i + 4 * (j - a) by omega]
        · rw [if_neg h1, if_neg (by omega)]
    · unfold wE
      by_cases e : j = a
      · subst e; rw [if_pos (by omega), if_neg (by omega), upd_at]
      · rw [upd_ne _ _ e]
        by_cases h1 : a ≤ j ∧ j < a + (k + 1)
        · rw [if_pos h1, if_pos (by omega)]
        · rw [if_neg h1, if_neg (by omega)]
/-- A header is written. -/
theorem hw_vw {n : Nat} {m : Mem} {V E : Nat → Nat} {a : Int} {A c w0 w1 w2 w3 w4 : Nat} (v : Vw m n V E) (p : Pw m (5 + c)) (ha : a = (A : Nat)) (hA : A + 5 ≤ n) (h0 : w0 < 2 ^ 32) (h1 : w1 < 2 ^ 32) (h2 : w2 < 2 ^ 32) (h3 : w3 < 2 ^ 32) (h4 : w4 < 2 ^ 32) {w : List Int}
    (hw : w = [((w0 : Nat) : Int), ((w1 : Nat) : Int), ((w2 : Nat) : Int), ((w3 : Nat) : Int), ((w4 : Nat) : Int)]) :
    ∃ V' E', Vw (hwM 5 1 m a w) n V' E' ∧ St m (hwM 5 1 m a w) 5 ∧ Pw (hwM 5 1 m a w) c ∧ V' A = w0 ∧ V' (A + 1) = w1 ∧ V' (A + 2) = w2 ∧ V' (A + 3) = w3 ∧ V' (A + 4) = w4 ∧ (∀ j, j < 5 → E' (A + j) = 0) ∧ ∀ j, j < A ∨ A + 5 ≤ j → V' j = V j ∧ E' j = E j := by
  subst hw
  have e : hwM 5 1 m a [((w0 : Nat) : Int), ((w1 : Nat) : Int), ((w2 : Nat) : Int), ((w3 : Nat) : Int), ((w4 : Nat) : Int)] =
      writeS (writeS (writeS (writeS (writeS m (a + ((1 : Nat) : Int)) w1) (a + ((2 : Nat) : Int)) w2) (a + ((3 : Nat) : Int)) w3) (a + ((4 : Nat) : Int)) w4) (a + ((0 : Nat) : Int)) w0 := rfl
  obtain ⟨v1, s1, p1⟩ := v.write (a := a + ((1 : Nat) : Int)) (i := A + 1) (w := w1) (c := 4 + c) (by omega) (by omega) h1 (p.le (by omega))
  obtain ⟨v2, s2, p2⟩ := v1.write (a := a + ((2 : Nat) : Int)) (i := A + 2) (w := w2) (c := 3 + c) (by omega) (by omega) h2 (p1.le (by omega))
  obtain ⟨v3, s3, p3⟩ := v2.write (a := a + ((3 : Nat) : Int)) (i := A + 3) (w := w3) (c := 2 + c) (by omega) (by omega) h3 (p2.le (by omega))
  obtain ⟨v4, s4, p4⟩ := v3.write (a := a + ((4 : Nat) : Int)) (i := A + 4) (w := w4) (c := 1 + c) (by omega) (by omega) h4 (p3.le (by omega))
  obtain ⟨v5, s5, p5⟩ := v4.write (a := a + ((0 : Nat) : Int)) (i := A) (w := w0) (c := c) (by omega) (by omega) h0 (p4.le (by omega))
  rw [e]
  refine ⟨_, _, v5, ?_, p5, ?_, ?_, ?_, ?_, ?_, fun j hj => ?_, fun j hj => ?_⟩
  · unfold Pw at p
    exact (((s1.trans s2 rfl (by omega)).trans s3 rfl (by omega)).trans s4 rfl (by omega)).trans s5 rfl (by omega)
  · rw [upd_at]
  · rw [upd_ne _ _ (by omega), upd_ne _ _ (by omega), upd_ne _ _ (by omega), upd_ne _ _ (by omega), upd_at]
  · rw [upd_ne _ _ (by omega), upd_ne _ _ (by omega), upd_ne _ _ (by omega), upd_at]
  · rw [upd_ne _ _ (by omega), upd_ne _ _ (by omega), upd_at]
  · rw [upd_ne _ _ (by omega), upd_at]
  · rcases (by omega : j = 0 ∨ j = 1 ∨ j = 2 ∨ j = 3 ∨ j = 4) with rfl | rfl | rfl | rfl | rfl
    · exact upd_at _ _ _
    · rw [upd_ne _ _ (by omega), upd_ne _ _ (by omega), upd_ne _ _ (by omega), upd_ne _ _ (by omega), upd_at]
    · rw [upd_ne _ _ (by omega), upd_ne _ _ (by omega), upd_ne _ _ (by omega), upd_at]
    · rw [upd_ne _ _ (by omega), upd_ne _ _ (by omega), upd_at]
    · rw [upd_ne _ _ (by omega), upd_at]
  · constructor <;> rw [upd_ne _ _ (by omega), upd_ne _ _ (by omega), upd_ne _ _ (by omega), upd_ne _ _ (by omega), upd_ne _ _ (by omega)]
end Go.Am.Pat
