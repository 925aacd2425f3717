/-
  Channels: the best by a rule are those with the greatest value, in order; the credits of a run. Own work; plain mathematics.
-/
import Derived.Test.YtlgpalokjckdcaaChaGC
namespace Go.Am.Cha
open Go Go.Am Go.Am.Lib
set_option maxRecDepth 100000

def topV (val : Nat → Nat) (l : List Nat) : Nat := l.foldl (fun m a => max m (val a)) 0
theorem topV_snoc (val : Nat → Nat) (l : List Nat) (s : Nat) : topV val (l ++ [s]) = max (topV val l) (val s) := by
  unfold topV
  rw [List.foldl_append]; rfl
theorem topV_le (val : Nat → Nat) (l : List Nat) : ∀ a ∈ l, val a ≤ topV val l := by
  suffices H : ∀ n (l : List Nat), l.length = n → ∀ a ∈ l, val a ≤ topV val l from H _ l rfl
  intro n
  induction n with
  | zero => intro l hl a ha; rw [List.length_eq_zero_iff.1 hl] at ha; cases ha
  | succ n ih =>
    intro l hl a ha
    have hne : l ≠ [] := fun e => by rw [e] at hl; cases hl
    rw [← List.dropLast_concat_getLast hne] at ha ⊢
    rw [topV_snoc]
    rcases List.mem_append.1 ha with ha | ha
    · have := ih l.dropLast (by rw [List.length_dropLast]; omega) a ha
      omega
    · rw [List.mem_singleton.1 ha]; omega
/-- The best are those with the greatest value. -/
theorem best_eq (val : Nat → Nat) (l : List Nat) : best val l = l.filter fun a => decide (val a = topV val l) := by
  suffices H : ∀ n (l : List Nat), l.length = n → best val l = l.filter fun a => decide (val a = topV val l) from H _ l rfl
  intro n
  induction n with
  | zero => intro l hl; rw [List.length_eq_zero_iff.1 hl]; rfl
  | succ n ih =>
    intro l hl
    have hne : l ≠ [] := fun e => by rw [e] at hl; cases hl
    obtain ⟨l', s, rfl⟩ : ∃ l' s, l = l' ++ [s] := ⟨_, _, (List.dropLast_concat_getLast hne).symm⟩
    have h1 := ih l' (by rw [List.length_append] at hl; simpa using hl)
    rw [best_snoc, topV_snoc, List.filter_append]
    cases hb : best val l' with
    | nil =>
      have he : l' = [] := by
        by_cases h : l' = []
        · exact h
        · exact absurd hb (best_ne h)
      subst he
      show [s] = [] ++ [s].filter _
      have : topV val [] = 0 := rfl
      rw [this, Nat.zero_max]
      simp
    | cons o r =>
      have ho : val o = topV val l' := by
        have : o ∈ best val l' := by rw [hb]; exact List.mem_cons_self ..
        rw [h1] at this
        exact of_decide_eq_true (List.mem_filter.1 this).2
      show (if val o < val s then [s] else if val s = val o then o :: r ++ [s] else o :: r) = _
      rw [ho]
      by_cases c1 : topV val l' < val s
      · rw [if_pos c1, show max (topV val l') (val s) = val s from by omega]
        have e1 : (l'.filter fun a => decide (val a = val s)) = [] := by
          rw [List.filter_eq_nil_iff]
          intro a ha e
          have h2 := topV_le val l' a ha
          have h3 := of_decide_eq_true e
          omega
        rw [e1]
        simp
      · rw [if_neg c1, show max (topV val l') (val s) = topV val l' from by omega]
        by_cases c2 : val s = topV val l'
        · rw [if_pos c2, ← hb, h1]
          simp [c2]
        · rw [if_neg c2, ← hb, h1]
          simp [c2]
theorem best_const {val : Nat → Nat} {l : List Nat} {v : Nat} (h : ∀ a ∈ l, val a = v) : best val l = l := by
  by_cases hl : l = []
  · subst hl; rfl
  · rw [best_eq, List.filter_eq_self]
    intro a ha
    refine decide_eq_true ?_
    have hm := head_mem (best_ne (val := val) hl)
    have h1 := best_mem hm
    generalize (best val l).headD 0 = q at hm h1
    rw [best_eq] at hm
    rw [← of_decide_eq_true (List.mem_filter.1 hm).2, h a ha, h q h1]
theorem best_top {val : Nat → Nat} {l : List Nat} (hl : l ≠ []) : val ((best val l).headD 0) = topV val l := by
  have hm := head_mem (best_ne (val := val) hl)
  rw [best_eq] at hm ⊢
  exact of_decide_eq_true (List.mem_filter.1 hm).2
/-! ### a run: all eight channels are full and of one priority -/
def range8 : List Nat := List.range 8
/-- In each channel waits a whole field; all have one priority. -/
structure Full (M : MS) : Prop where
  w : ∀ k, k < 8 → M.size ≤ (M.f k).x.wait
  s : 0 < M.size
  p : ∀ k, k < 8 → (M.f k).pr = 0
theorem Full.wait8 {M : MS} (h : Full M) : waitJ M 8 = List.range 8 := by
  unfold waitJ
  rw [List.filter_eq_self]
  intro k hk
  have h1 := h.w k (List.mem_range.1 hk)
  have h2 := h.s
  exact decide_eq_true (by omega)
theorem Full.bests {M : MS} (h : Full M) : bests M = List.range 8 := by
  unfold Cha.bests
  rw [h.wait8, best_const (val := fullM M) (v := 1), best_const (v := 0)]
  · intro a ha
    exact h.p a (List.mem_range.1 ha)
  · intro a ha
    have h1 := h.w a (List.mem_range.1 ha)
    have h2 := Nat.div_pos h1 h.s
    unfold fullM
    omega
def sum8 (g : Nat → Nat) : Nat := g 0 + g 1 + g 2 + g 3 + g 4 + g 5 + g 6 + g 7
theorem sum8_pos {g : Nat → Nat} (h : 0 < sum8 g) : ∃ k, k < 8 ∧ 0 < g k := by
  unfold sum8 at h
  by_cases h0 : 0 < g 0
  · exact ⟨0, by decide, h0⟩
  by_cases h1 : 0 < g 1
  · exact ⟨1, by decide, h1⟩
  by_cases h2 : 0 < g 2
  · exact ⟨2, by decide, h2⟩
  by_cases h3 : 0 < g 3
  · exact ⟨3, by decide, h3⟩
  by_cases h4 : 0 < g 4
  · exact ⟨4, by decide, h4⟩
  by_cases h5 : 0 < g 5
  · exact ⟨5, by decide, h5⟩
  by_cases h6 : 0 < g 6
  · exact ⟨6, by decide, h6⟩
  · exact ⟨7, by decide, by omega⟩
theorem topS_range {M : MS} {k : Nat} (hk : k < 8) : (M.f k).cr ≤ (M.f (topS M (List.range 8))).cr := by
  have h1 : (M.f (topS M (List.range 8))).cr = topV (fun k => (M.f k).cr) (List.range 8) := best_top (val := fun k => (M.f k).cr) (by decide)
  rw [h1]
  exact topV_le (fun k => (M.f k).cr) _ k (List.mem_range.2 hk)
/-- No credit is left: all get their share anew. -/
theorem filled_zero {M : MS} (h : Full M) (h0 : ∀ k, k < 8 → (M.f k).cr = 0) {k : Nat} (hk : k < 8) : ((filled M (Cha.bests M)).f k).cr = (M.f k).sh := by
  rw [h.bests]
  have ht : topS M (List.range 8) < 8 := List.mem_range.1 (topS_mem (by decide))
  unfold filled
  rw [if_pos (h0 _ ht)]
  show (refF M.f (M.f 0).pr 8 k).cr = _
  unfold refF
  rw [if_pos ⟨hk, by rw [h.p k hk, h.p 0 (by decide)]⟩]
/-- Some credit is left: nothing changes. -/
theorem filled_some {M : MS} (h : Full M) {j : Nat} (hj : j < 8) (h1 : 0 < (M.f j).cr) : filled M (Cha.bests M) = M := by
  rw [h.bests]
  have := topS_range (M := M) hj
  unfold filled
  rw [if_neg (by omega)]
end Go.Am.Cha
