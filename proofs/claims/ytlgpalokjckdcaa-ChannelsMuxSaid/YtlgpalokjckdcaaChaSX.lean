/-
  Channels: the best by a rule; a mux's numbers. Own work.
-/
import Derived.Test.YtlgpalokjckdcaaChaGC
namespace Go.Am.Cha
open Go Go.Am Go.Am.Lib
set_option maxRecDepth 100000

def topV (val : Nat → Nat) (l : List Nat) : Nat := l.foldl (fun m a => max m (val a)) 0
theorem topV_snoc (val : Nat → Nat) (l : List Nat) (s : Nat) : topV val (l ++ [s]) = max (topV val l) (val s) := by
 unfold topV
 rw [List.foldl_append]; rfl
theorem topV_le (val : Nat → Nat) (l : List Nat) : ∀ a ∈ l, val a ≤ topV val l := by
 suffices H : ∀ n (l : List Nat), l.length = n → ∀ a ∈ l, val a ≤ topV val l from H _ l rfl
 intro n
 induction n with
 | zero => intro l hl a ha; rw [List.length_eq_zero_iff.1 hl] at ha; cases ha
 | succ n ih =>
  intro l hl a ha
  have hne : l ≠ [] := fun e => by rw [e] at hl; cases hl
  rw [← List.dropLast_concat_getLast hne] at ha ⊢
  rw [topV_snoc]
  rcases List.mem_append.1 ha with ha | ha
  · have := ih l.dropLast (by rw [List.length_dropLast]; omega) a ha
    omega
  · rw [List.mem_singleton.1 ha]; omega
/-- The best are those with the greatest value. -/
theorem best_eq (val : Nat → Nat) (l : List Nat) : best val l = l.filter fun a => decide (val a = topV val l) := by
 suffices H : ∀ n (l : List Nat), l.length = n → best val l = l.filter fun a => decide (val a = topV val l) from H _ l rfl
 intro n
 induction n with
 | zero => intro l hl; rw [List.length_eq_zero_iff.1 hl]; rfl
 | succ n ih =>
  intro l hl
  have hne : l ≠ [] := fun e => by rw [e] at hl; cases hl
  obtain ⟨l', s, rfl⟩ : ∃ l' s, l = l' ++ [s] := ⟨_, _, (List.dropLast_concat_getLast hne).symm⟩
  have h1 := ih l' (by rw [List.length_append] at hl; simpa using hl)
  rw [best_snoc, topV_snoc, List.filter_append]
  cases hb : best val l' with
  | nil =>
   have he : l' = [] := by
    by_cases h : l' = []
    · exact h
    · exact absurd hb (best_ne h)
   subst he
   show [s] = [] ++ [s].filter _
   have : topV val [] = 0 := rfl
   rw [this, Nat.zero_max]
   simp
  | cons o r =>
   have ho : val o = topV val l' := by
    have : o ∈ best val l' := by rw [hb]; exact List.mem_cons_self ..
    rw [h1] at this
    exact of_decide_eq_true (List.mem_filter.1 this).2
   show (if val o < val s then [s] else if val s = val o then o :: r ++ [s] else o :: r) = _
   rw [ho]
   by_cases c1 : topV val l' < val s
   · rw [if_pos c1, show max (topV val l') (val s) = val s from by omega]
     have e1 : (l'.filter fun a => decide (val a = val s)) = [] := by
      rw [List.filter_eq_nil_iff]
      intro a ha e
      have h2 := topV_le val l' a ha
      have h3 := of_decide_eq_true e
      omega
     rw [e1]
     simp
   · rw [if_neg c1, show max (topV val l') (val s) = topV val l' from by omega]
     by_cases c2 : val s = topV val l'
     · rw [if_pos c2, ← hb, h1]
       simp [c2]
     · rw [if_neg c2, ← hb, h1]
       simp [c2]
/-! ### a run: all eight channels are full and of one priority -/
end Go.Am.Cha

namespace Go.Am.Cha
open Go Go.Am Go.Am.Lib
open Go.Am.Tmf (FS OkF idleL addE fs0)
set_option maxRecDepth 100000

theorem OkF.up2 {x : FS} {N N' : Nat} (h : OkF x N) (hN : N ≤ N') (h2 : N' ≤ 2 ^ 20) : OkF x N' := { lo := h.lo, hi := h.hi, idle := h.idle, q := h.q, st := Nat.le_trans h.st hN, sv := h.sv, n := h2 }
/-- A mux after N calls. -/
structure OkI (N : Nat) (M : MS) : Prop where
 ok : OkM N M
 i : ∀ k, k < 8 → (M.f k).x.idle ≤ 6
theorem addE_le {x : FS} {p : ByteArray} (h : addE x p = 0) : ¬ 65536 < x.wait + p.size := by
 unfold Tmf.addE at h
 split at h
 · exact absurd h (by decide)
 · split at h
   · exact absurd h (by decide)
   · assumption
theorem okm_one {N : Nat} {M : MS} (h : OkM N M) (hN : N + 1 ≤ 2 ^ 20) {k : Nat} {s : Sr} (hx : OkF s.x (N + 1)) (h1 : s.x.size = M.size) (h2 : s.pr ≤ 7) (h3 : 1 ≤ s.sh ∧ s.sh ≤ 100) (h4 : s.cr ≤ 100) (h5 : s.ct < 256) : OkM (N + 1) { M with f := upd M.f k s } := by
 have hu : ∀ j, upd M.f k s j = if j = k then s else M.f j := fun j => rfl
 refine ⟨h.craft, h.lo, h.hi, h.master, ?_, ?_, ?_, ?_, ?_, ?_⟩
 all_goals
  intro j hj
  show _
  simp only [hu]
  split
  · assumption
  · first
    | exact OkF.up2 (h.x j hj) (Nat.le_succ N) hN
    | exact h.sz j hj
    | exact h.pr j hj
    | exact h.sh j hj
    | exact h.cr j hj
    | exact h.ct j hj
theorem OkI.add {N : Nat} {M : MS} (h : OkI N M) (hN : N + 1 ≤ 2 ^ 20) {k : Nat} (hk : k < 8) (p : ByteArray) : OkI (N + 1) (addM M k p) := by
 have hx := h.ok.x k hk
 have hi := h.i k hk
 have hnew : OkF (if addE (M.f k).x p = 0 then (M.f k).x.add p.data.toList else (M.f k).x) (N + 1) ∧ (if addE (M.f k).x p = 0 then (M.f k).x.add p.data.toList else (M.f k).x).size = (M.f k).x.size ∧ (if addE (M.f k).x p = 0 then (M.f k).x.add p.data.toList else (M.f k).x).idle = (M.f k).x.idle := by
  split
  · rename_i h0
    exact ⟨hx.add hN (by omega) (addE_le h0), rfl, rfl⟩
  · exact ⟨OkF.up2 hx (Nat.le_succ N) hN, rfl, rfl⟩
 refine ⟨okm_one h.ok hN hnew.1 (hnew.2.1.trans (h.ok.sz k hk)) (h.ok.pr k hk) (h.ok.sh k hk) (h.ok.cr k hk) (h.ok.ct k hk), fun j hj => ?_⟩
 show (upd M.f k _ j).x.idle ≤ 6
 unfold upd
 split
 · rw [hnew.2.2]; exact hi
 · exact h.i j hj
theorem next_idle6 (x : FS) : (x.next idleL).idle ≤ 6 := by
 show (x.pad idleL).idle ≤ 6
 unfold Tmf.FS.pad
 split
 · show max (x.size - x.q.length) 7 - (x.size - x.q.length) ≤ 6
   omega
 · exact Nat.zero_le _
theorem next_size (x : FS) : (x.next idleL).size = x.size := by
 show (x.pad idleL).size = x.size
 unfold Tmf.FS.pad
 split <;> rfl
theorem OkI.next {N : Nat} {M : MS} (h : OkI N M) (hN : N + 1 ≤ 2 ^ 20) (hw : waitJ M 8 ≠ []) {k : Nat} (hk : k < 8) : OkI (N + 1) (tickM (fieldM (chooseM M) k) k) := by
 have hc := h.ok.choose hw
 have h1 : OkM (N + 1) (fieldM (chooseM M) k) := okm_one hc hN ((hc.x k hk).next hN) ((next_size _).trans (hc.sz k hk)) (hc.pr k hk) (hc.sh k hk) (hc.cr k hk) (hc.ct k hk)
 have hi : ∀ j, j < 8 → ((fieldM (chooseM M) k).f j).x.idle ≤ 6 := by
  intro j hj
  show (upd (chooseM M).f k _ j).x.idle ≤ 6
  unfold upd
  split
  · exact next_idle6 _
  · rw [chooseM_x]; exact h.i j hj
 have hu : ∀ j, (tickM (fieldM (chooseM M) k) k).f j = if j = k then { (fieldM (chooseM M) k).f k with ct := (((fieldM (chooseM M) k).f k).ct + 1) % 256 } else (fieldM (chooseM M) k).f j := fun j => rfl
 refine ⟨⟨h1.craft, h1.lo, h1.hi, Nat.mod_lt _ (by decide), ?_, ?_, ?_, ?_, ?_, ?_⟩, ?_⟩
 all_goals
  intro j hj
  rw [hu j]
  split
  · first
    | exact h1.x k hk
    | exact h1.sz k hk
    | exact h1.pr k hk
    | exact h1.sh k hk
    | exact h1.cr k hk
    | exact Nat.mod_lt _ (by decide)
    | exact hi k hk
  · first
    | exact h1.x j hj
    | exact h1.sz j hj
    | exact h1.pr j hj
    | exact h1.sh j hj
    | exact h1.cr j hj
    | exact h1.ct j hj
    | exact hi j hj
end Go.Am.Cha
