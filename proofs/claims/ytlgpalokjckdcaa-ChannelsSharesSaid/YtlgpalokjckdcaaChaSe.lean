/-
  Channels: a run of as many frames as the sum of the shares. Own work; plain mathematics.
-/
import Derived.Test.YtlgpalokjckdcaaChaSd
namespace Go.Am.Cha
open Go Go.Am Go.Am.Lib
open Go.Am.Tmf (FS OkF idleL addE fs0)
set_option maxRecDepth 100000

/-- The mux behind a frame of channel k. -/
def afterK (M : MS) (k : Nat) : MS := tickM (fieldM (chooseM M) k) k
theorem after_f (M : MS) (k j : Nat) : ((afterK M k).f j).cr = ((chooseM M).f j).cr ∧ ((afterK M k).f j).pr = (M.f j).pr ∧ ((afterK M k).f j).sh = (M.f j).sh := by
  have hp := filled_keep M (bests M) j
  have hc : ((chooseM M).f j).pr = ((filled M (bests M)).f j).pr ∧ ((chooseM M).f j).sh = ((filled M (bests M)).f j).sh := by
    show ((upd (filled M (bests M)).f (chosen M) _ j).pr = _) ∧ ((upd (filled M (bests M)).f (chosen M) _ j).sh = _)
    unfold upd
    split
    · rename_i e; subst e; exact ⟨rfl, rfl⟩
    · exact ⟨rfl, rfl⟩
  have hf : ((fieldM (chooseM M) k).f j).cr = ((chooseM M).f j).cr ∧ ((fieldM (chooseM M) k).f j).pr = ((chooseM M).f j).pr ∧ ((fieldM (chooseM M) k).f j).sh = ((chooseM M).f j).sh := by
    show ((upd (chooseM M).f k _ j).cr = _) ∧ ((upd (chooseM M).f k _ j).pr = _) ∧ ((upd (chooseM M).f k _ j).sh = _)
    unfold upd
    split
    · rename_i e; subst e; exact ⟨rfl, rfl, rfl⟩
    · exact ⟨rfl, rfl, rfl⟩
  have ht : ((afterK M k).f j).cr = ((fieldM (chooseM M) k).f j).cr ∧ ((afterK M k).f j).pr = ((fieldM (chooseM M) k).f j).pr ∧ ((afterK M k).f j).sh = ((fieldM (chooseM M) k).f j).sh := by
    show ((upd (fieldM (chooseM M) k).f k _ j).cr = _) ∧ ((upd (fieldM (chooseM M) k).f k _ j).pr = _) ∧ ((upd (fieldM (chooseM M) k).f k _ j).sh = _)
    unfold upd
    split
    · rename_i e; subst e; exact ⟨rfl, rfl, rfl⟩
    · exact ⟨rfl, rfl, rfl⟩
  exact ⟨ht.1.trans hf.1, ht.2.1.trans (hf.2.1.trans (hc.1.trans hp.1)), ht.2.2.trans (hf.2.2.trans (hc.2.trans hp.2.1))⟩
theorem choose_cr (M : MS) (j : Nat) : ((chooseM M).f j).cr = if j = chosen M then ((filled M (bests M)).f j).cr - 1 else ((filled M (bests M)).f j).cr := by
  show (upd (filled M (bests M)).f (chosen M) _ j).cr = _
  unfold upd
  split
  · rename_i e; subst e; rfl
  · rfl
/-- i frames of a run are made, many of each channel. -/
def RunI (M : MS) (many : Nat → Nat) (i : Nat) : Prop :=
  (i = 0 ∧ ∀ k, k < 8 → many k = 0 ∧ (M.f k).cr = 0) ∨ (0 < i ∧ sum8 many = i ∧ ∀ k, k < 8 → (M.f k).cr + many k = (M.f k).sh)
theorem sum8_bump {g : Nat → Nat} {k : Nat} (hk : k < 8) : sum8 (fun j => if j = k then g j + 1 else g j) = sum8 g + 1 := by
  unfold sum8
  match k, hk with
  | 0, _ | 1, _ | 2, _ | 3, _ | 4, _ | 5, _ | 6, _ | 7, _ => simp <;> omega
theorem sum8_le {g : Nat → Nat} {k : Nat} (hk : k < 8) : g k ≤ sum8 g := by
  unfold sum8
  match k, hk with
  | 0, _ | 1, _ | 2, _ | 3, _ | 4, _ | 5, _ | 6, _ | 7, _ => omega
theorem sum8_congr {g g' : Nat → Nat} (h : ∀ k, k < 8 → g k = g' k) : sum8 g = sum8 g' := by
  unfold sum8
  rw [h 0 (by decide), h 1 (by decide), h 2 (by decide), h 3 (by decide), h 4 (by decide), h 5 (by decide), h 6 (by decide), h 7 (by decide)]
theorem sum8_add (g g' : Nat → Nat) : sum8 (fun k => g k + g' k) = sum8 g + sum8 g' := by
  unfold sum8
  dsimp only
  omega
theorem RunI.step {N : Nat} {M : MS} {many : Nat → Nat} {i : Nat} (h : RunI M many i) (ho : OkM N M) (hf : Full M) (hi : i < sum8 fun k => (M.f k).sh) :
    RunI (afterK M (chosen M)) (fun j => if j = chosen M then many j + 1 else many j) (i + 1) := by
  have hw : waitJ M 8 ≠ [] := by rw [hf.wait8]; decide
  have hk : chosen M < 8 := bests_lt (topS_mem (bests_ne hw))
  have hcc := chosen_credit ho hw
  have hfil : ∀ j, j < 8 → ((filled M (bests M)).f j).cr + many j = (M.f j).sh := by
    rcases h with ⟨-, h0⟩ | ⟨-, hs, h1⟩
    · intro j hj
      rw [filled_zero hf (fun k hk => (h0 k hk).2) hj, (h0 j hj).1]; rfl
    · have hpos : 0 < sum8 fun k => (M.f k).cr := by
        have h2 := sum8_add (fun k => (M.f k).cr) many
        have h3 : sum8 (fun k => (M.f k).cr + many k) = sum8 fun k => (M.f k).sh := sum8_congr h1
        omega
      obtain ⟨j0, hj0, hp⟩ := sum8_pos hpos
      intro j hj
      rw [filled_some hf hj0 hp]
      exact h1 j hj
  refine .inr ⟨by omega, ?_, fun j hj => ?_⟩
  · rw [sum8_bump hk]
    rcases h with ⟨h0, h1⟩ | ⟨-, hs, -⟩
    · have : sum8 many = 0 := by
        rw [sum8_congr (g' := fun _ => 0) fun k hk => (h1 k hk).1]; rfl
      omega
    · omega
  · obtain ⟨a1, -, a3⟩ := after_f M (chosen M) j
    rw [a1, a3, choose_cr]
    have h4 := hfil j hj
    show _ + (if j = chosen M then many j + 1 else many j) = _
    by_cases e : j = chosen M
    · rw [if_pos e, if_pos e]
      rw [← e] at hcc
      omega
    · rw [if_neg e, if_neg e]
      exact h4
/-- Behind a run: each channel has its share; no credit is left. -/
theorem RunI.done {M : MS} {many : Nat → Nat} (h : RunI M many (sum8 fun k => (M.f k).sh)) (hp : 0 < sum8 fun k => (M.f k).sh) : ∀ k, k < 8 → many k = (M.f k).sh ∧ (M.f k).cr = 0 := by
  rcases h with ⟨h0, -⟩ | ⟨-, hs, h1⟩
  · omega
  · have h2 := sum8_add (fun k => (M.f k).cr) many
    have h3 : sum8 (fun k => (M.f k).cr + many k) = sum8 fun k => (M.f k).sh := sum8_congr h1
    have h4 : sum8 (fun k => (M.f k).cr) = 0 := by omega
    intro k hk
    have h5 := h1 k hk
    have h6 : (M.f k).cr ≤ sum8 fun k => (M.f k).cr := sum8_le (g := fun k => (M.f k).cr) hk
    omega
end Go.Am.Cha
