/-
  Channels: the reference's NewMux; Clear. Own work.
-/
import Derived.Test.YtlgpalokjckdcaaChaMZ
import Derived.Test.YtlgpalokjckdcaaChaGF
import Derived.Test.YtlgpalokjckdcaaTmfQX
namespace Go.Am.Cha
open Go Go.Am Go.Am.Lib Go.Lib Go.Proofs Go.RowKit
open Go.Am.Own
open Go.Am.Tmf (FS RS RAt RC OkF idleL Rel rs0)
set_option maxRecDepth 100000

def flP (bk : Nat → Nat) (n k : Nat) : Value := if k < n then .pointer (some ⟨bk k, 0, none⟩) else .pointer none
/-- The cells of the reference's mux behind n fillers. -/
def rmP (bk : Nat → Nat) (crf sz : Int) (P Q : Nat → Int) (n : Nat) : Array Value := #[.int .i64 crf, .int .i64 sz, .int .i64 (P 0), .int .i64 (P 1), .int .i64 (P 2), .int .i64 (P 3), .int .i64 (P 4), .int .i64 (P 5), .int .i64 (P 6), .int .i64 (P 7), .int .i64 (Q 0), .int .i64 (Q 1), .int .i64 (Q 2), .int .i64 (Q 3), .int .i64 (Q 4), .int .i64 (Q 5), .int .i64 (Q 6), .int .i64 (Q 7), flP bk n 0, flP bk n 1, flP bk n 2, flP bk n 3, flP bk n 4, flP bk n 5, flP bk n 6, flP bk n 7, .int .i64 0, .int .i64 0, .int .i64 0, .int .i64 0, .int .i64 0, .int .i64 0, .int .i64 0, .int .i64 0, .int .i64 0, .int .i64 0, .int .i64 0, .int .i64 0, .int .i64 0, .int .i64 0, .int .i64 0, .int .i64 0, .int .i64 0]
theorem rmP_at (bk : Nat → Nat) (crf sz : Int) (P Q : Nat → Int) {n : Nat} (h : n < 8) : (rmP bk crf sz P Q n)[18 + n]? = some (.pointer none) := by
 match n, h with
 | 0, _ | 1, _ | 2, _ | 3, _ | 4, _ | 5, _ | 6, _ | 7, _ => rfl
theorem rmP_set (bk : Nat → Nat) (crf sz : Int) (P Q : Nat → Int) {n : Nat} (h : n < 8) : (rmP bk crf sz P Q n).setIfInBounds (18 + n) (.pointer (some ⟨bk n, 0, none⟩)) = rmP bk crf sz P Q (n + 1) := by
 match n, h with
 | 0, _ | 1, _ | 2, _ | 3, _ | 4, _ | 5, _ | 6, _ | 7, _ => rfl
theorem flP_congr {bk bk' : Nat → Nat} {n k : Nat} (h : ∀ k, k < n → bk k = bk' k) : flP bk n k = flP bk' n k := by
 unfold flP
 split
 · rename_i hk; rw [h k hk]
 · rfl
theorem rmP_congr {bk bk' : Nat → Nat} {crf sz : Int} {P Q : Nat → Int} {n : Nat} (h : ∀ k, k < n → bk k = bk' k) : rmP bk crf sz P Q n = rmP bk' crf sz P Q n := by
 unfold rmP
 simp only [flP_congr h]
theorem rmP_end (bk : Nat → Nat) (crf sz : Nat) (P Q : Nat → Int) (h : ∀ k, k < 8 → okPQ P Q k) : rmP bk crf sz P Q 8 = rmC bk ⟨crf, sz, 0, sr0 sz P Q⟩ := by
 have hp : ∀ k, k < 8 → intN (sr0 sz P Q k).pr = .int .i64 (P k) := fun k hk => by
  show Value.int .i64 (((P k).toNat : Nat) : Int) = _
  rw [Int.toNat_of_nonneg (h k hk).1]
 have hq : ∀ k, k < 8 → intN (sr0 sz P Q k).sh = .int .i64 (Q k) := fun k hk => by
  show Value.int .i64 (((Q k).toNat : Nat) : Int) = _
  have := h k hk
  unfold okPQ at this
  rw [Int.toNat_of_nonneg (by omega)]
 unfold rmC
 rw [hp 0 (by decide), hp 1 (by decide), hp 2 (by decide), hp 3 (by decide), hp 4 (by decide), hp 5 (by decide), hp 6 (by decide), hp 7 (by decide), hq 0 (by decide), hq 1 (by decide), hq 2 (by decide), hq 3 (by decide), hq 4 (by decide), hq 5 (by decide), hq 6 (by decide), hq 7 (by decide)]
 rfl
/-- The reference's mux in the making. -/
structure Rmk (w : World) (mb : Nat) (bk : Nat → Nat) (crf sz : Nat) (P Q : Nat → Int) (n : Nat) (wr : World) : Prop where
 fr : Below w.heap.size w wr
 cell : wr.heap[mb]? = some (.cells (rmP bk crf sz P Q n) 120 (0, 0))
 hmb : w.heap.size ≤ mb
 fil : ∃ Sk : Nat → Nat → Prop, (∀ k, k < n → RAt (Sk k) (bk k) (rs0 sz) wr) ∧ (∀ k, k < n → ∀ m, m < wr.heap.size → Sk k m → w.heap.size ≤ m ∧ m ≠ mb) ∧ ∀ k k', k < n → k' < n → k ≠ k' → ∀ m, m < wr.heap.size → Sk k m → ¬ Sk k' m
variable {w wr w' w1 : World} {mb crf sz n : Nat} {bk bk' : Nat → Nat} {P Q : Nat → Int}
theorem Rmk.lt (h : Rmk w mb bk crf sz P Q n wr) : mb < wr.heap.size := (Array.getElem?_eq_some_iff.1 h.cell).1
theorem Rmk.congr (h : Rmk w mb bk crf sz P Q n wr) (e : ∀ k, k < n → bk k = bk' k) : Rmk w mb bk' crf sz P Q n wr := by
 obtain ⟨Sk, h1, h2, h3⟩ := h.fil
 exact ⟨h.fr, by rw [← rmP_congr e]; exact h.cell, h.hmb, Sk, fun k hk => by rw [← e k hk]; exact h1 k hk, h2, h3⟩
theorem Rmk.below (h : Rmk w mb bk crf sz P Q n wr) (hb : Below wr.heap.size wr w') : Rmk w mb bk crf sz P Q n w' := by
 obtain ⟨Sk, h1, h2, h3⟩ := h.fil
 exact ⟨h.fr.trans (hb.mono h.fr.size), (hb.block mb h.lt).trans h.cell, h.hmb, fun k => ShS (Sk k) wr.heap.size w'.heap.size, fun k hk => ryshrink (h1 k hk) fun m _ hm => hb.block m hm, fun k hk m hm e => h2 k hk m (e.old hm).2 (e.old hm).1, fun k k' a b c m hm e e' => h3 k k' a b c m (e.old hm).2 (e.old hm).1 (e'.old hm).1⟩
theorem Rmk.start (w : World) (crf sz : Nat) (P Q : Nat → Int) (bk : Nat → Nat) {wr : World} (hb : Below w.heap.size w wr) : Rmk w wr.heap.size bk crf sz P Q 0 (wr.alloc (.cells (rmP bk crf sz P Q 0) 120)) :=
 ⟨hb.alloc hb.size _, heap_alloc_new wr _, hb.size, fun _ _ => False, fun k hk => absurd hk (Nat.not_lt_zero k), fun k hk => absurd hk (Nat.not_lt_zero k), fun k _ hk => absurd hk (Nat.not_lt_zero k)⟩
/-- One filler more: it was made between wr and w1. -/
theorem Rmk.step (h : Rmk w mb bk crf sz P Q n wr) (hn : n < 8) (b1 : Below wr.heap.size wr w1) (hf : RAt (fun k => wr.heap.size ≤ k) wr.heap.size (rs0 sz) w1) (hbn : bk n = wr.heap.size) :
 Rmk w mb bk crf sz P Q (n + 1) (w1.setCell ⟨mb, 18 + n, none⟩ (.pointer (some ⟨wr.heap.size, 0, none⟩))) := by
 have hM := h.below b1
 obtain ⟨Sk, h1, h2, h3⟩ := h.fil
 have hlt := h.lt
 have hsz := h.fr.size
 have ho : OnlyB mb w1 (w1.setCell ⟨mb, 18 + n, none⟩ (.pointer (some ⟨wr.heap.size, 0, none⟩))) := (OnlyB.refl mb w1).setCell _ _
 have hc := set_at (o := 18 + n) (v := .pointer (some ⟨wr.heap.size, 0, none⟩)) hM.cell
 rw [← hbn, rmP_set bk crf sz P Q hn, hbn] at hc
 refine ⟨hM.fr.trans ((ho.fr (S := fun k => w.heap.size ≤ k) h.hmb).below fun k hk => by show ¬ w.heap.size ≤ k; omega), hc, h.hmb, fun k => if k = n then (fun m => wr.heap.size ≤ m) else ShS (Sk k) wr.heap.size w1.heap.size, fun k hk => ?_, fun k hk m hm e => ?_, fun k k' hk hk' hne m hm e e' => ?_⟩
 · show RAt (if k = n then _ else _) (bk k) (rs0 sz) _
   by_cases e : k = n
   · subst e
     rw [if_pos rfl, hbn]
     exact rykeep hf (Nat.le_of_eq ho.size.symm) fun m hm _ => ho.rest m (by replace hm : wr.heap.size ≤ m := hm; omega)
   · rw [if_neg e]
     exact rykeep (ryshrink (h1 k (by omega)) fun m _ hm => b1.block m hm) (Nat.le_of_eq ho.size.symm) fun m hm hlt => ho.rest m ((h2 k (by omega) m (hm.old hlt).2 (hm.old hlt).1).2)
 · rw [ho.size] at hm
   replace e : (if k = n then (fun m => wr.heap.size ≤ m) else ShS (Sk k) wr.heap.size w1.heap.size) m := e
   by_cases hkn : k = n
   · rw [if_pos hkn] at e
     replace e : wr.heap.size ≤ m := e
     omega
   · rw [if_neg hkn] at e
     exact h2 k (by omega) m (e.old hm).2 (e.old hm).1
 · rw [ho.size] at hm
   replace e : (if k = n then (fun m => wr.heap.size ≤ m) else ShS (Sk k) wr.heap.size w1.heap.size) m := e
   replace e' : (if k' = n then (fun m => wr.heap.size ≤ m) else ShS (Sk k') wr.heap.size w1.heap.size) m := e'
   by_cases hkn : k = n
   · rw [if_pos hkn] at e
     replace e : wr.heap.size ≤ m := e
     rw [if_neg (by omega)] at e'
     have := (e'.old hm).2
     omega
   · rw [if_neg hkn] at e
     by_cases hkn' : k' = n
     · rw [if_pos hkn'] at e'
       replace e' : wr.heap.size ≤ m := e'
       have := (e.old hm).2
       omega
     · rw [if_neg hkn'] at e'
       exact h3 k k' (by omega) (by omega) hne m (e.old hm).2 (e.old hm).1 (e'.old hm).1
theorem Rmk.done (h : Rmk w mb bk crf sz P Q 8 wr) (hPQ : ∀ k, k < 8 → okPQ P Q k) : RM (fun k => w.heap.size ≤ k) mb bk ⟨crf, sz, 0, sr0 sz P Q⟩ (fun _ => rs0 sz) wr := by
 obtain ⟨Sk, h1, h2, h3⟩ := h.fil
 exact ⟨fun k hk => Nat.le_trans h.fr.size hk, by rw [← rmP_end bk crf sz P Q hPQ]; exact h.cell, h.hmb, Sk, h1, h2, h3⟩
/-- The reference's mux has been made. -/
def RNewOk (w : World) (crf sz : Nat) (P Q : Nat → Int) (e : Ending) (w' : World) : Prop := ∃ mb bk, e = .returned (.tuple #[.pointer (some ⟨mb, 0, none⟩), .int .i64 0]) ∧ RM (fun k => w.heap.size ≤ k) mb bk ⟨crf, sz, 0, sr0 sz P Q⟩ (fun _ => rs0 sz) w' ∧ Below w.heap.size w w'
set_option maxHeartbeats 6400000 in
theorem rnewmux_loop (crf sz : Nat) (P Q : Nat → Int) (w : World) (h0 : crf ≤ 255) (h1 : 32 ≤ sz) (h2 : sz ≤ 200) :
 Calls Try.prog 22 #[.int .i64 ((crf : Nat) : Int), .int .i64 ((sz : Nat) : Int), .agg (arr8 P), .agg (arr8 Q)] w fun e w' => ((∀ k, k < 8 → okPQ P Q k) → RNewOk w crf sz P Q e w') ∧ ((¬ ∀ k, k < 8 → okPQ P Q k) → e = .returned (.tuple #[.pointer none, .int .i64 2]) ∧ Below w.heap.size w w') := by
 have a0 : ¬ ((crf : Nat) : Int) < 0 := by omega
 have a1 : ¬ (255 : Int) < ((crf : Nat) : Int) := by omega
 have hb : Below w.heap.size w (boxW w P Q) := ((Below.refl w.heap.size w).alloc (Nat.le_refl _) _).alloc (by rw [alloc_size]; omega) _
 obtain ⟨B, hB⟩ : ∃ B, w.heap.size = B := ⟨_, rfl⟩
 have e2 : (boxW w P Q).heap[B + 1]? = some (.cells (arr8 Q) 38 (0, 0)) := by rw [← hB, ← alloc_size w (.cells (arr8 P) 38)]; exact heap_alloc_new _ _
 have e1 : (boxW w P Q).heap[B]? = some (.cells (arr8 P) 38 (0, 0)) := by
  rw [← hB]
  exact (((Below.refl _ _).alloc (Nat.le_refl _) _ : Below (w.alloc (.cells (arr8 P) 38)).heap.size _ _).block w.heap.size (by rw [alloc_size]; omega)).trans (heap_alloc_new w _)
 obtain ⟨W2, hW2⟩ : ∃ W, boxW w P Q = W := ⟨_, rfl⟩
 rw [hW2] at hb e1 e2
 have hM := Rmk.start W2 crf sz P Q (fun _ => 0) (Below.refl _ W2)
 have hsz2 : W2.heap.size = B + 2 := by rw [← hW2, ← hB]; unfold boxW; rw [alloc_size, alloc_size]
 have cN := fun w => Tmf.rnew_at ((sz : Nat) : Int) (by omega) (by omega) w
 simp only [Int.toNat_natCast] at cN
 have CN := Lib.hid cN
 unfold boxW arr8 at hW2
 rw [hB] at hb
 have p0 : W2.cell? ⟨B, 0, none⟩ = some (.int .i64 (P 0)) := cell_of e1
 have p1 : W2.cell? ⟨B, 1, none⟩ = some (.int .i64 (P 1)) := cell_of e1
 have p2 : W2.cell? ⟨B, 2, none⟩ = some (.int .i64 (P 2)) := cell_of e1
 have p3 : W2.cell? ⟨B, 3, none⟩ = some (.int .i64 (P 3)) := cell_of e1
 have p4 : W2.cell? ⟨B, 4, none⟩ = some (.int .i64 (P 4)) := cell_of e1
 have p5 : W2.cell? ⟨B, 5, none⟩ = some (.int .i64 (P 5)) := cell_of e1
 have p6 : W2.cell? ⟨B, 6, none⟩ = some (.int .i64 (P 6)) := cell_of e1
 have p7 : W2.cell? ⟨B, 7, none⟩ = some (.int .i64 (P 7)) := cell_of e1
 have q0 : W2.cell? ⟨B + 1, 0, none⟩ = some (.int .i64 (Q 0)) := cell_of e2
 have q1 : W2.cell? ⟨B + 1, 1, none⟩ = some (.int .i64 (Q 1)) := cell_of e2
 have q2 : W2.cell? ⟨B + 1, 2, none⟩ = some (.int .i64 (Q 2)) := cell_of e2
 have q3 : W2.cell? ⟨B + 1, 3, none⟩ = some (.int .i64 (Q 3)) := cell_of e2
 have q4 : W2.cell? ⟨B + 1, 4, none⟩ = some (.int .i64 (Q 4)) := cell_of e2
 have q5 : W2.cell? ⟨B + 1, 5, none⟩ = some (.int .i64 (Q 5)) := cell_of e2
 have q6 : W2.cell? ⟨B + 1, 6, none⟩ = some (.int .i64 (Q 6)) := cell_of e2
 have q7 : W2.cell? ⟨B + 1, 7, none⟩ = some (.int .i64 (Q 7)) := cell_of e2
 obtain ⟨W3, hW3⟩ : ∃ W, W2.alloc (.cells #[.int .i64 ((crf : Nat) : Int), .int .i64 ((sz : Nat) : Int), .int .i64 (P 0), .int .i64 (P 1), .int .i64 (P 2), .int .i64 (P 3), .int .i64 (P 4), .int .i64 (P 5), .int .i64 (P 6), .int .i64 (P 7), .int .i64 (Q 0), .int .i64 (Q 1), .int .i64 (Q 2), .int .i64 (Q 3), .int .i64 (Q 4), .int .i64 (Q 5), .int .i64 (Q 6), .int .i64 (Q 7), .pointer none, .pointer none, .pointer none, .pointer none, .pointer none, .pointer none, .pointer none, .pointer none, .int .i64 0, .int .i64 0, .int .i64 0, .int .i64 0, .int .i64 0, .int .i64 0, .int .i64 0, .int .i64 0, .int .i64 0, .int .i64 0, .int .i64 0, .int .i64 0, .int .i64 0, .int .i64 0, .int .i64 0, .int .i64 0, .int .i64 0] 120) = W := ⟨_, rfl⟩
 have hM3 : Rmk W2 (B + 2) (fun _ => 0) crf sz P Q 0 W3 := by rw [← hW3, ← hsz2]; exact hM
 have HE1 := Lib.hid e1
 have HE2 := Lib.hid e2
 have HB0 := Lib.hid hb
 clear cN e1 e2 hb hM
 unfold arr8
 go_enter Try.func22, Try.ntmps22
 go_wp2
 clear p0 p1 p2 p3 p4 p5 p6 p7 q0 q1 q2 q3 q4 q5 q6 q7
 go_loopw [11] (fun iv wq => ∃ (i : Nat) (bk : Nat → Nat), iv = .int .i64 (i : Nat) ∧ i ≤ 8 ∧ Hid (∀ k, k < i → okPQ P Q k) ∧ Rmk W2 (B + 2) bk crf sz P Q i wq) (fun iv _ => 8 - iOf iv)
 case atStart => exact ⟨0, _, rfl, Nat.zero_le _, fun k hk => absurd hk (Nat.not_lt_zero k), hM3⟩
 case round =>
  clear hM3
  obtain ⟨i, bk, rfl, hi8, hPQ, hR⟩ := hrel
  have HBw := Lib.hid (fun (W : World) (hW : Below W2.heap.size W2 W) => HB0.out.trans (hW.mono (by omega)))
  rcases Nat.lt_or_ge i 8 with hlt | hge
  · have hlt' : ((i : Nat) : Int) < 8 := by omega
    have hmeas : 8 - (i + 1) < 8 - i := by omega
    have bc : ∀ W, Below W2.heap.size W2 W → W.cell? ⟨B, i, none⟩ = some (.int .i64 (P i)) ∧ W.cell? ⟨B + 1, i, none⟩ = some (.int .i64 (Q i)) := fun W hW =>
     ⟨(cell_of ((hW.block B (by omega)).trans HE1.out)).trans (arr8_at P hlt), (cell_of ((hW.block (B + 1) (by omega)).trans HE2.out)).trans (arr8_at Q hlt)⟩
    have BC := Lib.hid bc
    clear bc
    have cN := CN.out wr
    have hcs : okPQ P Q i ∨ P i < 0 ∨ (¬ P i < 0 ∧ 7 < P i) ∨ (¬ P i < 0 ∧ ¬ 7 < P i ∧ Q i < 1) ∨ (¬ P i < 0 ∧ ¬ 7 < P i ∧ ¬ Q i < 1 ∧ 100 < Q i) := by unfold okPQ; omega
    rcases hcs with hok | hcs
    · have q1 : ¬ P i < 0 := by unfold okPQ at hok; omega
      have q2 : ¬ (7 : Int) < P i := by unfold okPQ at hok; omega
      have q3 : ¬ Q i < 1 := by unfold okPQ at hok; omega
      have q4 : ¬ (100 : Int) < Q i := by unfold okPQ at hok; omega
      have hPQ2 : ∀ k, k < i + 1 → okPQ P Q k := fun k hk => by
       by_cases e : k = i
       · subst e; exact hok
       · exact hPQ.out k (by omega)
      have HR := Lib.hid hR
      have HP2 := Lib.hid hPQ2
      obtain ⟨b, hb⟩ : ∃ b, wr.heap.size = b := ⟨_, rfl⟩
      have HBB := Lib.hid hb
      clear hR hPQ2 hPQ hok
      rw [hb] at cN
      clear hb
      go_wp2_with (go_at_call 45; refine cN.mono ?_; clear cN; rintro e V1 ⟨rfl, hf, b1⟩; have hM1 := HR.out.below (by rw [HBB.out]; exact b1); obtain ⟨x1, x2⟩ := BC.out V1 hM1.fr; have c3 : V1.cell? ⟨B + 2, 18 + i, none⟩ = some (.pointer none) := (cell_of hM1.cell).trans (rmP_at bk crf sz P Q hlt); have f3 := fz_of hM1.cell (18 + i))
      have hbk : ∀ k, k < i → bk k = (fun k => if k = i then b else bk k) k := fun k hk => (if_neg (by omega)).symm
      have hS := Rmk.step (HR.out.congr hbk) hlt (by rw [HBB.out]; exact b1) (by rw [HBB.out]; exact hf) (by rw [HBB.out]; exact if_pos rfl)
      rw [HBB.out] at hS
      exact ⟨⟨i + 1, _, by push_cast; rfl, hlt, HP2.out, hS⟩, hmeas⟩
    · have hno : ¬ ∀ k, k < 8 → okPQ P Q k := fun hh => by
       have := hh i hlt
       unfold okPQ at this
       omega
      have HNO := Lib.hid hno
      obtain ⟨Pi, hPi⟩ : ∃ x, P i = x := ⟨_, rfl⟩
      obtain ⟨Qi, hQi⟩ : ∃ x, Q i = x := ⟨_, rfl⟩
      rw [hPi, hQi] at hcs BC
      have HRR := Lib.hid hR.fr
      clear hno hPi hQi hR hPQ
      rcases hcs with q1 | ⟨q1, q2⟩ | ⟨q1, q2, q3⟩ | ⟨q1, q2, q3, q4⟩
      all_goals
       go_wp2_with (go_at_call 45; refine cN.mono ?_; clear cN; rintro e V1 ⟨rfl, hf, b1⟩; have bV := HRR.out.trans (b1.mono HRR.out.size); obtain ⟨x1, x2⟩ := BC.out V1 bV)
       go_ret2
       exact ⟨fun hh => absurd hh HNO.out, fun _ => ⟨rfl, by rw [hB]; exact hB ▸ HBw.out _ bV⟩⟩
  · have hge' : ¬ ((i : Nat) : Int) < 8 := by omega
    have hie : i = 8 := by omega
    subst hie
    have hok : ∀ k, k < 8 → okPQ P Q k := hPQ.out
    have hMC := hR.done hok
    have bW := HBw.out _ hR.fr
    have HM := Lib.hid hMC
    have HOK := Lib.hid hok
    clear hR hMC hok hPQ
    go_wp2
    go_ret2
    exact ⟨fun _ => ⟨B + 2, bk, rfl, HM.out.keep (fun k _ _ => rfl) (fun k hk => by show w.heap.size ≤ k; have := bW.size; omega) fun k _ e => by show w.heap.size ≤ k; replace e : W2.heap.size ≤ k := e; omega, by rw [hB]; exact bW⟩, fun x hx hn => absurd (HOK.out x hx) hn⟩
set_option maxHeartbeats 3200000 in
theorem rnewmux_no (crf sz : Int) (P Q : Nat → Int) (w : World) (h : crf < 0 ∨ 255 < crf ∨ sz < 32 ∨ 200 < sz) :
 Calls Try.prog 22 #[.int .i64 crf, .int .i64 sz, .agg (arr8 P), .agg (arr8 Q)] w fun e w' => e = .returned (.tuple #[.pointer none, .int .i64 2]) ∧ Below w.heap.size w w' := by
 have hb : Below w.heap.size w (boxW w P Q) := ((Below.refl w.heap.size w).alloc (Nat.le_refl _) _).alloc (by rw [alloc_size]; omega) _
 have e2 : (boxW w P Q).heap[w.heap.size + 1]? = some (.cells (arr8 Q) 38 (0, 0)) := by rw [← alloc_size w (.cells (arr8 P) 38)]; exact heap_alloc_new _ _
 have e1 : (boxW w P Q).heap[w.heap.size]? = some (.cells (arr8 P) 38 (0, 0)) :=
  (((Below.refl _ _).alloc (Nat.le_refl _) _ : Below (w.alloc (.cells (arr8 P) 38)).heap.size _ _).block w.heap.size (by rw [alloc_size]; omega)).trans (heap_alloc_new w _)
 obtain ⟨B, hB⟩ : ∃ B, w.heap.size = B := ⟨_, rfl⟩
 rw [hB] at e1 e2 hb
 obtain ⟨W2, hW2⟩ : ∃ W, boxW w P Q = W := ⟨_, rfl⟩
 rw [hW2] at hb e1 e2
 have z0 : W2.cell? ⟨B, 0, none⟩ = some (.int .i64 (P 0)) := cell_of e1
 have z1 : W2.cell? ⟨B, 1, none⟩ = some (.int .i64 (P 1)) := cell_of e1
 have z2 : W2.cell? ⟨B, 2, none⟩ = some (.int .i64 (P 2)) := cell_of e1
 have z3 : W2.cell? ⟨B, 3, none⟩ = some (.int .i64 (P 3)) := cell_of e1
 have z4 : W2.cell? ⟨B, 4, none⟩ = some (.int .i64 (P 4)) := cell_of e1
 have z5 : W2.cell? ⟨B, 5, none⟩ = some (.int .i64 (P 5)) := cell_of e1
 have z6 : W2.cell? ⟨B, 6, none⟩ = some (.int .i64 (P 6)) := cell_of e1
 have z7 : W2.cell? ⟨B, 7, none⟩ = some (.int .i64 (P 7)) := cell_of e1
 have y0 : W2.cell? ⟨B + 1, 0, none⟩ = some (.int .i64 (Q 0)) := cell_of e2
 have y1 : W2.cell? ⟨B + 1, 1, none⟩ = some (.int .i64 (Q 1)) := cell_of e2
 have y2 : W2.cell? ⟨B + 1, 2, none⟩ = some (.int .i64 (Q 2)) := cell_of e2
 have y3 : W2.cell? ⟨B + 1, 3, none⟩ = some (.int .i64 (Q 3)) := cell_of e2
 have y4 : W2.cell? ⟨B + 1, 4, none⟩ = some (.int .i64 (Q 4)) := cell_of e2
 have y5 : W2.cell? ⟨B + 1, 5, none⟩ = some (.int .i64 (Q 5)) := cell_of e2
 have y6 : W2.cell? ⟨B + 1, 6, none⟩ = some (.int .i64 (Q 6)) := cell_of e2
 have y7 : W2.cell? ⟨B + 1, 7, none⟩ = some (.int .i64 (Q 7)) := cell_of e2
 have hbs : B ≤ W2.heap.size := by have := hb.size; omega
 unfold boxW arr8 at hW2
 obtain ⟨W3, hW3⟩ : ∃ W, W2.alloc (.cells #[.int .i64 crf, .int .i64 sz, .int .i64 (P 0), .int .i64 (P 1), .int .i64 (P 2), .int .i64 (P 3), .int .i64 (P 4), .int .i64 (P 5), .int .i64 (P 6), .int .i64 (P 7), .int .i64 (Q 0), .int .i64 (Q 1), .int .i64 (Q 2), .int .i64 (Q 3), .int .i64 (Q 4), .int .i64 (Q 5), .int .i64 (Q 6), .int .i64 (Q 7), .pointer none, .pointer none, .pointer none, .pointer none, .pointer none, .pointer none, .pointer none, .pointer none, .int .i64 0, .int .i64 0, .int .i64 0, .int .i64 0, .int .i64 0, .int .i64 0, .int .i64 0, .int .i64 0, .int .i64 0, .int .i64 0, .int .i64 0, .int .i64 0, .int .i64 0, .int .i64 0, .int .i64 0, .int .i64 0, .int .i64 0] 120) = W := ⟨_, rfl⟩
 have hb3 : Below B w W3 := by rw [← hW3]; exact hb.alloc hbs _
 rw [← hB] at hb3
 clear e1 e2 hb hbs
 have hcs : (sz < 32 ∨ 200 < sz) ∨ ((32 ≤ sz ∧ sz ≤ 200) ∧ (crf < 0 ∨ (¬ crf < 0 ∧ 255 < crf))) := by omega
 clear h
 unfold arr8
 rcases hcs with hs | ⟨hs, hc⟩
 · have cN := fun w => Tmf.rnew_no sz hs w
   clear hs
   go_enter Try.func22, Try.ntmps22
   go_wp2
   clear z0 z1 z2 z3 z4 z5 z6 z7 y0 y1 y2 y3 y4 y5 y6 y7
   go_loopw [11] (fun iv wq => iv = .int .i64 0 ∧ Below w.heap.size w wq) (fun _ _ => 0)
   case atStart => exact ⟨rfl, hb3⟩
   case round =>
    clear hb3
    obtain ⟨rfl, hBl⟩ := hrel
    go_wp2_with (go_at_call 45; refine (cN _).mono ?_; clear cN; rintro e V1 ⟨rfl, rfl⟩)
    go_ret2
    exact ⟨rfl, hBl⟩
 · have cN := fun w => Tmf.rnew_at sz hs.1 hs.2 w
   clear hs
   rcases hc with q1 | ⟨q1, q2⟩
   all_goals
    go_enter Try.func22, Try.ntmps22
    go_wp2
    clear z0 z1 z2 z3 z4 z5 z6 z7 y0 y1 y2 y3 y4 y5 y6 y7
    go_loopw [11] (fun iv wq => iv = .int .i64 0 ∧ Below w.heap.size w wq) (fun _ _ => 0)
    case atStart => exact ⟨rfl, hb3⟩
    case round =>
     clear hb3
     obtain ⟨rfl, hBl⟩ := hrel
     go_wp2_with (go_at_call 45; refine (cN _).mono ?_; clear cN; rintro e V1 ⟨rfl, hf, b1⟩)
     go_ret2
     exact ⟨rfl, hBl.trans (b1.mono hBl.size)⟩
/-- The reference's NewMux of whatever is given. -/
theorem rnewmux_at (crf sz : Int) (P Q : Nat → Int) (w : World) :
 Calls Try.prog 22 #[.int .i64 crf, .int .i64 sz, .agg (arr8 P), .agg (arr8 Q)] w fun e w' => (okNew crf sz P Q → RNewOk w crf.toNat sz.toNat P Q e w') ∧ (¬ okNew crf sz P Q → e = .returned (.tuple #[.pointer none, .int .i64 2]) ∧ Below w.heap.size w w') := by
 by_cases hc : crf < 0 ∨ 255 < crf ∨ sz < 32 ∨ 200 < sz
 · exact (rnewmux_no crf sz P Q w hc).mono fun e w' hh => ⟨fun ho => by unfold okNew at ho; omega, fun _ => hh⟩
 · obtain ⟨c, rfl⟩ : ∃ c : Nat, crf = (c : Int) := ⟨crf.toNat, by omega⟩
   obtain ⟨s, rfl⟩ : ∃ s : Nat, sz = (s : Int) := ⟨sz.toNat, by omega⟩
   refine (rnewmux_loop c s P Q w (by omega) (by omega) (by omega)).mono fun e w' hh => ⟨fun ho => ?_, fun hn => hh.2 fun h8 => hn ⟨by omega, by omega, by omega, by omega, h8⟩⟩
   rw [Int.toNat_natCast, Int.toNat_natCast]
   exact hh.1 ho.2.2.2.2
end Go.Am.Cha

namespace Go.Am.Cha
open Go Go.Am Go.Am.Lib Go.Lib Go.Proofs Go.RowKit
open Go.Am.Own
open Go.Am.Tmf (FS FAt RS RAt RC OkF idleL Rel rs0 fs0)
set_option maxRecDepth 100000

variable {S : Nat → Prop} {mb g cap rb N : Nat} {bk rk : Nat → Nat} {M M' R R' : MS} {ys ys' : Nat → RS} {w wr w' : World}
/-- The program's channels below j are empty. -/
def clearJ (M : MS) (j : Nat) : MS := { M with master := 0, f := fun k => if k < j then ⟨fs0 (M.f k).x.size, (M.f k).pr, (M.f k).sh, 0, 0⟩ else M.f k }
theorem clearJ_zero (M : MS) : clearJ M 0 = { M with master := 0 } := by
 have e : (fun k => if k < 0 then (⟨fs0 (M.f k).x.size, (M.f k).pr, (M.f k).sh, 0, 0⟩ : Sr) else M.f k) = M.f := funext fun k => if_neg (Nat.not_lt_zero k)
 unfold clearJ
 rw [e]
theorem clearJ_at (M : MS) (j : Nat) : (clearJ M j).f j = M.f j := if_neg (Nat.lt_irrefl j)
theorem clearJ_next (M : MS) (j : Nat) : clearJ M (j + 1) = { clearJ M j with f := upd (clearJ M j).f j ⟨fs0 (M.f j).x.size, (M.f j).pr, (M.f j).sh, 0, 0⟩ } := by
 have e : (fun k => if k < j + 1 then (⟨fs0 (M.f k).x.size, (M.f k).pr, (M.f k).sh, 0, 0⟩ : Sr) else M.f k) = upd (clearJ M j).f j ⟨fs0 (M.f j).x.size, (M.f j).pr, (M.f j).sh, 0, 0⟩ := by
  funext k
  by_cases h : k = j
  · subst h; rw [upd_same, if_pos (by omega)]
  · rw [upd_other _ _ h]
    show _ = (if k < j then _ else _)
    by_cases h2 : k < j
    · rw [if_pos h2, if_pos (by omega)]
    · rw [if_neg h2, if_neg (by omega)]
 show ({ M with master := 0, f := _ } : MS) = _
 rw [e]; rfl
theorem upd_upd (f : Nat → Sr) (k : Nat) (a b : Sr) : upd (upd f k a) k b = upd f k b := by
 funext j
 unfold upd
 split <;> rfl
set_option maxHeartbeats 3200000 in
theorem mclear_at (h : MC S mb g cap bk M w) (ho : OkM N M) :
 Calls Try.prog 24 #[.pointer (some ⟨mb, 0, none⟩)] w fun e w' => e = .returned (.tuple #[]) ∧ MC S mb g cap bk (clearJ M 8) w' ∧ FrS S w w' := by
 have cN := mnone_at h
 have k2 : w.cell? ⟨mb, 2, none⟩ = some (.int .i64 ((M.master : Nat) : Int)) := h.c2
 have k3 := h.c3
 have f2 := fz_of h.cell 2
 have hM0 := h.setM 0
 have k4 : (w.setCell ⟨mb, 2, none⟩ (.int .i64 0)).cell? ⟨mb, 3, none⟩ = some (.slice (some ⟨g, 0, none⟩) 8 cap) := hM0.1.c3
 have HO := Lib.hid ho
 have hR0 : MC S mb g cap bk (clearJ M 0) (w.setCell ⟨mb, 2, none⟩ (.int .i64 0)) ∧ FrS S w (w.setCell ⟨mb, 2, none⟩ (.int .i64 0)) := by rw [clearJ_zero]; exact hM0
 obtain ⟨W1, hW1⟩ : ∃ W, w.setCell ⟨mb, 2, none⟩ (.int .i64 0) = W := ⟨_, rfl⟩
 rw [hW1] at k4 hR0
 clear h ho hM0
 go_enter Try.func24, Try.ntmps24
 go_wp2_with (go_at_call 37; refine cN.mono ?_; clear cN; rintro e W2 ⟨rfl, rfl⟩)
 clear k2 k3 f2
 go_loopw [14] (fun iv wr => ∃ j : Nat, iv = .int .i64 (j : Nat) ∧ j ≤ 8 ∧ MC S mb g cap bk (clearJ M j) wr ∧ FrS S w wr) (fun iv _ => 8 - iOf iv)
 case atStart => exact ⟨0, rfl, Nat.zero_le _, hR0⟩
 case round =>
  clear hR0 k4 hW1
  obtain ⟨j, rfl, hj, h, hf⟩ := hrel
  rcases Nat.lt_or_ge j 8 with hlt | hge
  · have hlt' : ((j : Nat) : Int) < 8 := by omega
    have hmeas : 8 - (j + 1) < 8 - j := by omega
    have k3 := h.c3
    have k0 := h.at0 hlt
    have cA := h.turn hlt (E := fun e => e = .returned (.tuple #[])) (x' := fs0 (M.f j).x.size) (f := 47) (args := #[.pointer (some ⟨bk j, 0, none⟩)]) fun S' hf => by
     have e : ((clearJ M j).f j).x = (M.f j).x := by rw [clearJ_at]
     rw [e] at hf
     exact Tmf.clear_calls hf (HO.out.x j hlt)
    obtain ⟨b, hb⟩ : ∃ b, bk j = b := ⟨_, rfl⟩
    obtain ⟨M1, hM1⟩ : ∃ M1, ({ clearJ M j with f := upd (clearJ M j).f j { (clearJ M j).f j with x := fs0 (M.f j).x.size } } : MS) = M1 := ⟨_, rfl⟩
    rw [hb] at k0 cA
    rw [hM1] at cA
    have e1 : M1.f j = { M.f j with x := fs0 (M.f j).x.size } := by
     rw [← hM1]
     show upd (clearJ M j).f j _ j = _
     rw [upd_same, clearJ_at]
    have HM1 := Lib.hid hM1
    have HE1 := Lib.hid e1
    clear h hb hM1 e1
    go_wp2_with (go_at_call 47; refine cA.mono ?_; clear cA; rintro e V1 ⟨rfl, h1, h2⟩; have c3 : V1.cell? ⟨g, j * 5 + 3, none⟩ = some (intN (M1.f j).cr) := h1.at (q := 3) hlt (by decide) rfl; have c4 : V1.cell? ⟨g, j * 5 + 4, none⟩ = some (intN (M1.f j).ct) := h1.at (q := 4) hlt (by decide) rfl; have z := h1.row.frozenAt; have HH := Lib.hid (And.intro h1 h2); clear h1 h2)
    have hA := HH.out.1.put (k := j) (p := 3) (v := .int .i64 0) (s := { M1.f j with cr := 0 }) hlt (by decide) rfl rfl
    have hB := hA.1.put (k := j) (p := 4) (v := .int .i64 0) (s := { M1.f j with cr := 0, ct := 0 }) hlt (by decide) (by show _ = (upd M1.f j _ j).x; rw [upd_same]) (by
     show (srC (bk j) (upd M1.f j _ j)).set 4 _ = _
     rw [upd_same]; rfl)
    have e2 : ({ M1 with f := upd (upd M1.f j { M1.f j with cr := 0 }) j { M1.f j with cr := 0, ct := 0 } } : MS) = clearJ M (j + 1) := by
     rw [clearJ_next, upd_upd, HE1.out, ← HM1.out]
     show ({ clearJ M j with f := upd (upd (clearJ M j).f j _) j _ } : MS) = _
     rw [upd_upd]
    have hC : MC S mb g cap bk (clearJ M (j + 1)) ((V1.setCell ⟨g, j * 5 + 3, none⟩ (.int .i64 0)).setCell ⟨g, j * 5 + 4, none⟩ (.int .i64 0)) := by rw [← e2]; exact hB.1
    exact ⟨⟨j + 1, by push_cast; rfl, hlt, hC, hf.trans (HH.out.2.trans (hA.2.trans hB.2))⟩, hmeas⟩
  · have hge' : ¬ ((j : Nat) : Int) < 8 := by omega
    obtain rfl : j = 8 := by omega
    go_wp2
    go_end0
    exact ⟨rfl, h, hf⟩
end Go.Am.Cha
