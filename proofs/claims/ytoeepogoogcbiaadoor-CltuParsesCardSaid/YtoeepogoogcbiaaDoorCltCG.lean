/-
  Cltu: the parser beside the reference's: contracts at a world. Own work.
-/
import Derived.Test.YtoeepogoogcbiaaDoorCltCD
import Derived.Test.YtoeepogoogcbiaaDoorCltCEF
namespace Go.Am.Clt
open Go Go.Am Go.Am.Lib Go.Lib Go.Proofs Go.RowKit
set_option maxRecDepth 100000

/-- A parser that New did not return. -/
def Zr (z : Nat) (w : World) : Prop := ∃ cs : Array Value, w.heap[z]? = some (.cells cs 49 (0, 0)) ∧ cs[0]? = some .nilFunc
theorem Zr.cell {z : Nat} {w : World} (h : Zr z w) : w.cell? ⟨z, 0, none⟩ = some .nilFunc := by
  obtain ⟨cs, h1, h2⟩ := h
  exact (cell_of h1).trans h2
theorem Zr.lt {z : Nat} {w : World} (h : Zr z w) : z < w.heap.size := by
  obtain ⟨cs, h1, _⟩ := h
  exact (Array.getElem?_eq_some_iff.1 h1).1
/-- The parser, the reference's and the one that is none. -/
structure Pa (W0 : World) (b R z : Nat) (p : PS) (r : RS) (w : World) : Prop where
  fr : Below W0.heap.size W0 w
  hR : W0.heap.size ≤ R
  hRz : R ≠ z
  par : ∃ S, PAt S b p w ∧ (∀ k, k < W0.heap.size → ¬ S k) ∧ ¬ S R ∧ ¬ S z
  ref : RAt R r w
  zero : Zr z w
  sim : Sim13 p r
  found : p.found = []
  ok : OkP p 0
theorem Pa.only {W0 : World} {b R z : Nat} {p : PS} {r : RS} {w w' : World} (h : Pa W0 b R z p r w) (hH : OnlyH w w') : Pa W0 b R z p r w' := by
  obtain ⟨S, hP, h1, h2, h3⟩ := h.par
  refine { fr := h.fr.trans (hH.below _), hR := h.hR, hRz := h.hRz, par := ⟨S, hP.keep (Nat.le_of_eq (by rw [hH.heap])) (fun k _ _ => by rw [hH.heap]), h1, h2, h3⟩, ref := ?_, zero := ?_, sim := h.sim, found := h.found, ok := h.ok }
  · have := h.ref; unfold RAt at this ⊢; rw [hH.heap]; exact this
  · have := h.zero; unfold Zr at this ⊢; rw [hH.heap]; exact this
theorem OnlyH.drew0 (w : World) : OnlyH w w.drew := ⟨rfl, rfl, rfl, rfl⟩
/-- The parser has been fed. -/
structure Pa1 (W0 : World) (b R z : Nat) (p : PS) (r : RS) (f : ByteArray) (v : Value) (w : World) : Prop where
  fr : Below W0.heap.size W0 w
  hR : W0.heap.size ≤ R
  hRz : R ≠ z
  par : ∃ S, PAt S b (clr (feedP p f.data.toList)) w ∧ (∀ k, k < W0.heap.size → ¬ S k) ∧ ¬ S R ∧ ¬ S z
  ref : RAt R r w
  zero : Zr z w
  sim : Sim13 p r
  found : p.found = []
  ok : OkP p 0
  row : w.ownsRow 0 9 1 v (feedP p f.data.toList).found.length ((feedP p f.data.toList).found.map .string)
theorem pa_feed {W0 : World} (hG : GOk G0 W0) {b R z : Nat} {p : PS} {r : RS} {w : World} (h : Pa W0 b R z p r w) (f : ByteArray) (hf : f.size < 5000) :
    Calls Tryd.prog 19 #[.pointer (some ⟨b, 0, none⟩), .string f] w fun e w' => ∃ v, e = .returned v ∧ Pa1 W0 b R z p r f v w' := by
  obtain ⟨S, hP, h1, h2, h3⟩ := h.par
  refine (feed_walk hG f hP h.ok (by omega) h1 (fun k hk => h.fr.block k hk)).mono ?_
  rintro e w' ⟨v, rfl, hrow, hF, S', hP', hS', _⟩
  have hsz : W0.heap.size ≤ w'.heap.size := by have := h.fr.size; have := hF.size; omega
  have hRl := h.ref.lt
  have hzl := h.zero.lt
  refine ⟨v, rfl, { fr := h.fr.trans (hF.below h1), hR := h.hR, hRz := h.hRz, par := ⟨S', hP', fun k hk hs => h1 k hk (hS' k (by omega) hs), fun hs => h2 (hS' R (by have := hF.size; omega) hs), fun hs => h3 (hS' z (by have := hF.size; omega) hs)⟩, ref := (hF.block R h2).trans h.ref, zero := ?_, sim := h.sim, found := h.found, ok := h.ok, row := hrow }⟩
  obtain ⟨cs, q1, q2⟩ := h.zero
  exact ⟨cs, (hF.block z h3).trans q1, q2⟩
theorem Pa1.only {W0 : World} {b R z : Nat} {p : PS} {r : RS} {f : ByteArray} {v : Value} {w w' : World} (h : Pa1 W0 b R z p r f v w) (hH : OnlyH w w') : Pa1 W0 b R z p r f v w' := by
  obtain ⟨S, hP, h1, h2, h3⟩ := h.par
  refine { fr := h.fr.trans (hH.below _), hR := h.hR, hRz := h.hRz, par := ⟨S, hP.keep (Nat.le_of_eq (by rw [hH.heap])) (fun k _ _ => by rw [hH.heap]), h1, h2, h3⟩, ref := ?_, zero := ?_, sim := h.sim, found := h.found, ok := h.ok, row := ownsRow_keep h.row fun k _ => by rw [hH.heap] }
  · have := h.ref; unfold RAt at this ⊢; rw [hH.heap]; exact this
  · have := h.zero; unfold Zr at this ⊢; rw [hH.heap]; exact this
structure Pa2 (W0 : World) (b R z : Nat) (p : PS) (f : ByteArray) (v v2 : Value) (w : World) : Prop where
  pa : ∃ r', Pa W0 b R z (clr (feedP p f.data.toList)) r' w
  row : w.ownsRow 0 9 1 v (feedP p f.data.toList).found.length ((feedP p f.data.toList).found.map .string)
  row2 : w.ownsRow 0 9 1 v2 (feedP p f.data.toList).found.length ((feedP p f.data.toList).found.map .string)
  few : (feedP p f.data.toList).found.length < 2 ^ 40
theorem pa_rfeed {W0 : World} (hG : GOk G0 W0) {b R z : Nat} {p : PS} {r : RS} {f : ByteArray} {v : Value} {w : World} (h : Pa1 W0 b R z p r f v w) (hf : f.size < 5000) :
    Calls Tryd.prog 23 #[.pointer (some ⟨R, 0, none⟩), .string f] w fun e w' => ∃ v2, e = .returned v2 ∧ Pa2 W0 b R z p f v v2 w' := by
  refine (rfeed_walk hG h.fr h.hR f h.ref h.sim h.ok h.found (by omega)).mono ?_
  rintro e w' ⟨v2, rfl, r', hI, hsim⟩
  obtain ⟨S, hP, h1, h2, h3⟩ := h.par
  have hk : ∀ k, k < w.heap.size → k ≠ R → w'.heap[k]? = w.heap[k]? := fun k hk hne => hI.fr.block k (fun hq => by rcases hq with e | e; exact hne e; omega)
  obtain ⟨S', hP', hS'⟩ := hP.shrink (w' := w') (fun k hs hlt => hk k hlt (fun e => h2 (by rw [← e]; exact hs)))
  have hzl := h.zero.lt
  have hRl := h.ref.lt
  have hok : OkP (feedP p f.data.toList) (0 + f.data.toList.length) := ok_feed _ h.ok
  have hsz := hI.fr.size
  refine ⟨v2, rfl, { pa := ⟨r', { fr := hI.old h.fr h.hR, hR := h.hR, hRz := h.hRz, par := ⟨S', hP', fun k hk hs => h1 k hk (hS' k (by have := h.fr.size; omega) hs).1, fun hs => h2 (hS' R (by omega) hs).1, fun hs => h3 (hS' z (by omega) hs).1⟩, ref := hI.at', zero := ?_, sim := sim_clr hsim, found := rfl, ok := ok_clr hok }⟩, row := ownsRow_keep h.row fun k hv => hk k (h.row.lt k hv).2 (fun e => ownsRow_neb h.row h.ref (by decide) (by rw [hv, e])), row2 := ownsRow_up hI.row (Nat.zero_le _), few := ?_ }⟩
  · obtain ⟨cs, q1, q2⟩ := h.zero
    exact ⟨cs, (hk z hzl (fun e => h.hRz e.symm)).trans q1, q2⟩
  · have := hok.found
    rw [size_list] at this
    omega
theorem Pa2.only {W0 : World} {b R z : Nat} {p : PS} {f : ByteArray} {v v2 : Value} {w w' : World} (h : Pa2 W0 b R z p f v v2 w) (hH : OnlyH w w') : Pa2 W0 b R z p f v v2 w' := by
  obtain ⟨r', hp⟩ := h.pa
  exact { pa := ⟨r', hp.only hH⟩, row := ownsRow_keep h.row fun k _ => by rw [hH.heap], row2 := ownsRow_keep h.row2 fun k _ => by rw [hH.heap], few := h.few }
/-- The three, new. -/
theorem pa_new {W0 w w' : World} {b : Nat} (hfr : Below W0.heap.size W0 w) (hb : w.heap.size = b) (h1 : Below w.heap.size w w') (hsz : w'.heap.size = b + 1)
    (hc : w'.heap[b]? = some (.cells #[F42, .bool false, .int .u8 0, .slice none 0 0, .slice none 0 0, .bool false, .slice none 0 0] 49 (0, 0))) {cs : Array Value} (hcs : cs[0]? = some .nilFunc) :
    Pa W0 b w'.heap.size (w'.heap.size + 1) ps0 rs0 ((w'.alloc (.cells #[.bool false, .string ⟨#[]⟩, .string ⟨#[]⟩, .bool false, .int .u8 0] 45)).alloc (.cells cs 49)) := by
  obtain ⟨w2, hw2⟩ : ∃ w2, w'.alloc (.cells #[.bool false, .string ⟨#[]⟩, .string ⟨#[]⟩, .bool false, .int .u8 0] 45) = w2 := ⟨_, rfl⟩
  rw [hw2]
  have s2 : w2.heap.size = w'.heap.size + 1 := by rw [← hw2]; exact Array.size_push _
  have a1 : ∀ k, k < w'.heap.size → w2.heap[k]? = w'.heap[k]? := fun k hk => by rw [← hw2]; exact (World.grownBy_alloc w' _ none).block k hk (by simp)
  have a2 : ∀ k, k < w2.heap.size → (w2.alloc (.cells cs 49)).heap[k]? = w2.heap[k]? := fun k hk => (World.grownBy_alloc w2 _ none).block k hk (by simp)
  have s3 : (w2.alloc (.cells cs 49)).heap.size = w2.heap.size + 1 := Array.size_push _
  have n1 : w2.heap[w'.heap.size]? = some (.cells #[.bool false, .string ⟨#[]⟩, .string ⟨#[]⟩, .bool false, .int .u8 0] 45 (0, 0)) := by
    rw [← hw2]; show (w'.heap.push _)[w'.heap.size]? = _; rw [Array.getElem?_push_size]
  have n2 : (w2.alloc (.cells cs 49)).heap[w'.heap.size + 1]? = some (.cells cs 49 (0, 0)) := by
    rw [← s2]; show (w2.heap.push _)[w2.heap.size]? = _; rw [Array.getElem?_push_size]
  have hsz0 : W0.heap.size ≤ b := by rw [← hb]; exact hfr.size
  have f2 : Below W0.heap.size W0 w' := hfr.trans (h1.mono hfr.size)
  have f3 : Below W0.heap.size W0 (w2.alloc (.cells cs 49)) := by
    rw [← hw2]
    exact (f2.alloc (by omega) _).alloc (by rw [hw2]; omega) _
  refine { fr := f3, hR := by omega, hRz := by omega, par := ⟨fun k => k = b ∨ w2.heap.size + 1 ≤ k, PAt.new (fun k hk => Or.inr (by rw [s3] at hk; exact hk)) (Or.inl rfl) ?_, ?_, ?_, ?_⟩, ref := ?_, zero := ⟨cs, n2, hcs⟩, sim := sim0, found := rfl, ok := ok_ps0 }
  · exact (a2 b (by omega)).trans ((a1 b (by omega)).trans hc)
  · rintro k hk (e | e) <;> omega
  · rintro (e | e) <;> omega
  · rintro (e | e) <;> omega
  · exact (a2 _ (by omega)).trans n1
theorem pa_same {W0 : World} {b R z : Nat} {p : PS} {f : ByteArray} {v v2 : Value} {w : World} (h : Pa2 W0 b R z p f v v2 w) :
    Calls Tryd.prog 21 #[v, v2] w fun e w' => e = .returned (.bool true) ∧ ∃ r', Pa W0 b R z (clr (feedP p f.data.toList)) r' w' := by
  refine (same_walk h.row h.row2 h.few).mono ?_
  rintro e w' ⟨rfl, hH⟩
  obtain ⟨r', hp⟩ := h.pa
  exact ⟨rfl, r', hp.only hH⟩
theorem pa_lock {W0 : World} {b R z : Nat} {p : PS} {r : RS} {w : World} (h : Pa W0 b R z p r w) : Calls Tryd.prog 20 #[.pointer (some ⟨b, 0, none⟩)] w fun e w' => e = .returned (.bool p.begun) ∧ w' = w := by
  obtain ⟨S, hP, _⟩ := h.par
  exact lock_at hP
theorem pa_begun {W0 : World} {b R z : Nat} {p : PS} {r : RS} {w : World} (h : Pa W0 b R z p r w) : w.cell? ⟨R, 0, none⟩ = some (.bool p.begun) := by
  have := cell_of (o := 0) (h.ref)
  rw [h.sim.begun] at this
  exact this
theorem pa_reset {W0 : World} {b R z : Nat} {p : PS} {r : RS} {w : World} (h : Pa W0 b R z p r w) : Calls Tryd.prog 24 #[.pointer (some ⟨b, 0, none⟩)] w fun e w' => e = .returned (.tuple #[]) ∧ ∃ p', p'.begun = false ∧ (∀ w2, OnlyB R w' w2 → RAt R rs0 w2 → Pa W0 b R z p' rs0 w2) ∧ RAt R r w' ∧ Below W0.heap.size W0 w' := by
  obtain ⟨S, hP, h1, h2, h3⟩ := h.par
  refine (reset_walk hP).mono ?_
  rintro e w' ⟨rfl, ho, hP'⟩
  have hbS := hP.inS
  have hRb : R ≠ b := fun e => h2 (by rw [e]; exact hbS)
  have hzb : z ≠ b := fun e => h3 (by rw [e]; exact hbS)
  have hfr' : Below W0.heap.size W0 w' := h.fr.trans ((FrS.below (OnlyB.fr (S := S) ho hbS)) h1)
  refine ⟨rfl, ⟨false, false, p.last, ⟨#[]⟩, ⟨#[]⟩, p.found⟩, rfl, fun w2 ho2 hr2 => ?_, (ho.rest R hRb).trans h.ref, hfr'⟩
  refine { fr := hfr'.trans (ho2.below h.hR), hR := h.hR, hRz := h.hRz, par := ⟨S, hP'.keep (Nat.le_of_eq ho2.size.symm) (fun k hk _ => ho2.rest k (fun e => h2 (by rw [← e]; exact hk))), h1, h2, h3⟩, ref := hr2, zero := ?_, sim := ⟨rfl, fun h => (by cases h), fun _ => ⟨rfl, rfl, rfl, fun h => (by cases h)⟩⟩, found := h.found, ok := ⟨Nat.zero_le _, by show 0 < 350; omega, by rw [h.found]; decide⟩ }
  obtain ⟨cs, q1, q2⟩ := h.zero
  exact ⟨cs, (ho2.rest z (fun e => h.hRz e.symm)).trans ((ho.rest z hzb).trans q1), q2⟩
end Go.Am.Clt
