/-
  Cltu: for CltuUnits: contracts at a world. Own work.
-/
import Derived.Test.YtoeepogoogcbiaaDoorCltBB
import Derived.Test.YtoeepogoogcbiaaDoorCltAU
namespace Go.Am.Clt
open Go Go.Am Go.Am.Lib Go.Lib Go.Proofs Go.RowKit
set_option maxRecDepth 100000

/-- A parser, and the old blocks as they were. -/
structure Un (W0 : World) (b : Nat) (p : PS) (w : World) : Prop where
  fr : Below W0.heap.size W0 w
  par : ∃ S, PAt S b p w ∧ ∀ k, k < W0.heap.size → ¬ S k
theorem Un.below {W0 w w' : World} {b : Nat} {p : PS} (h : Un W0 b p w) (hb : Below w.heap.size w w') : Un W0 b p w' := by
  obtain ⟨S, hP, hW⟩ := h.par
  exact { fr := h.fr.trans (hb.mono h.fr.size), par := ⟨S, hP.below hb, hW⟩ }
theorem Un.lk {W0 w : World} {b : Nat} {p : PS} (h : Un W0 b p w) : Lk b p.begun w := by
  obtain ⟨S, hP, _⟩ := h.par; exact hP.lk
theorem un_feed {W0 w : World} (hG : GOk G0 W0) {b : Nat} {p : PS} (h : Un W0 b p w) (hp : OkP p 0) (T : ByteArray) (hT : T.size < 2 ^ 30) :
    Calls Tryd.prog 19 #[.pointer (some ⟨b, 0, none⟩), .string T] w fun e w' => ∃ v, e = .returned v ∧ w'.ownsRow 0 9 1 v (feedP p T.data.toList).found.length ((feedP p T.data.toList).found.map .string) ∧ Un W0 b (clr (feedP p T.data.toList)) w' := by
  obtain ⟨S, hP, hW⟩ := h.par
  refine (feed_walk hG T hP hp (by omega) hW (fun k hk => h.fr.block k hk)).mono ?_
  rintro e w' ⟨v, rfl, h1, h2, S', h3, h4, _⟩
  refine ⟨v, rfl, h1, { fr := h.fr.trans (h2.below hW), par := ⟨S', h3, fun k hk hs => hW k hk (h4 k ?_ hs)⟩ }⟩
  have := h.fr.size; have := h2.size; omega
theorem un_new {W0 w w' : World} {b : Nat} (hfr : Below W0.heap.size W0 w) (hb : w.heap.size = b) (h1 : Below w.heap.size w w') (hc : w'.heap[b]? = some (.cells #[F42, .bool false, .int .u8 0, .slice none 0 0, .slice none 0 0, .bool false, .slice none 0 0] 49 (0, 0))) : Un W0 b ps0 w' := by
  refine { fr := hfr.trans (h1.mono hfr.size), par := ⟨fun k => b ≤ k, PAt.new (fun k hk => ?_) (Nat.le_refl _) hc, fun k hk hs => ?_⟩ }
  · have := h1.size; show b ≤ k; omega
  · have := hfr.size; have hs : b ≤ k := hs; omega
theorem flip_at' {W0 : World} (hG : GOk G0 W0) {w : World} (hold : Below W0.heap.size W0 w) (s : ByteArray) (n : Int) (h0 : 0 < s.size) (h1 : s.size < 2 ^ 40) : Calls Tryd.prog 17 #[.string s, .int .i64 n] w fun e w' => e = .returned (.string (flipN s n)) ∧ Below w.heap.size w w' :=
  calls_flat okFlk hG (fun k hk => hold.block k hk) hold.size (args := [.string s, .int .i64 n]) rfl (v := .string (flipN s n)) rfl ⟨h0, h1, rfl, rfl⟩
theorem cut_8 {U q : ByteArray} {k : Nat} (hq : U.extract k (k + 8) = q) (hk : k + 8 ≤ U.size) : ∀ wx : World, (Instr.slice 9 (.string U) (some (.int .i64 ((k : Nat) : Int))) (some (.int .i64 (((k : Nat) : Int) + 8))) none).run Tryd.prog wx = .ok (.string q) wx := by
  intro wx
  have eh : ((((k : Nat) : Int) + 8).toNat : Int) = ((k : Nat) : Int) + 8 := Int.toNat_of_nonneg (by omega)
  have ei : (((k : Nat) : Int) + 8).toNat = k + 8 := by omega
  have hi0 : (0 : Int) ≤ ((k : Nat) : Int) := by omega
  have hi7 : ((k : Nat) : Int) ≤ ((k : Nat) : Int) + 8 := by omega
  have hi8 : ((k : Nat) : Int) + 8 ≤ ((U.size : Nat) : Int) := by omega
  rw [← hq]
  simp [Instr.slice, run_underlying Tryd.underlying9, Instr.sliceBounds, run_sliceBound, eh, ei, hi0, hi7, hi8, (by omega : (0 : Int) ≤ ((k : Nat) : Int) + 8), (by omega : k ≤ k + 8)]
theorem cut_end {U q : ByteArray} {k : Nat} (hq : U.extract k U.size = q) (hk : U.size = k + 8) : ∀ wx : World, (Instr.slice 9 (.string U) (some (.int .i64 (((U.size : Nat) : Int) - 8))) none none).run Tryd.prog wx = .ok (.string q) wx := by
  intro wx
  have e : ((U.size : Nat) : Int) - 8 = ((k : Nat) : Int) := by omega
  rw [e]
  exact cut_l hq (by omega) wx
theorem empty_f {s : ByteArray} (h : 0 < s.size) : s.toList.isEmpty = false := by
  rw [Lib.toList_data]
  cases h' : s.data.toList with
  | nil => have := size_list s; rw [h'] at this; simp at this; omega
  | cons x l => rfl
theorem ok_quiet {p : PS} (h : Quiet p) : OkP p 0 := ⟨by rw [h.block]; decide, by rw [h.data]; decide, by rw [h.found]; decide⟩
/-- What a step of a unit adds. -/
theorem mid_add {P B C : ByteArray} {j : Nat} {p : PS} (h : MidSt P j (feedP p B.data.toList)) (hj : 7 * j + 7 ≤ P.size) (hP : P.size ≤ 350) (hC : Near C (blkS (P.extract (7 * j) (7 * j + 7)))) : MidSt P (j + 1) (feedP p (B ++ C).data.toList) := by
  rw [ByteArray.data_append, Array.toList_append, feedP_app]
  exact mid_next h hj hP hC
theorem tail_add {P B : ByteArray} {m : Nat} {p : PS} (h : MidSt P m (feedP p B.data.toList)) (hm : 0 < m) (hP : P.size = 7 * m) : (feedP p (B ++ tailB).data.toList).found = [P] ∧ (feedP p (B ++ tailB).data.toList).begun = false ∧ Quiet (clr (feedP p (B ++ tailB).data.toList)) := by
  rw [ByteArray.data_append, Array.toList_append, feedP_app]
  exact feed_tail h hm hP
end Go.Am.Clt
