/-
  Cltu: Feed, walked the kit's way. Own work.
-/
import Derived.Test.YtoeepogoogcbiaaDoorCltAI
import Derived.StillTailTactics
namespace Go.Am.Clt
open Go Go.Am Go.Am.Lib Go.Lib Go.Proofs Go.RowKit
set_option maxRecDepth 100000

def iOf : Value → Nat
  | .int _ n => n.toNat
  | _ => 0
def takeF (p : PS) : FuncId := if p.begun then 49 else 42
theorem take_val (p : PS) : (if p.begun then F49 else F42) = .func (.func (takeF p)) #[] #[] := by
  unfold takeF; cases p.begun <;> rfl
theorem feed_snoc (p : PS) (s : ByteArray) {i : Nat} (h : i < s.size) : feedP p (s.data.toList.take (i + 1)) = stepP (feedP p (s.data.toList.take i)) s[i] := by
  unfold feedP
  have hl : i < s.data.toList.length := by rw [size_list]; exact h
  rw [List.take_succ_eq_append_getElem hl, List.foldl_append]
  rfl
theorem take_size {s : ByteArray} {i : Nat} (h : i = s.size) : s.data.toList.take i = s.data.toList := List.take_of_length_le (by rw [size_list]; omega)
set_option maxHeartbeats 1600000 in
theorem feed_walk {W0 : World} (hG : GOk G0 W0) {S : Nat → Prop} {b N : Nat} {p : PS} {w : World} (s : ByteArray) (h : PAt S b p w) (hp : OkP p N) (hN : N + s.size ≤ 2 ^ 39) (hW : ∀ k, k < W0.heap.size → ¬ S k) (hold : ∀ n, n < W0.heap.size → w.heap[n]? = W0.heap[n]?) :
    Calls Tryd.prog 19 #[.pointer (some ⟨b, 0, none⟩), .string s] w fun e w' => ∃ v, e = .returned v ∧ w'.ownsRow 0 9 1 v (feedP p s.data.toList).found.length ((feedP p s.data.toList).found.map .string) ∧
      FrS S w w' ∧ ∃ S', PAt S' b { feedP p s.data.toList with found := [] } w' ∧ (∀ k, k < w'.heap.size → S' k → S k) ∧ (∀ k, v.ownBlock = some k → S k ∧ ¬ S' k) := by
  have h0 := h
  obtain ⟨v1, v2, v3, hc⟩ := h0
  rw [take_val] at hc
  have c0 := hc.c0
  clear hc
  go_enter Tryd.func19, Tryd.ntmps19
  go_wp2_with (go_at_call 35; refine (none_walk b w _ c0).mono ?_)
  rintro e W1 ⟨rfl, rfl⟩
  go_wp2
  go_loopw [11] (fun iv wr => ∃ (i : Nat), iv = .int .i64 (i : Nat) ∧ i ≤ s.size ∧ PAt S b (feedP p (s.data.toList.take i)) wr ∧ OkP (feedP p (s.data.toList.take i)) (N + i) ∧ FrS S W1 wr)
    (fun iv _ => s.size - iOf iv)
  case atStart => exact ⟨0, rfl, Nat.zero_le _, h, hp, FrS.refl _ _⟩
  case round =>
    obtain ⟨i, rfl, hi, hP, hO, hBe⟩ := hrel
    rcases Nat.lt_or_ge i s.size with hlt | hge
    · have hlt' : ((i : Nat) : Int) < ((s.size : Nat) : Int) := by omega
      obtain ⟨q, hq⟩ : ∃ q, feedP p (s.data.toList.take i) = q := ⟨_, rfl⟩
      rw [hq] at hP hO
      have hP0 := hP
      obtain ⟨u1, u2, u3, hc⟩ := hP0
      rw [take_val] at hc
      have d0 := hc.c0
      have hst := take_step hG s[i] hP.drew { block := hO.block, data := hO.data, found := by have := hO.found; omega } hW (old_fr hW hold hBe.drew)
      change Calls _ (takeF q) _ _ _ at hst
      have hO2 := ok_step hO s[i]
      have hstep : stepP q s[i] = feedP p (s.data.toList.take (i + 1)) := by
        rw [← hq]
        exact (feed_snoc p s hlt).symm
      rw [hstep] at hO2
      rcases (show takeF q = 49 ∨ takeF q = 42 by unfold takeF; cases q.begun; exact Or.inr rfl; exact Or.inl rfl) with htf | htf
      · skip
        rw [htf] at hst d0
        go_wp2
        go_still_tail 8, (by kernel_rfl)
        change wpList _ _ _ _ _ wr.drew
        go_wp2_with (go_at_call 49; refine hst.mono ?_)
        rintro e W2 ⟨rfl, hP2, hB2⟩
        go_wp2
        exact ⟨⟨i + 1, by push_cast; rfl, hlt, hstep ▸ hP2, hO2, hBe.drew.trans hB2⟩, by show s.size - (i + 1) < s.size - i; omega⟩
      · skip
        rw [htf] at hst d0
        go_wp2
        go_still_tail 8, (by kernel_rfl)
        change wpList _ _ _ _ _ wr.drew
        go_wp2_with (go_at_call 42; refine hst.mono ?_)
        rintro e W2 ⟨rfl, hP2, hB2⟩
        go_wp2
        exact ⟨⟨i + 1, by push_cast; rfl, hlt, hstep ▸ hP2, hO2, hBe.drew.trans hB2⟩, by show s.size - (i + 1) < s.size - i; omega⟩
    · have hge' : ¬ ((i : Nat) : Int) < ((s.size : Nat) : Int) := by omega
      have hei : i = s.size := by omega
      rw [take_size hei] at hP hO
      obtain ⟨q, hq⟩ : ∃ q, feedP p s.data.toList = q := ⟨_, rfl⟩
      rw [hq] at hP hO
      obtain ⟨u1, u2, u3, hc⟩ := hP
      have d6 := hc.c6
      have f6 := hc.fz 6
      have h9 := hc.grown3 (v' := .slice none 0 0) (fs' := []) (World.ownsRow_nil _ _ _ _) ⟨rfl, rfl, rfl, Nat.le_refl _, fun _ _ _ => rfl⟩ (fun k hk => by cases hk)
      have h10 := h9.shrink (w' := wr.setCell ⟨b, 6, none⟩ (.slice none 0 0)) (fun _ _ _ => rfl)
      have n1 : ∀ k, u3.ownBlock = some k → u1.ownBlock ≠ some k := fun k hk e => by
        rcases ownsRow_ne hc.r3 hc.r1 (by decide) with h | h
        · rw [h] at hk; cases hk
        · exact h (hk.trans e.symm)
      have n2 : ∀ k, u3.ownBlock = some k → u2.ownBlock ≠ some k := fun k hk e => by
        rcases ownsRow_ne hc.r3 hc.r2 (by decide) with h | h
        · rw [h] at hk; cases hk
        · exact h (hk.trans e.symm)
      have nb : ∀ k, u3.ownBlock = some k → k ≠ b := fun k hk e => ownsRow_neb hc.r3 hc.cell (by decide) (by rw [hk, e])
      have ho : OnlyB b wr (wr.setCell ⟨b, 6, none⟩ (.slice none 0 0)) := (OnlyB.refl b wr).setCell 6 _
      have r3' := ownsRow_keep (w' := wr.setCell ⟨b, 6, none⟩ (.slice none 0 0)) hc.r3 fun k hv => ho.rest k fun e => ownsRow_neb hc.r3 hc.cell (by decide) (by rw [hv, e])
      have q1 : ∀ k, k < (wr.setCell ⟨b, 6, none⟩ (.slice none 0 0)).heap.size → foot b u1 u2 (.slice none 0 0) (wr.setCell ⟨b, 6, none⟩ (.slice none 0 0)).heap.size k → S k := by
        intro k hk hf
        rcases hf with e | e | e | e | e
        · rw [e]; exact hc.hb
        · exact hc.s1 k e
        · exact hc.s2 k e
        · cases e
        · omega
      have q2 : ∀ k, u3.ownBlock = some k → S k ∧ ¬ foot b u1 u2 (.slice none 0 0) (wr.setCell ⟨b, 6, none⟩ (.slice none 0 0)).heap.size k := by
        intro k hk
        refine ⟨hc.s3 k hk, ?_⟩
        rintro (e | e | e | e | e)
        · exact nb k hk e
        · exact n1 k hk e
        · exact n2 k hk e
        · cases e
        · have := (r3'.lt k hk).2; omega
      go_wp2
      go_ret
      exact ⟨u3, rfl, r3', hBe.trans (ho.fr hc.hb), _, ⟨_, _, _, h10⟩, q1, q2⟩
end Go.Am.Clt
