/-
  Memory: ReadBytes of the reference proved. Own work.
-/
import Derived.Test.YtjbagcmcpmhfnaaDoorMemL
namespace Go.Am.Mem
open Go Go.Am Go.Am.Ham Go.Proofs
set_option maxRecDepth 100000

theorem readR_at {m : Mem} {p : Nat} (h : p < m.n) : readS m (p : Nat) = readF m p ∧ (kindAt m p = 2 → (readR m (p : Nat)).2.2 = 300) ∧ (kindAt m p ≠ 2 → (readR m (p : Nat)).2.2 = 0 ∧ (readR m (p : Nat)).1 = (decN (wordAt m p)).1) := by
  have hin : inM m (p : Nat) = true := inM_iff.2 (by omega)
  unfold readS readR kindAt
  rw [if_pos hin, if_pos hin, Int.toNat_natCast]
  refine ⟨rfl, fun h => ?_, fun h => ?_⟩
  · rw [if_pos h]
  · rw [if_neg h]; exact ⟨rfl, rfl⟩
theorem loopRRB : ∀ e h k, TRRB e h k → ∃ m, loopN cRRB (codeOf Tryd.f82) 0 5 m e h k := by
  intro e h k hT
  unfold TRRB at hT
  split at hT
  · rename_i a n i
    replace hT := asMem_elim hT
    obtain ⟨m, ty, ty2, mv, mv2, rfl, ho, a0, n0, a1, rfl, hk⟩ := hT
    obtain ⟨a, rfl⟩ := nat_of a0
    rw [Int.toNat_natCast] at hk
    have hN : lenW n.toNat ≤ 16384 := by have := ho.le; omega
    have key : ∀ (c j : Nat) (vs : List Value) (m : Mem) (mv3 : Bool), OkM m → a + j + c ≤ m.n → vs.length = 4 * j → j + c = lenW n.toNat →
        (∀ mv3 m', m' = rbM c m (a + j) → (rbLost c m (a + j) = true → k .ret [(6, noStr), (7, .int .i64 300)] (memH m' ty ty2 mv mv2)) ∧
          (rbLost c m (a + j) = false → k (.exit 0) [(2, .int .i64 n), (8, .slice (some ⟨2, 0, some 0⟩) (4 * lenW n.toNat) 2)] (bufH m' ty ty2 mv mv2 (vs ++ rbBytes c m (a + j)) mv3))) →
        loopN cRRB (codeOf Tryd.f82) 0 5 (c + 1) [(0, .pointer (some ⟨0, 0, some 0⟩)), (1, .int .i64 (a : Nat)), (2, .int .i64 n), (8, .slice (some ⟨2, 0, some 0⟩) (4 * j) 2), (9, .int .i64 ((4 * j : Nat) : Int))] (bufH m ty ty2 mv mv2 vs mv3) k := by
      intro c
      induction c with
      | zero =>
        intro j vs m mv3 ho ha hl hj hk
        rw [loopN_succ]
        show tRRBb m ty ty2 mv mv2 vs mv3 a n (4 * j : Nat) (4 * j) _
        rw [tRRBb_eq, dF (by unfold lenW at hj; omega)]
        show k (.exit 0) [(2, .int .i64 n), (8, .slice (some ⟨2, 0, some 0⟩) (4 * j) 2)] (bufH m ty ty2 mv mv2 vs mv3)
        have := (hk mv3 m rfl).2 rfl
        rw [show rbBytes 0 m (a + j) = [] from rfl, List.append_nil, ← hj, Nat.add_zero] at this
        exact this
      | succ c ih =>
        intro j vs m mv3 ho ha hl hj hk
        have hle := ho.le
        obtain ⟨r1, r2, r3⟩ := readR_at (m := m) (p := a + j) (by omega)
        rw [loopN_succ]
        show tRRBb m ty ty2 mv mv2 vs mv3 a n (4 * j : Nat) (4 * j) _
        rw [tRRBb_eq, dT (by unfold lenW at hj; omega)]
        rintro x1 h1 x2 h2
        rw [show (4 : Int) = ((4 : Nat) : Int) from rfl, tdiv_cast, Nat.mul_div_cancel_left _ (by omega), wrap_i64 (by omega) (by omega)] at h1
        rw [h1, iAdd_i64 (by omega) (by omega)] at h2
        obtain rfl : x2 = ((a + j : Nat) : Int) := by omega
        rw [r1]
        refine ⟨ho, ?_⟩
        rintro x3 rfl x4 h4 x5 _ x6 h6
        by_cases hk2 : kindAt m (a + j) = 2
        · rw [dnF (by rw [h6, r2 hk2]; omega), h6, r2 hk2]
          show k .ret [(6, noStr), (7, .int .i64 300)] (memH (readF m (a + j)) ty ty2 mv mv2)
          exact (hk mv3 _ (by rw [rbM, if_pos hk2])).1 (by rw [rbLost, if_pos hk2])
        · obtain ⟨q1, q2⟩ := r3 hk2
          rw [dnT (by rw [h6, q1]; rfl)]
          rw [q2] at h4
          rintro x7 h7 x8 h8 x9 h9 x10 h10 x11 h11 x12 h12 x13 h13
          have hb := byte_eq (decN_lt _).1 h4 h7 h8 h9 h10 h11 h12 h13
          rw [dT2 (by omega) (by omega)]
          rintro x14 h14
          rw [iAdd_i64 (by omega) (by omega)] at h14
          obtain rfl : x14 = ((4 * (j + 1) : Nat) : Int) := by omega
          rw [take_all vs hl, hb]
          have := ih (j + 1) (vs ++ bytes4 (decN (wordAt m (a + j))).1) (readF m (a + j)) true (ok_readF ho _) (by rw [readF_n]; omega) (by rw [List.length_append, hl]; show 4 * j + 4 = _; omega) (by omega) (fun mv3 m' hm => by
            have h := hk mv3 m' (by rw [rbM, if_neg hk2]; exact hm)
            rw [rbLost, if_neg hk2, rbBytes, ← List.append_assoc] at h
            exact h)
          rw [loopN_succ] at this
          replace this : tRRBb (readF m (a + j)) ty ty2 mv mv2 (vs ++ bytes4 (decN (wordAt m (a + j))).1) true a n ((4 * (j + 1) : Nat) : Int) (4 * (j + 1)) _ := this
          show loopN cRRB (codeOf Tryd.f82) 0 5 (c + 1) _ _ k
          rw [loopN_succ]
          show tRRBb (readF m (a + j)) ty ty2 mv mv2 (vs ++ bytes4 (decN (wordAt m (a + j))).1) true a n ((4 * (j + 1) : Nat) : Int) (4 * j + 4) _
          exact this
    by_cases hn : n = 0
    · subst hn
      refine ⟨1, ?_⟩
      rw [loopN_succ]
      show tRRBa m ty ty2 mv mv2 a 0 0 _
      rw [tRRBa_eq, dF (by omega)]
      show k (.exit 0) [(2, .int .i64 0), (8, .slice none 0 0)] (memH m ty ty2 mv mv2)
      exact ((hk true m rfl).2 rfl).1 rfl
    · obtain ⟨c, hc⟩ : ∃ c, lenW n.toNat = c + 1 := ⟨lenW n.toNat - 1, by unfold lenW; omega⟩
      refine ⟨c + 1 + 1, ?_⟩
      have hle := ho.le
      rw [hc] at hk
      obtain ⟨r1, r2, r3⟩ := readR_at (m := m) (p := a) (by omega)
      rw [loopN_succ]
      show tRRBa m ty ty2 mv mv2 a n 0 _
      rw [tRRBa_eq, dT (by omega)]
      rintro x1 h1 x2 h2
      rw [show Int.tdiv 0 4 = 0 from rfl, wrap_i64 (by omega) (by omega)] at h1
      rw [h1, iAdd_i64 (by omega) (by omega)] at h2
      obtain rfl : x2 = ((a : Nat) : Int) := by omega
      rw [r1]
      refine ⟨ho, ?_⟩
      rintro x3 rfl x4 h4 x5 _ x6 h6
      by_cases hk2 : kindAt m a = 2
      · rw [dnF (by rw [h6, r2 hk2]; omega), h6, r2 hk2]
        show k .ret [(6, noStr), (7, .int .i64 300)] (memH (readF m a) ty ty2 mv mv2)
        exact (hk true _ (by rw [rbM, if_pos hk2])).1 (by rw [rbLost, if_pos hk2])
      · obtain ⟨q1, q2⟩ := r3 hk2
        rw [dnT (by rw [h6, q1]; rfl)]
        rw [q2] at h4
        rintro x7 h7 x8 h8 x9 h9 x10 h10 x11 h11 x12 h12 x13 h13
        have hb := byte_eq (decN_lt _).1 h4 h7 h8 h9 h10 h11 h12 h13
        rintro x14 h14
        rw [iAdd_i64 (by omega) (by omega)] at h14
        obtain rfl : x14 = ((4 * 1 : Nat) : Int) := by omega
        rw [hb]
        have := key c 1 (bytes4 (decN (wordAt m a)).1) (readF m a) false (ok_readF ho _) (by rw [readF_n]; omega) rfl (by omega) (fun mv3 m' hm => by
          have h := hk mv3 m' (by rw [rbM, if_neg hk2]; exact hm)
          rw [rbLost, if_neg hk2, rbBytes] at h
          exact ⟨h.1, fun hf => by rw [hc]; exact (h.2 hf).2 (by omega)⟩)
        rw [loopN_succ] at this
        replace this : tRRBb (readF m a) ty ty2 mv mv2 (bytes4 (decN (wordAt m a)).1) false a n ((4 * 1 : Nat) : Int) (4 * 1) _ := this
        show loopN cRRB (codeOf Tryd.f82) 0 5 (c + 1) _ _ k
        rw [loopN_succ]
        show tRRBb (readF m a) ty ty2 mv mv2 (bytes4 (decN (wordAt m a)).1) false a n ((4 * 1 : Nat) : Int) 4 _
        exact this
  · exact hT.elim
theorem okRRB : SpecOk Tryd.prog G0 82 sRB :=
  spec2 mixed tI_ok Tryd.func82 (by kernel_rfl : Tryd.f82.body = some (codeOf Tryd.f82)) cRRB rfl rfl rfl (by kernel_rfl) (ids := [5]) (by kernel_rfl) ⟨loopRRB, trivial⟩ (by
    intro args h K hk
    unfold sRB at hk
    split at hk
    · rename_i a n
      replace hk := asMem_elim hk
      obtain ⟨m, ty, ty2, mv, mv2, rfl, ho, hk⟩ := hk
      show bRRB m ty ty2 mv mv2 a n K
      rw [bRRB_eq]
      refine ⟨ho.le, ?_⟩
      unfold rbRes rbS at hk
      rcases room_cases m a n with h | h
      · rw [if_pos h, if_pos h] at hk
        have n0 := room_n h
        obtain ⟨r1, r2, r3⟩ := room_in h n0
        rw [dnT h]
        refine ⟨ho, r1, n0, r2, rfl, fun _ x3 h3 => ⟨fun hl => ?_, fun hl => ⟨fun hn => ?_, fun hn => ?_⟩⟩⟩
        · rw [if_pos hl] at hk; exact hk x3 h3
        · rw [if_neg (by rw [hl]; exact Bool.false_ne_true)] at hk
          subst hn
          rw [dT2 (by omega) (by omega)]
          rintro x4 rfl
          exact hk x3 h3
        · rw [if_neg (by rw [hl]; exact Bool.false_ne_true)] at hk
          have hlen := rbBytes_length (lenW n.toNat) m a.toNat
          have hw : n.toNat ≤ 4 * lenW n.toNat := by unfold lenW; omega
          rw [dT2 n0 (by omega), dT (by rw [hlen]; omega)]
          rw [Nat.sub_zero, Nat.mul_one, List.drop_zero]
          have ha : List.all (List.take n.toNat (rbBytes (lenW n.toNat) m a.toNat)) (isInt .u8) = true := List.all_eq_true.2 fun v hv => rbBytes_int _ _ _ v (List.mem_of_mem_take hv)
          rw [ha, cond_true]
          rintro x5 rfl
          exact hk x3 h3
      · rw [if_neg (by omega), if_neg (by omega)] at hk
        rw [dnF (by omega)]
        exact hk _ rfl
    · exact hk.elim)
end Go.Am.Mem
