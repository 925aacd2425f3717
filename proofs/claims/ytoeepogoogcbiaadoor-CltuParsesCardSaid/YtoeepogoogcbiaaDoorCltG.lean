/-
  Cltu: the reference's Check: its loops and its summary. Own work.
-/
import Derived.Test.YtoeepogoogcbiaaDoorCltF3
namespace Go.Am.Clt
open Go Go.Am Go.Am.Lib Go.Proofs
set_option maxRecDepth 100000

theorem gK5 (s : ByteArray) (u : Value) (v : Int) (F : Env → AHeap → Prop) :
    gcE cRCk.gc (keepE (cRCk.live 5) [(0, .string s), (5, .slice (some ⟨1, 0, some 0⟩) 1 2), (6, .int .i64 v)]) [.cells true [u] 3 false, .cells true [u] 3 false] F =
      F [(0, .string s), (5, .slice (some ⟨0, 0, some 0⟩) 1 2), (6, .int .i64 v)] [.cells true [u] 3 false] := by
  kernel_rfl
theorem gK5' (s : ByteArray) (L : List Value) (v : Int) (F : Env → AHeap → Prop) :
    gcE cRCk.gc (keepE (cRCk.live 5) [(0, .string s), (5, .slice (some ⟨0, 0, some 0⟩) 1 2), (6, .int .i64 v)]) [.cells true L 3 false] F =
      F [(0, .string s), (5, .slice (some ⟨0, 0, some 0⟩) 1 2), (6, .int .i64 v)] [.cells true L 3 false] := by
  kernel_rfl
theorem gK15 (s : ByteArray) (r : Nat) (L : List Value) (ty : TypeId) (mv : Bool) (v : Int) (F : Env → AHeap → Prop) :
    gcE cRCk.gc (keepE (cRCk.live 15) [(0, .string s), (8, .pointer (some ⟨0, 0, some 0⟩)), (9, .int .i64 v)]) [.cells true (restV r) ty mv, .cells true L 3 false] F =
      F [(0, .string s), (8, .pointer (some ⟨0, 0, some 0⟩)), (9, .int .i64 v)] [.cells true (restV r) ty mv] := by
  kernel_rfl
theorem gK15' (s : ByteArray) (r : Nat) (ty : TypeId) (mv : Bool) (v : Int) (F : Env → AHeap → Prop) :
    gcE cRCk.gc (keepE (cRCk.live 15) [(0, .string s), (8, .pointer (some ⟨0, 0, some 0⟩)), (9, .int .i64 v)]) [.cells true (restV r) ty mv] F =
      F [(0, .string s), (8, .pointer (some ⟨0, 0, some 0⟩)), (9, .int .i64 v)] [.cells true (restV r) ty mv] := by
  kernel_rfl
theorem bitsC_one (s : ByteArray) : bitV [bitC s 0] = bitV (bitsC s 1) := rfl
theorem bitC_lo {s : ByteArray} {i : Nat} (h : i < 56) : bitC s i = bitN s i := by unfold bitC; rw [if_pos h]
theorem bitC_hi {s : ByteArray} {i : Nat} (h : ¬ i < 56) : bitC s i = 1 - bitN s i := by unfold bitC; rw [if_neg h]
theorem unitV (i : Nat) : List.set Z63 i (.int .i64 1) = bitV ((List.replicate 63 0).set i 1) := by rw [Z63_eq]; exact bitV_set _ _ 1
theorem unit_good (i : Nat) : GoodL (bitV ((List.replicate 63 0).set i 1)) := goodL (by rw [List.length_set, List.length_replicate]) (unit_bits i)
attribute [local irreducible] bitsL bitsC bitV bitsOf fold remN
theorem loopK5 : ∀ e h k, TK5 e h k → ∃ m, loopN cRCk (codeOf Tryd.f13) 0 5 m e h k := by
  intro e h k hT
  unfold TK5 at hT
  split at hT
  · rename_i s i
    obtain ⟨hs, hi, hk⟩ := hT
    obtain ⟨N, hN⟩ : ∃ N : Nat, N = 62 := ⟨62, rfl⟩
    refine ⟨N + 1 + 1, ?_⟩
    have key : ∀ n j : Nat, ∀ mv : Bool, n + j = 63 → 0 < j → (mv = true ∨ j = 1) → loopN cRCk (codeOf Tryd.f13) 0 5 (n + 1) [(0, .string s), (5, .slice (some ⟨0, 0, some 0⟩) j 2), (6, .int .i64 ((j : Nat) : Int))] [.cells true (bitV (bitsC s j)) 3 mv] k := by
      intro n
      induction n with
      | zero =>
        intro j mv hj h0 hm
        obtain rfl : mv = true := by rcases hm with h | h; exact h; omega
        have e : 63 = j := by omega
        rw [e] at hk
        rw [loopN_succ]
        show tK5 s j (bitV (bitsC s j)) true (j : Nat) _
        rw [tK5_eq, dF (by omega)]
        exact hk
      | succ n ih =>
        intro j mv hj h0 hm
        have nxt : ∀ x z : Int, x = ((bitC s j : Nat) : Int) → z = iAdd .i64 (j : Nat) 1 → loopN cRCk (codeOf Tryd.f13) 0 5 (n + 1) [(0, .string s), (5, .slice (some ⟨0, 0, some 0⟩) (j + 1) 2), (6, .int .i64 z)] [.cells true (List.append (List.take (j * 1) (List.drop 0 (bitV (bitsC s j)))) [.int .i64 x]) 3 true, .cells true [.int .i64 x] 3 false] k := by
          intro x z hx hz
          rw [iAdd_i64 (by omega) (by omega)] at hz
          obtain rfl : z = ((j + 1 : Nat) : Int) := by omega
          rw [Nat.mul_one, take_all (by rw [bitV_len, bitsC_len]), bitV_one hx, bitV_app, ← bitsC_succ]
          have hn := ih (j + 1) true (by omega) (by omega) (Or.inl rfl)
          rw [loopN_succ] at hn ⊢
          change tK5 s (j + 1) (bitV (bitsC s (j + 1))) true ((j + 1 : Nat) : Int) _ at hn
          show tK5 s (j + 1) (bitV (bitsC s (j + 1))) true ((j + 1 : Nat) : Int) _
          exact hn
        rw [loopN_succ]
        show tK5 s j (bitV (bitsC s j)) mv (j : Nat) _
        rw [tK5_eq, dT (by omega)]
        refine ⟨by omega, by omega, by show ((j : Nat) : Int) / 8 < _; omega, ?_⟩
        intro x1 h1
        rw [Int.toNat_natCast] at h1
        have hb := bitN_lt s j
        by_cases h56 : j < 56
        · rw [dF (by omega), bitV_len, bitsC_len, dT2 (by omega) (by omega)]
          intro x2 h2
          exact nxt x1 x2 (by rw [bitC_lo h56]; exact h1) h2
        · rw [dT (by omega)]
          intro x3 h3
          rw [h1, iSub_i64 (by omega) (by omega)] at h3
          rw [bitV_len, bitsC_len, dT2 (by omega) (by omega)]
          intro x2 h2
          exact nxt x3 x2 (by rw [bitC_hi h56]; omega) h2
    have hn := key N 1 false (by omega) (by omega) (Or.inr rfl)
    rw [loopN_succ]
    show tK5n s i _
    rw [tK5n_eq, dT (by omega)]
    refine ⟨by omega, by omega, by show i / 8 < _; omega, ?_⟩
    intro x1 h1
    rw [dF (by omega)]
    intro x2 h2
    rw [hi, iAdd_i64 (by omega) (by omega)] at h2
    rw [hi] at h1
    obtain rfl : x2 = ((1 : Nat) : Int) := by omega
    have h1' : x1 = ((bitC s 0 : Nat) : Int) := h1.trans (by rw [bitC_lo (by omega)]; rfl)
    rw [loopN_succ, gK5'] at hn
    rw [loopN_succ, gK5, bitV_one h1', bitsC_one]
    exact hn
  · exact hT.elim
theorem loopK15 : ∀ e h k, TK15 e h k → ∃ m, loopN cRCk (codeOf Tryd.f13) 1 15 m e h k := by
  intro e h k hT
  unfold TK15 at hT
  split at hT
  · rename_i s i a0 a1 a2 a3 a4 a5 a6 ty mv
    generalize valR [a0, a1, a2, a3, a4, a5, a6] = r at hT
    obtain ⟨hs, hi, hR, r0, r1, hk1, hk2⟩ := hT
    rw [hR]
    have key : ∀ n j : Nat, n + j = 63 → (∀ t, t < j → powX (62 - t) ≠ r) →
        loopN cRCk (codeOf Tryd.f13) 1 15 (n + 1) [(0, .string s), (8, .pointer (some ⟨0, 0, some 0⟩)), (9, .int .i64 ((j : Nat) : Int))] [.cells true (restV r) ty mv] k := by
      intro n
      induction n with
      | zero =>
        intro j hj hno
        rw [loopN_succ]
        show tK15 s r ty mv (j : Nat) _
        rw [tK15_eq, dF (by omega)]
        refine hk2 (lg_none fun t ht => ?_)
        have := hno (62 - t) (by omega)
        rw [show 62 - (62 - t) = t by omega] at this
        exact this
      | succ n ih =>
        intro j hj hno
        have hp := powX_lt ⟨62 - j, by omega⟩
        dsimp only at hp
        have hu := unit_at ⟨j, by omega⟩
        dsimp only at hu
        rw [loopN_succ]
        show tK15 s r ty mv (j : Nat) _
        rw [tK15_eq, dT (by omega), dT2 (by omega) (by omega), Int.toNat_natCast, dT (by omega)]
        refine (fun P => And.intro P P) ?_
        rw [unitV, bitsOf_bitV, hu, restEq hp r1]
        refine ⟨rfl, unit_good j, ?_⟩
        by_cases hr : powX (62 - j) = r
        · have hl : lg r = 62 - j := lg_of (by omega) hr
          rw [hl] at hk1
          have hk := hk1 (by omega)
          rw [show 62 - (62 - j) = j by omega] at hk
          rw [dT hr]
          refine ⟨hs, by omega, by omega, ?_⟩
          intro x2 h2
          subst h2
          rw [dT (by rw [flip_size]; omega)]
          intro x3 h3
          subst h3
          exact hk
        · rw [dF hr]
          intro x1 h1
          rw [iAdd_i64 (by omega) (by omega)] at h1
          obtain rfl : x1 = ((j + 1 : Nat) : Int) := by omega
          have hn := ih (j + 1) (by omega) (fun t ht => by
            rcases Nat.lt_or_ge t j with h1 | h1
            · exact hno t h1
            · rw [show t = j by omega]; exact hr)
          rw [loopN_succ, gK15'] at hn
          show loopN cRCk (codeOf Tryd.f13) 1 15 (n + 1) [(0, .string s), (8, .pointer (some ⟨0, 0, some 0⟩)), (9, .int .i64 ((j + 1 : Nat) : Int))] [.cells true (restV r) ty mv, .cells true (bitV ((List.replicate 63 0).set j 1)) 3 false] k
          rw [loopN_succ, gK15]
          exact hn
    rw [hi]
    exact ⟨64, key 63 0 (by omega) (fun t ht => by omega)⟩
  · exact hT.elim
end Go.Am.Clt
