/-
  Cltu: the reference's Block: its summary. Own work.
-/
import Derived.Test.YtoeepogoogcbiaaDoorCltF2
namespace Go.Am.Clt
open Go Go.Am Go.Am.Lib Go.Proofs
set_option maxRecDepth 100000

theorem seven0 : [Value.int .i64 0, .int .i64 0, .int .i64 0, .int .i64 0, .int .i64 0, .int .i64 0, .int .i64 0] = bitV [0, 0, 0, 0, 0, 0, 0] := rfl
attribute [local irreducible] bitsL bitsC bitV bitsOf fold remN
theorem neg7 : ∀ r : Fin 128, (((((((0 * 2 + 1 - r.val / 64 % 2) * 2 + 1 - r.val / 32 % 2) * 2 + 1 - r.val / 16 % 2) * 2 + 1 - r.val / 8 % 2) * 2 + 1 - r.val / 4 % 2) * 2 + 1 - r.val / 2 % 2) * 2 + 1 - r.val % 2) = 127 - r.val := by decide +kernel
theorem lt127 (r : Nat) : 127 - r < 128 := by omega
theorem lt3 {u b n : Nat} (h : u < n) : u * 2 + 1 - b < 2 * n := by omega
theorem step0 {x y z : Int} {b : Nat} (hb : b < 2) (h1 : x = 0) (h2 : y = iAdd .i64 x 1) (h3 : z = iSub .i64 y ((b : Nat) : Int)) : z = ((0 * 2 + 1 - b : Nat) : Int) := by
  rw [h1, iAdd_i64 (by omega) (by omega)] at h2
  rw [h2, iSub_i64 (by omega) (by omega)] at h3
  omega
theorem step3 {x y z : Int} {w : Int} {u b : Nat} (hw : w = ((u : Nat) : Int)) (hu : u < 64) (hb : b < 2) (h1 : x = iMul .i64 w 2) (h2 : y = iAdd .i64 x 1) (h3 : z = iSub .i64 y ((b : Nat) : Int)) : z = ((u * 2 + 1 - b : Nat) : Int) := by
  rw [hw, iMul_i64 (by omega) (by omega)] at h1
  rw [h1, iAdd_i64 (by omega) (by omega)] at h2
  rw [h2, iSub_i64 (by omega) (by omega)] at h3
  omega
theorem last3 {x y w : Int} {u : Nat} (hw : w = ((u : Nat) : Int)) (hu : u < 128) (h1 : x = iMul .i64 2 w) (h2 : y = IntKind.u8.wrap x) : y = ((2 * u : Nat) : Int) := by
  rw [hw, iMul_i64 (by omega) (by omega)] at h1
  obtain rfl : x = ((2 * u : Nat) : Int) := by omega
  rw [wrap8, Nat.mod_eq_of_lt (by omega)] at h2
  exact h2
theorem okRBk : SpecOk Tryd.prog G0 11 sBlk :=
  spec2 mixed tabC_ok Tryd.func11 (by kernel_rfl : Tryd.f11.body = some (codeOf Tryd.f11)) cRBk rfl rfl rfl (by kernel_rfl) (ids := [5, 11]) (by kernel_rfl) ⟨by intro e h k hT; exact loopB5 e h k hT, trivial, trivial⟩ (by
    intro args h K hk
    unfold sBlk at hk
    split at hk
    · rename_i s
      obtain ⟨hs, hk⟩ := hk
      show bRBk s K
      rw [bRBk_eq]
      intro x1 h1
      by_cases h7 : s.size = 7
      · rw [dnT (by omega)]
        have hL : List.append (List.take 56 (List.drop 0 (bitV (bitsL s 56)))) [.int .i64 0, .int .i64 0, .int .i64 0, .int .i64 0, .int .i64 0, .int .i64 0, .int .i64 0] = bitV (bitsL s 56 ++ [0, 0, 0, 0, 0, 0, 0]) := by
          rw [take_all (by rw [bitV_len, bitsL_len]), seven0, bitV_app]
        have hf : fold (bitsOf (bitV (bitsL s 56 ++ [0, 0, 0, 0, 0, 0, 0]))) 0 = remN s := by rw [bitsOf_bitV, rem_bits h7]
        have hg : GoodL (bitV (bitsL s 56 ++ [0, 0, 0, 0, 0, 0, 0])) := goodL (by rw [List.length_append, bitsL_len]; rfl) (bits_app (bitsL_ok s 56) (zeros_bits 7))
        rw [hL, hf, bitV_len, bitsL_len]
        refine ⟨h7, rfl, ?_⟩
        rw [show (decide ((56 : Nat) ≤ 56) && Bool.true) = true from rfl, cond_true]
        refine ⟨rfl, hg, ?_⟩
        have hsz : ∀ x : ByteArray, x.size = 1 → ((s.size + x.size : Nat) : Int) ≤ 9223372036854775807 := by intro x hx; rw [hx, h7]; decide
        have hr := remN_lt s
        have hn := neg7 ⟨remN s, hr⟩
        dsimp only at hn
        generalize hq : remN s = r at hr hn ⊢
        intro x2 h2 x3 h3 x4 h4 x5 h5 x6 h6 x7 h7' x8 h8 x9 h9 x10 h10 x11 h11 x12 h12 x13 h13 x14 h14 x15 h15 x16 h16 x17 h17 x18 h18 x19 h19 x20 h20 x21 h21 x22 h22 x23 h23 x24 h24 x25 h25
        have b6 : r / 64 % 2 < 2 := Nat.mod_lt _ (by decide)
        have b5 : r / 32 % 2 < 2 := Nat.mod_lt _ (by decide)
        have b4 : r / 16 % 2 < 2 := Nat.mod_lt _ (by decide)
        have b3 : r / 8 % 2 < 2 := Nat.mod_lt _ (by decide)
        have b2 : r / 4 % 2 < 2 := Nat.mod_lt _ (by decide)
        have b1 : r / 2 % 2 < 2 := Nat.mod_lt _ (by decide)
        have b0 : r % 2 < 2 := Nat.mod_lt _ (by decide)
        have c4 := step0 b6 h2 h3 h4
        have l4 : 0 * 2 + 1 - r / 64 % 2 < 2 := lt3 (n := 1) (by decide)
        generalize 0 * 2 + 1 - r / 64 % 2 = u4 at c4 l4 hn
        have c7 := step3 c4 (Nat.lt_of_lt_of_le l4 (by decide)) b5 h5 h6 h7'
        have l7 : u4 * 2 + 1 - r / 32 % 2 < 4 := lt3 (n := 2) l4
        generalize u4 * 2 + 1 - r / 32 % 2 = u7 at c7 l7 hn
        have c10 := step3 c7 (Nat.lt_of_lt_of_le l7 (by decide)) b4 h8 h9 h10
        have l10 : u7 * 2 + 1 - r / 16 % 2 < 8 := lt3 (n := 4) l7
        generalize u7 * 2 + 1 - r / 16 % 2 = u10 at c10 l10 hn
        have c13 := step3 c10 (Nat.lt_of_lt_of_le l10 (by decide)) b3 h11 h12 h13
        have l13 : u10 * 2 + 1 - r / 8 % 2 < 16 := lt3 (n := 8) l10
        generalize u10 * 2 + 1 - r / 8 % 2 = u13 at c13 l13 hn
        have c16 := step3 c13 (Nat.lt_of_lt_of_le l13 (by decide)) b2 h14 h15 h16
        have l16 : u13 * 2 + 1 - r / 4 % 2 < 32 := lt3 (n := 16) l13
        generalize u13 * 2 + 1 - r / 4 % 2 = u16 at c16 l16 hn
        have c19 := step3 c16 (Nat.lt_of_lt_of_le l16 (by decide)) b1 h17 h18 h19
        have l19 : u16 * 2 + 1 - r / 2 % 2 < 64 := lt3 (n := 32) l16
        generalize u16 * 2 + 1 - r / 2 % 2 = u19 at c19 l19 hn
        have c22 := step3 c19 l19 b0 h20 h21 h22
        rw [hn] at c22
        have h24' := last3 c22 (lt127 r) h23 h24
        have h25' : x25.size = 1 := by rw [h25, bytesOf_size]; rfl
        rw [dT (hsz _ h25')]
        intro x26 h26
        rw [h25, blk_last (s := s) (by unfold lastB; rw [hq]; exact h24')] at h26
        rw [h26, ← blkR_7 h7, ← blkE_7 h7]
        exact hk
      · rw [dnF (by omega), ← blkR_n h7, ← blkE_n h7]
        exact hk
    · exact hk.elim)
end Go.Am.Clt
