/-
  Cltu: the reference's Check: its summary. Own work.
-/
import Derived.Test.YtoeepogoogcbiaaDoorCltG
namespace Go.Am.Clt
open Go Go.Am Go.Am.Lib Go.Proofs
set_option maxRecDepth 100000

theorem restV_def (r : Nat) : [Value.int .i64 ((r / 64 % 2 : Nat) : Int), .int .i64 ((r / 32 % 2 : Nat) : Int), .int .i64 ((r / 16 % 2 : Nat) : Int), .int .i64 ((r / 8 % 2 : Nat) : Int), .int .i64 ((r / 4 % 2 : Nat) : Int), .int .i64 ((r / 2 % 2 : Nat) : Int), .int .i64 ((r % 2 : Nat) : Int)] = restV r := rfl
theorem okRCk : SpecOk Tryd.prog G0 13 sChk :=
  spec2 mixed tabC_ok Tryd.func13 (by kernel_rfl : Tryd.f13.body = some (codeOf Tryd.f13)) cRCk rfl rfl rfl (by kernel_rfl) (ids := [5, 15]) (by kernel_rfl) ⟨by intro e h k hT; exact loopK5 e h k hT, by intro e h k hT; exact loopK15 e h k hT, trivial⟩ (by
    intro args h K hk
    unfold sChk at hk
    split at hk
    · rename_i s
      obtain ⟨hs, hk⟩ := hk
      show bRCk s K
      rw [bRCk_eq]
      intro x1 h1
      by_cases h8 : s.size = 8
      · rw [dnT (by omega)]
        have hg : GoodL (bitV (bitsC s 63)) := goodL (bitsC_len s 63) (bitsC_ok s 63)
        have hy := syn_lt s
        rw [bitsOf_bitV, syn_fold h8, rest0 hy, restV_def, val_rest ⟨syn s, hy⟩, restV_def]
        refine ⟨h8, rfl, rfl, hg, ?_⟩
        by_cases h0 : syn s = 0
        · obtain ⟨e1, e2, e3⟩ := chk_0 h8 h0
          rw [e1, e2, e3] at hk
          rw [dT h0, dT (by omega)]
          intro x2 h2
          subst h2
          exact hk
        · rw [dF h0]
          refine ⟨h8, rfl, rfl, Nat.pos_of_ne_zero h0, hy, fun hl => ?_, fun hl => ?_⟩
          · obtain ⟨e1, e2, e3⟩ := chk_1 h8 h0 hl
            rw [e1, e2, e3] at hk
            rw [flip_cut h8 (by omega)]
            exact hk
          · obtain ⟨e1, e2, e3⟩ := chk_2 h8 h0 hl
            rw [e1, e2, e3] at hk
            exact hk
      · obtain ⟨e1, e2, e3⟩ := chk_n h8
        rw [e1, e2, e3] at hk
        rw [dnF (by omega)]
        exact hk
    · exact hk.elim)
end Go.Am.Clt
