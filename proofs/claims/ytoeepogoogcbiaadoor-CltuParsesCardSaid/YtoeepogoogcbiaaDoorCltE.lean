/-
  Cltu: Block and Check, the program's and the reference's: the texts' summaries. Own work.
-/
import Derived.Test.YtoeepogoogcbiaaDoorCltD
namespace Go.Am.Clt
open Go Go.Am Go.Am.Lib Go.Proofs
set_option maxRecDepth 100000

/-! ### the program's Block -/
theorem inv255 : ∀ b : Fin 256, iXor .u8 255 ((b.val : Nat) : Int) = ((255 - b.val : Nat) : Int) := by decide +kernel
theorem last2 : ∀ r : Fin 128, iMul .u8 (iXor .u8 255 ((r.val : Nat) : Int)) 2 = ((2 * (127 - r.val) : Nat) : Int) := by decide +kernel
theorem blk_last {s : ByteArray} {x : Int} (h : x = ((lastB s : Nat) : Int)) : ByteArray.append s (bytesOf [.int .u8 x]) = blkS s := by subst h; rfl
theorem blkR_7 {s : ByteArray} (h : s.size = 7) : blkR s = blkS s := by unfold blkR; rw [if_pos h]
theorem blkE_7 {s : ByteArray} (h : s.size = 7) : blkE s = 0 := by unfold blkE; rw [if_pos h]
theorem blkR_n {s : ByteArray} (h : ¬ s.size = 7) : blkR s = emptyS := by unfold blkR; rw [if_neg h]
theorem blkE_n {s : ByteArray} (h : ¬ s.size = 7) : blkE s = 2 := by unfold blkE; rw [if_neg h]
theorem okBlk (tab_ok : AllOk Tryd.prog G0 tabC) : SpecOk Tryd.prog G0 10 sBlk :=
  spec2 mixed tab_ok Tryd.func10 (by kernel_rfl : Tryd.f10.body = some (codeOf Tryd.f10)) cBlk rfl rfl rfl (by kernel_rfl) (ids := []) (by kernel_rfl) trivial (by
    intro args h K hk
    unfold sBlk at hk
    split at hk
    · rename_i s
      obtain ⟨hs, hk⟩ := hk
      show bBlk s K
      rw [bBlk_eq]
      intro x1 h1
      by_cases h7 : s.size = 7
      · rw [dnT (by omega)]
        refine ⟨hs, ?_⟩
        intro x2 h2 x3 h3 x4 h4 x5 h5
        have hl := last2 ⟨remN s, remN_lt s⟩
        dsimp only at hl
        rw [h3, h2, hl] at h4
        have h5' : x5.size = 1 := by rw [h5, bytesOf_size]; rfl
        rw [dT (by omega)]
        intro x6 h6
        rw [h5, blk_last h4] at h6
        rw [h6, ← blkR_7 h7, ← blkE_7 h7]
        exact hk
      · rw [dnF (by omega), ← blkR_n h7, ← blkE_n h7]
        exact hk
    · exact hk.elim)

/-! ### the program's Check -/
theorem allV : ∀ {L : List Value} (s : ByteArray), L = bytesV s → List.all L (isInt .u8) = true := by
  intro L s h
  subst h
  rw [List.all_eq_true]
  intro x hx
  unfold bytesV at hx
  obtain ⟨b, _, rfl⟩ := List.mem_map.1 hx
  exact isInt_int _ _
theorem take7 {L : List Value} (h : L.length = 7) : List.take 7 (List.drop 0 L) = L := by rw [List.drop_zero, List.take_of_length_le (Nat.le_of_eq h)]
theorem shr128 : ∀ j : Fin 8, Int.fdiv 128 ((2 : Int) ^ (if j.val ≤ 8 then j.val else 8)) = ((2 ^ (7 - j.val) : Nat) : Int) := by decide +kernel
theorem bytesV_of {s : ByteArray} {l : List Value} (hl : l.length = s.size) (h : ∀ t, t < s.size → l[t]? = some (.int .u8 ((byteAt s t : Nat) : Int))) : l = bytesV s := by
  apply List.ext_getElem?
  intro i
  by_cases hi : i < s.size
  · rw [h i hi, bytesV_get s hi]
  · rw [List.getElem?_eq_none (by omega), List.getElem?_eq_none (by rw [bytesV_length]; omega)]
theorem flipV_V (q : ByteArray) {i : Nat} (hi : i / 8 < q.size) : flipV (bytesV q) i = bytesV (flipS q i) := by
  refine bytesV_of (by unfold flipV; rw [List.length_set, bytesV_length, flip_size]) fun t ht => ?_
  rw [flip_size] at ht
  rw [flip_at q hi ht]
  unfold flipV
  rw [bytesOf_V, List.getElem?_set]
  by_cases e : i / 8 = t
  · rw [if_pos e, if_pos (by rw [bytesV_length]; exact hi), if_pos e.symm]
  · rw [if_neg e, if_neg (fun h => e h.symm), bytesV_get q ht]
theorem loopC9 (_tab_ok : AllOk Tryd.prog G0 tabC) : ∀ e h k, TC9 e h k → ∃ m, loopN cChk (codeOf Tryd.f12) 0 9 m e h k := by
  intro e h k hT
  unfold TC9 at hT
  split at hT
  · rename_i n c y p i B ty mv
    obtain ⟨rfl, hB, hV, y0, y1, rfl, rfl, hk1, hk2⟩ := hT
    obtain ⟨v, rfl⟩ := nat_of (Int.le_of_lt y0)
    rw [Int.toNat_natCast] at hk1 hk2
    generalize hq : bytesOf B = q at hV hk1
    subst hV
    have hqs : q.size = 7 := by rw [← bytesV_length]; exact hB
    refine ⟨64, ?_⟩
    have key : ∀ n j : Nat, n + j = 63 → (lgF n j v < 63 → k .ret [(2, .string (fixS q (62 - lgF n j v))), (3, .int .i64 1), (4, .int .i64 0)] []) → (lgF n j v = 63 → k (.exit 0) [] []) →
        loopN cChk (codeOf Tryd.f12) 0 9 (n + 1) [(5, .slice (some ⟨0, 0, some 0⟩) 7 c), (6, .int .u8 ((v : Nat) : Int)), (7, .int .u8 ((powX j : Nat) : Int)), (8, .int .i64 (62 - ((j : Nat) : Int)))] [.cells true (bytesV q) ty mv] k := by
      intro n
      induction n with
      | zero =>
        intro j hj hk1 hk2
        rw [loopN_succ]
        show tC9 (bytesV q) c ty mv (v : Nat) (powX j : Nat) (62 - ((j : Nat) : Int)) _
        rw [tC9_eq, dF (by omega)]
        exact hk2 rfl
      | succ n ih =>
        intro j hj hk1 hk2
        rw [loopN_succ]
        show tC9 (bytesV q) c ty mv (v : Nat) (powX j : Nat) (62 - ((j : Nat) : Int)) _
        have hp := powX_lt ⟨j, by omega⟩
        dsimp only at hp
        rw [tC9_eq, dT (by omega)]
        rw [lgF] at hk1 hk2
        by_cases hv : powX j = v
        · rw [dT (by omega)]
          rw [if_pos hv] at hk1 hk2
          have hr := hk1 (by omega)
          by_cases h56 : 62 - j < 56
          · rw [dT (by omega)]
            unfold fixS at hr
            rw [if_pos h56] at hr
            intro x4 h4
            rw [show (62 - ((j : Nat) : Int)) = ((62 - j : Nat) : Int) by omega, show (8 : Int) = ((8 : Nat) : Int) from rfl, tdiv_cast, w64 (by omega)] at h4
            subst h4
            rw [dT2 (by omega) (by omega)]
            intro x5 h5
            rw [show (62 - ((j : Nat) : Int)) = ((62 - j : Nat) : Int) by omega, show (8 : Int) = ((8 : Nat) : Int) from rfl, tmod_cast] at h5
            subst h5
            rw [dT (by omega)]
            intro x6 h6
            have hs := shr128 ⟨(62 - j) % 8, by omega⟩
            dsimp only at hs
            rw [Int.toNat_natCast] at h6
            replace h6 := h6.trans hs
            have hg : (bytesV q).getD ((62 - j) / 8) undef = .int .u8 ((byteAt q ((62 - j) / 8) : Nat) : Int) := by
              rw [List.getD_eq_getElem?_getD, bytesV_get q (by omega)]; rfl
            rw [Int.toNat_natCast, bytesV_length, dT (by omega), hg, isInt_int, cond_true, intOf_int]
            intro x7 h7
            rw [h6, iXor_cast .u8 (by rw [cap8]; exact byteAt_lt _ _) (by rw [cap8]; exact pow7_lt _)] at h7
            have hw : List.set (bytesV q) ((62 - j) / 8) (.int .u8 x7) = bytesV (flipS q (62 - j)) := by
              rw [← flipV_V q (by omega)]
              unfold flipV
              rw [bytesOf_V, h7]
            rw [dT2 (by omega) (by omega), dT (by omega), hw, bytesV_length, flip_size, dT (by omega), take7 (by rw [bytesV_length, flip_size]; exact hqs), allV _ rfl, cond_true]
            intro x8 h8
            rw [bytesOf_V] at h8
            subst h8
            exact hr
          · rw [dF (by omega)]
            unfold fixS at hr
            rw [if_neg h56] at hr
            rw [bytesV_length, dT (by omega), take7 (by rw [bytesV_length]; exact hqs), allV _ rfl, cond_true]
            intro x8 h8
            rw [bytesOf_V] at h8
            subst h8
            exact hr
        · rw [dF (by omega)]
          rw [if_neg hv] at hk1 hk2
          refine ⟨by omega, by omega, ?_⟩
          intro x1 h1 x2 h2
          rw [iSub_i64 (by omega) (by omega)] at h2
          obtain rfl : x2 = 62 - ((j + 1 : Nat) : Int) := by omega
          rw [Int.toNat_natCast] at h1
          subst h1
          exact ih (j + 1) (by omega) hk1 hk2
    exact key 63 0 (by omega) hk1 hk2
  · exact hT.elim
theorem chk_n {s : ByteArray} (h : ¬ s.size = 8) : chkS s = emptyS ∧ chkW s = 0 ∧ chkE s = 2 := by
  unfold chkS chkW chkE
  rw [if_neg h, if_neg (fun e => h e.1), if_neg h]
  exact ⟨rfl, rfl, rfl⟩
theorem chk_0 {s : ByteArray} (h : s.size = 8) (h0 : syn s = 0) : chkS s = s.extract 0 7 ∧ chkW s = 0 ∧ chkE s = 0 := by
  unfold chkS chkW chkE
  rw [if_pos h, if_pos h0, if_neg (fun e => e.2.1 h0), if_pos h, if_pos (Or.inl h0)]
  exact ⟨rfl, rfl, rfl⟩
theorem chk_1 {s : ByteArray} (h : s.size = 8) (h0 : ¬ syn s = 0) (hl : lg (syn s) < 63) : chkS s = fixS (s.extract 0 7) (62 - lg (syn s)) ∧ chkW s = 1 ∧ chkE s = 0 := by
  unfold chkS chkW chkE
  rw [if_pos h, if_neg h0, if_pos hl, if_pos ⟨h, h0, hl⟩, if_pos h, if_pos (Or.inr hl)]
  exact ⟨rfl, rfl, rfl⟩
theorem chk_2 {s : ByteArray} (h : s.size = 8) (h0 : ¬ syn s = 0) (hl : lg (syn s) = 63) : chkS s = emptyS ∧ chkW s = 0 ∧ chkE s = 6 := by
  unfold chkS chkW chkE
  rw [if_pos h, if_neg h0, if_neg (by omega), if_neg (fun e => by omega), if_pos h, if_neg (fun e => by rcases e with e | e; exact h0 e; omega)]
  exact ⟨rfl, rfl, rfl⟩
theorem okChk (tab_ok : AllOk Tryd.prog G0 tabC) : SpecOk Tryd.prog G0 12 sChk :=
  spec2 mixed tab_ok Tryd.func12 (by kernel_rfl : Tryd.f12.body = some (codeOf Tryd.f12)) cChk rfl rfl rfl (by kernel_rfl) (ids := [9]) (by kernel_rfl) ⟨by intro e h k hT; exact loopC9 tab_ok e h k hT, trivial⟩ (by
    intro args h K hk
    unfold sChk at hk
    split at hk
    · rename_i s
      obtain ⟨hs, hk⟩ := hk
      show bChk s K
      rw [bChk_eq]
      intro x1 h1
      by_cases h8 : s.size = 8
      · have hb := byteAt_lt s 7
        have hc : (s.extract 0 7).size = 7 := by rw [ByteArray.size_extract]; omega
        rw [dnT (by omega), dT (by omega)]
        intro x2 h2
        rw [dT (by omega)]
        intro x3 h3 x4 h4 x5 h5
        replace h3 : x3 = ((byteAt s 7 : Nat) : Int) := h3
        have hi := inv255 ⟨byteAt s 7, hb⟩
        dsimp only at hi
        rw [h3, hi] at h4
        rw [h4, show (2 : Int) = ((2 : Nat) : Int) from rfl, fdiv_cast] at h5
        rw [dT (by omega)]
        intro x6 h6
        subst h2
        subst h6
        refine ⟨by omega, ?_⟩
        intro x7 h7 x8 h8'
        have hq : (255 - byteAt s 7) / 2 < 256 := by omega
        have hr := remN_lt (s.extract 0 7)
        rw [h7, h5, iXor_cast .u8 (by rw [cap8]; omega) (by rw [cap8]; exact hq)] at h8'
        replace h8' : x8 = ((syn s : Nat) : Int) := h8'
        have hy := syn_lt s
        by_cases h0 : syn s = 0
        · obtain ⟨e1, e2, e3⟩ := chk_0 h8 h0
          rw [e1, e2, e3] at hk
          rw [dT (by omega), bytesV_length, hc, dT (by omega), take7 (by rw [bytesV_length]; exact hc), allV _ rfl, cond_true]
          intro x9 h9
          rw [bytesOf_V] at h9
          subst h9
          exact hk
        · rw [dF (by omega)]
          refine ⟨hc, by rw [bytesV_length]; exact hc, by rw [bytesOf_V], by omega, by omega, rfl, rfl, ?_, ?_⟩
          · intro hl
            rw [h8', Int.toNat_natCast] at hl
            obtain ⟨e1, e2, e3⟩ := chk_1 h8 h0 hl
            rw [e1, e2, e3] at hk
            rw [h8', Int.toNat_natCast, bytesOf_V]
            exact hk
          · intro hl
            rw [h8', Int.toNat_natCast] at hl
            obtain ⟨e1, e2, e3⟩ := chk_2 h8 h0 hl
            rw [e1, e2, e3] at hk
            exact hk
      · obtain ⟨e1, e2, e3⟩ := chk_n h8
        rw [e1, e2, e3] at hk
        rw [dnF (by omega)]
        exact hk
    · exact hk.elim)
end Go.Am.Clt
