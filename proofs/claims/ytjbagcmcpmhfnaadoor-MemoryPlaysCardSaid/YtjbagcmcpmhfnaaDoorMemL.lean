/-
  Memory: ReadBytes proved, of the program and of the reference. Own work.
-/
import Derived.Test.YtjbagcmcpmhfnaaDoorMemK
namespace Go.Am.Mem
open Go Go.Am Go.Am.Ham Go.Proofs
set_option maxRecDepth 100000

theorem rbBytes_length : ∀ (c : Nat) (m : Mem) (a : Nat), (rbBytes c m a).length = 4 * c
  | 0, _, _ => rfl
  | c + 1, m, a => by
    rw [rbBytes, List.length_append, rbBytes_length c]
    show 4 + 4 * c = _
    omega
theorem rbBytes_int : ∀ (c : Nat) (m : Mem) (a : Nat) (v : Value), v ∈ rbBytes c m a → isInt .u8 v = true
  | 0, _, _, v, h => by cases h
  | c + 1, m, a, v, h => by
    rw [rbBytes, List.mem_append] at h
    rcases h with h | h
    · unfold bytes4 at h
      simp only [List.mem_cons, List.not_mem_nil, or_false] at h
      rcases h with rfl | rfl | rfl | rfl <;> rfl
    · exact rbBytes_int c _ _ v h
theorem byte_eq {w : Nat} (hw : w < 2 ^ 32) {x2 x4 x5 x6 x7 x8 x9 x10 : Int} (h2 : x2 = ((w : Nat) : Int)) (h4 : x4 = Int.fdiv x2 16777216) (h5 : x5 = IntKind.wrap .u8 x4) (h6 : x6 = Int.fdiv x2 65536) (h7 : x7 = IntKind.wrap .u8 x6)
    (h8 : x8 = Int.fdiv x2 256) (h9 : x9 = IntKind.wrap .u8 x8) (h10 : x10 = IntKind.wrap .u8 x2) : [Value.int .u8 x5, Value.int .u8 x7, Value.int .u8 x9, Value.int .u8 x10] = bytes4 w := by
  rw [h2, show (16777216 : Int) = ((16777216 : Nat) : Int) from rfl, fdiv_cast] at h4
  rw [h2, show (65536 : Int) = ((65536 : Nat) : Int) from rfl, fdiv_cast] at h6
  rw [h2, show (256 : Int) = ((256 : Nat) : Int) from rfl, fdiv_cast] at h8
  rw [wrap_u rfl, show (2 ^ IntKind.u8.bits : Nat) = 256 from rfl] at h5 h7 h9 h10
  unfold bytes4
  have e5 : x5 = ((w / 2 ^ 24 : Nat) : Int) := by rw [h5, h4]; omega
  have e7 : x7 = ((w / 2 ^ 16 % 256 : Nat) : Int) := by rw [h7, h6]; omega
  have e9 : x9 = ((w / 2 ^ 8 % 256 : Nat) : Int) := by rw [h9, h8]; omega
  have e10 : x10 = ((w % 256 : Nat) : Int) := by rw [h10, h2]; omega
  rw [e5, e7, e9, e10]
theorem take_all {α : Type} (vs : List α) {l : Nat} (h : vs.length = l) : List.take (l * 1) (List.drop 0 vs) = vs := by
  rw [Nat.mul_one, List.drop_zero, List.take_of_length_le (by omega)]

theorem loopRB : ∀ e h k, TRB e h k → ∃ m, loopN cRB (codeOf Tryd.f34) 0 5 m e h k := by
  intro e h k hT
  unfold TRB at hT
  split at hT
  · rename_i a n
    replace hT := asMem_elim hT
    obtain ⟨m, ty, ty2, mv, mv2, rfl, ho, a0, n0, a1, hk⟩ := hT
    have hN : lenW n.toNat ≤ 16384 := by have := ho.le; omega
    have key : ∀ (c j a : Nat) (vs : List Value) (m : Mem) (mv3 : Bool), OkM m → a + c ≤ m.n → vs.length = 4 * j → j + c = lenW n.toNat →
        (∀ mv3 m', m' = rbM c m a → (rbLost c m a = true → k .ret [(6, noStr), (7, .int .i64 300)] (memH m' ty ty2 mv mv2)) ∧
          (rbLost c m a = false → k (.exit 0) [(2, .int .i64 n), (9, .slice (some ⟨2, 0, some 0⟩) (4 * lenW n.toNat) 2)] (bufH m' ty ty2 mv mv2 (vs ++ rbBytes c m a) mv3))) →
        loopN cRB (codeOf Tryd.f34) 0 5 (c + 1) [(0, .pointer (some ⟨0, 0, some 0⟩)), (1, .int .i64 (a : Nat)), (2, .int .i64 n), (9, .slice (some ⟨2, 0, some 0⟩) (4 * j) 2)] (bufH m ty ty2 mv mv2 vs mv3) k := by
      intro c
      induction c with
      | zero =>
        intro j a vs m mv3 ho ha hl hj hk
        rw [loopN_succ]
        show tRBb m ty ty2 mv mv2 vs mv3 a n (4 * j) _
        rw [tRBb_eq]
        rintro x1 rfl
        rw [dF (by unfold lenW at hj; omega)]
        show k (.exit 0) [(2, .int .i64 n), (9, .slice (some ⟨2, 0, some 0⟩) (4 * j) 2)] (bufH m ty ty2 mv mv2 vs mv3)
        have := (hk mv3 m rfl).2 rfl
        rw [show rbBytes 0 m a = [] from rfl, List.append_nil, ← hj, Nat.add_zero] at this
        exact this
      | succ c ih =>
        intro j a vs m mv3 ho ha hl hj hk
        have hle := ho.le
        have hin : inM m (a : Nat) = true := inM_iff.2 (by omega)
        rw [loopN_succ]
        show tRBb m ty ty2 mv mv2 vs mv3 a n (4 * j) _
        rw [tRBb_eq]
        rintro x1 rfl
        rw [dT (by unfold lenW at hj; omega)]
        refine ⟨ho, by omega, by omega, ?_⟩
        rw [Int.toNat_natCast]
        rintro x2 h2 x3 h3
        by_cases hk2 : kindAt m a = 2
        · rw [dT (by rw [h3]; unfold kindAt at hk2; omega)]
          show k .ret [(6, noStr), (7, .int .i64 300)] (memH (readF m a) ty ty2 mv mv2)
          exact (hk mv3 _ (by rw [rbM, if_pos hk2])).1 (by rw [rbLost, if_pos hk2])
        · rw [dF (by rw [h3]; unfold kindAt at hk2; omega)]
          rintro x4 h4 x5 h5 x6 h6 x7 h7 x8 h8 x9 h9 x10 h10
          have hb := byte_eq (decN_lt _).1 h2 h4 h5 h6 h7 h8 h9 h10
          rw [dT2 (by omega) (by omega)]
          rintro x11 h11
          rw [iAdd_i64 (by omega) (by omega)] at h11
          obtain rfl : x11 = ((a + 1 : Nat) : Int) := by omega
          rw [take_all vs hl, hb]
          have := ih (j + 1) (a + 1) (vs ++ bytes4 (decN (wordAt m a)).1) (readF m a) true (ok_readF ho a) (by rw [readF_n]; omega) (by rw [List.length_append, hl]; show 4 * j + 4 = _; omega) (by omega) (fun mv3 m' hm => by
            have h := hk mv3 m' (by rw [rbM, if_neg hk2]; exact hm)
            rw [rbLost, if_neg hk2, rbBytes, ← List.append_assoc] at h
            exact h)
          rw [loopN_succ] at this
          replace this : tRBb (readF m a) ty ty2 mv mv2 (vs ++ bytes4 (decN (wordAt m a)).1) true ((a + 1 : Nat) : Int) n (4 * (j + 1)) _ := this
          show loopN cRB (codeOf Tryd.f34) 0 5 (c + 1) _ _ k
          rw [loopN_succ]
          show tRBb (readF m a) ty ty2 mv mv2 (vs ++ bytes4 (decN (wordAt m a)).1) true ((a + 1 : Nat) : Int) n (4 * j + 4) _
          exact this
    by_cases hn : n = 0
    · subst hn
      refine ⟨1, ?_⟩
      rw [loopN_succ]
      show tRBa m ty ty2 mv mv2 a 0 _
      rw [tRBa_eq]
      rintro x1 rfl
      rw [dF (by omega)]
      show k (.exit 0) [(2, .int .i64 0), (9, .slice none 0 0)] (memH m ty ty2 mv mv2)
      exact ((hk true m rfl).2 rfl).1 rfl
    · obtain ⟨c, hc⟩ : ∃ c, lenW n.toNat = c + 1 := ⟨lenW n.toNat - 1, by unfold lenW; omega⟩
      refine ⟨c + 1 + 1, ?_⟩
      have hle := ho.le
      rw [hc] at hk
      rw [loopN_succ]
      show tRBa m ty ty2 mv mv2 a n _
      rw [tRBa_eq]
      rintro x1 rfl
      rw [dT (by omega)]
      refine ⟨ho, by omega, by omega, ?_⟩
      rintro x2 h2 x3 h3
      by_cases hk2 : kindAt m a.toNat = 2
      · rw [dT (by rw [h3]; unfold kindAt at hk2; omega)]
        show k .ret [(6, noStr), (7, .int .i64 300)] (memH (readF m a.toNat) ty ty2 mv mv2)
        exact (hk true _ (by rw [rbM, if_pos hk2])).1 (by rw [rbLost, if_pos hk2])
      · rw [dF (by rw [h3]; unfold kindAt at hk2; omega)]
        rintro x4 h4 x5 h5 x6 h6 x7 h7 x8 h8 x9 h9 x10 h10
        have hb := byte_eq (decN_lt _).1 h2 h4 h5 h6 h7 h8 h9 h10
        rintro x11 h11
        rw [iAdd_i64 (by omega) (by omega)] at h11
        obtain rfl : x11 = ((a.toNat + 1 : Nat) : Int) := by omega
        rw [hb]
        have := key c 1 (a.toNat + 1) (bytes4 (decN (wordAt m a.toNat)).1) (readF m a.toNat) false (ok_readF ho _) (by rw [readF_n]; omega) rfl (by omega) (fun mv3 m' hm => by
          have h := hk mv3 m' (by rw [rbM, if_neg hk2]; exact hm)
          rw [rbLost, if_neg hk2, rbBytes] at h
          exact ⟨h.1, fun hf => by rw [hc]; exact (h.2 hf).2 (by omega)⟩)
        rw [loopN_succ] at this
        replace this : tRBb (readF m a.toNat) ty ty2 mv mv2 (bytes4 (decN (wordAt m a.toNat)).1) false ((a.toNat + 1 : Nat) : Int) n (4 * 1) _ := this
        show loopN cRB (codeOf Tryd.f34) 0 5 (c + 1) _ _ k
        rw [loopN_succ]
        show tRBb (readF m a.toNat) ty ty2 mv mv2 (bytes4 (decN (wordAt m a.toNat)).1) false ((a.toNat + 1 : Nat) : Int) n 4 _
        exact this
  · exact hT.elim
def rbS (m : Mem) (a n : Int) : Mem := if roomM m a n = 0 then rbM (lenW n.toNat) m a.toNat else m
def rbRes (m : Mem) (a n : Int) : ByteArray × Nat :=
  if roomM m a n = 0 then (if rbLost (lenW n.toNat) m a.toNat = true then (⟨⟨[]⟩⟩, 300) else (bytesOf ((rbBytes (lenW n.toNat) m a.toNat).take n.toNat), 0)) else (⟨⟨[]⟩⟩, 2)
def sRB : Spec := fun args h K => match args with
  | [.pointer (some ⟨0, 0, some 0⟩), .int .i64 a, .int .i64 n] => asMem h fun m ty ty2 mv mv2 => OkM m ∧ ∀ m', m' = rbS m a n → K (.tuple #[.string (rbRes m a n).1, .int .i64 (((rbRes m a n).2 : Nat) : Int)]) (memH m' ty ty2 mv mv2)
  | _ => False
theorem room_n {m : Mem} {a n : Int} (h : roomM m a n = 0) : 0 ≤ n := by
  unfold roomM at h
  split at h
  · omega
  · cases h
theorem okRB : SpecOk Tryd.prog G0 34 sRB :=
  spec2 mixed tI_ok Tryd.func34 (by kernel_rfl : Tryd.f34.body = some (codeOf Tryd.f34)) cRB rfl rfl rfl (by kernel_rfl) (ids := [5]) (by kernel_rfl) ⟨loopRB, trivial⟩ (by
    intro args h K hk
    unfold sRB at hk
    split at hk
    · rename_i a n
      replace hk := asMem_elim hk
      obtain ⟨m, ty, ty2, mv, mv2, rfl, ho, hk⟩ := hk
      show bRB m ty ty2 mv mv2 a n K
      rw [bRB_eq]
      refine ⟨ho.le, ?_⟩
      rintro x1 h1
      unfold rbRes rbS at hk
      rcases room_cases m a n with h | h
      · rw [if_pos h, if_pos h] at hk
        have n0 := room_n h
        obtain ⟨r1, r2, r3⟩ := room_in h n0
        rw [dnT (by rw [h1, h]; rfl)]
        refine ⟨ho, r1, n0, r2, fun _ x3 h3 => ⟨fun hl => ?_, fun hl => ⟨fun hn => ?_, fun hn => ?_⟩⟩⟩
        · rw [if_pos hl] at hk; exact hk x3 h3
        · rw [if_neg (by rw [hl]; exact Bool.false_ne_true)] at hk
          subst hn
          rw [dT2 (by omega) (by omega)]
          rintro x4 rfl
          exact hk x3 h3
        · rw [if_neg (by rw [hl]; exact Bool.false_ne_true)] at hk
          have hlen := rbBytes_length (lenW n.toNat) m a.toNat
          have hw : n.toNat ≤ 4 * lenW n.toNat := by unfold lenW; omega
          rw [dT2 n0 (by omega), dT (by rw [hlen]; omega)]
          rw [Nat.sub_zero, Nat.mul_one, List.drop_zero]
          have ha : List.all (List.take n.toNat (rbBytes (lenW n.toNat) m a.toNat)) (isInt .u8) = true := List.all_eq_true.2 fun v hv => rbBytes_int _ _ _ v (List.mem_of_mem_take hv)
          rw [ha, cond_true]
          rintro x5 rfl
          exact hk x3 h3
      · rw [if_neg (by omega), if_neg (by omega)] at hk
        rw [dnF (by rw [h1, h]; omega), h1, h]
        exact hk _ rfl
    · exact hk.elim)
end Go.Am.Mem
