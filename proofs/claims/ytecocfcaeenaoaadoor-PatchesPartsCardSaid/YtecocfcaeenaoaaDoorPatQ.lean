/-
  Patches: Commit's summary. Own work.
-/
import Derived.Test.YtecocfcaeenaoaaDoorPatP
namespace Go.Am.Pat
open Go Go.Am Go.Am.Ham Go.Am.Mem Go.Proofs
set_option maxRecDepth 100000

theorem okW_write {m : Mem} (h : OkM m) (a : Int) (w : Nat) : OkM (writeS m a w) ∧ (writeS m a w).n = m.n := ⟨ok_writeS h a w, by unfold writeS; split; exact store_n _ _ _; rfl⟩
theorem hwM_ok : ∀ (c i : Nat) {m : Mem} (a : Int) (w : List Int), OkM m → OkM (hwM c i m a w) ∧ (hwM c i m a w).n = m.n
  | 0, _, _, _, _, h => ⟨h, rfl⟩
  | c + 1, i, m, a, w, h => by
    have h1 := okW_write h (a + ((i % 5 : Nat) : Int)) (wN w (i % 5)).toNat
    have h2 := hwM_ok c (i + 1) a w h1.1
    exact ⟨h2.1, h2.2.trans h1.2⟩
theorem loopCm : ∀ e h k, TCm e h k → ∃ m, loopN cCommit (codeOf Tryd.f16) 0 20 m e h k := by
  intro e h k hT
  unfold TCm at hT
  split at hT
  · rename_i a i b z t0 v0 n safe scrub fuse bl fx lo st t1 v1 W t2 v2 gid gsum glen gbank t3 v3 w0 w1 w2 w3 w4 tw vw
    obtain ⟨ho, a0, a1, hi, u0, u1, u2, u3, u4, hk⟩ := hT
    subst hi
    refine ⟨6, ?_⟩
    have key : ∀ (c i : Nat) (m : Mem) (l : Int), l = (i : Int) → i + c = 6 → OkM m → (∀ m', m' = hwM c i m a [w0, w1, w2, w3, w4] → k (.exit 2) [(0, .pointer (some ⟨0, 0, some 0⟩))] (stB' ⟨b, z⟩ m' ⟨gid, gsum, glen, gbank⟩ ⟨t0, t1, t2, t3, v0, v1, v2, v3⟩)) →
        loopN cCommit (codeOf Tryd.f16) 0 20 (c + 1) [(0, .pointer (some ⟨0, 0, some 0⟩)), (5, .int .i64 a), (10, .pointer (some ⟨4, 0, some 0⟩)), (11, .int .i64 l)]
          (stC ⟨b, z⟩ m ⟨gid, gsum, glen, gbank⟩ ⟨t0, t1, t2, t3, v0, v1, v2, v3⟩ [.int .u32 w0, .int .u32 w1, .int .u32 w2, .int .u32 w3, .int .u32 w4] tw vw) k := by
      intro c
      induction c with
      | zero =>
        intro i m l hl hc ho hk
        rw [loopN_succ]
        show lCm ⟨b, z⟩ m ⟨gid, gsum, glen, gbank⟩ ⟨t0, t1, t2, t3, v0, v1, v2, v3⟩ w0 w1 w2 w3 w4 tw vw a l _
        rw [lCm_eq, dF (by omega)]
        exact hk m rfl
      | succ c ih =>
        intro i m l hl hc ho hk
        rw [loopN_succ]
        show lCm ⟨b, z⟩ m ⟨gid, gsum, glen, gbank⟩ ⟨t0, t1, t2, t3, v0, v1, v2, v3⟩ w0 w1 w2 w3 w4 tw vw a l _
        rw [lCm_eq, dT (by omega)]
        intro x1 h1 x2 h2 x3 h3
        rw [hl, Int.tmod_eq_emod_of_nonneg (by omega)] at h1 h3
        rw [h1, iAdd_i64 (by omega) (by omega)] at h2
        have e3 : x3.toNat = i % 5 := by omega
        rw [dT2 (by omega) (by omega), dT (by omega), e3]
        have hu : U32 (wN [w0, w1, w2, w3, w4] (i % 5)) := by
          rcases (by omega : i % 5 = 0 ∨ i % 5 = 1 ∨ i % 5 = 2 ∨ i % 5 = 3 ∨ i % 5 = 4) with e | e | e | e | e <;> rw [e] <;> assumption
        have hv : List.getD [Value.int .u32 w0, Value.int .u32 w1, Value.int .u32 w2, Value.int .u32 w3, Value.int .u32 w4] (i % 5) undef = .int .u32 (wN [w0, w1, w2, w3, w4] (i % 5)) := by
          rcases (by omega : i % 5 = 0 ∨ i % 5 = 1 ∨ i % 5 = 2 ∨ i % 5 = 3 ∨ i % 5 = 4) with e | e | e | e | e <;> rw [e] <;> rfl
        rw [hv]
        show OkM m ∧ 0 ≤ wN [w0, w1, w2, w3, w4] (i % 5) ∧ wN [w0, w1, w2, w3, w4] (i % 5) < 4294967296 ∧ _
        refine ⟨ho, hu.1, hu.2, fun x4 h4 x5 _ x6 h6 => ?_⟩
        rw [hl, iAdd_i64 (by omega) (by omega)] at h6
        have h4' : x4 = writeS m (a + ((i % 5 : Nat) : Int)) (wN [w0, w1, w2, w3, w4] (i % 5)).toNat := by
          rw [h4, h2]; congr 1
        subst h4'
        refine ih (i + 1) _ x6 (by omega) (by omega) (okW_write ho _ _).1 (fun m' hm' => hk m' ?_)
        rw [hwM]; exact hm'
    exact key 5 1 ⟨W, n, safe, scrub, fuse, bl, fx, lo, st⟩ 1 rfl rfl ho hk
  · exact hT.elim

/-- The new patch's generation. -/
def genN (s : Sto) (m : Mem) (b : Int) : Int := match acN s m with | none => 1 | some n => if n = b then 1 else wN (acW s m) 0 + 1
def hdN (gen : Int) (g : Stg) : List Int := [gen, g.id, g.len, g.sum, ((sealN gen g.id g.len g.sum : Nat) : Int)]
def sCommit : Spec := fun args h K => match args with
  | [.pointer (some ⟨0, 0, some 0⟩)] => asSto h (fun s m t => K (.int .i64 9) (stA s m t))
      (fun s m g t => OkS s ∧ OkM m ∧ Fits s m ∧ U32 g.id ∧ U32 g.sum ∧ 0 ≤ g.len ∧ g.len ≤ s.size ∧ 0 ≤ g.bank ∧ g.bank ≤ 1 ∧ ∀ m1, m1 = rbS m (bankAt s g.bank + 5) g.len → ∀ r, r = rbRes m (bankAt s g.bank + 5) g.len →
        (r.2 ≠ 0 → K (.int .i64 ((r.2 : Nat) : Int)) (stB' s m1 g t)) ∧ (r.2 = 0 → (((crcN 0 r.1 : Nat) : Int) ≠ g.sum → K (.int .i64 310) (stB' s m1 g t)) ∧
        (((crcN 0 r.1 : Nat) : Int) = g.sum → ∀ m2, m2 = acM s m1 → (fullB s m1 = true → K (.int .i64 5) (stB' s m2 g t)) ∧
          (fullB s m1 = false → ∀ m3, m3 = hwM 5 1 m2 (bankAt s g.bank) (hdN (genN s m1 g.bank) g) → K (.int .i64 0) (stA1 s m3 t (.cells true [.int .u32 g.id, .int .u32 g.sum, .int .i64 g.len, .int .i64 g.bank] t.t3 t.v3))))))
  | _ => False
theorem tCm_ok : AllOk Tryd.prog G0 tCm := ⟨okRB, okSum, okSeal, okBegun, tO_ok⟩
theorem iAdd_u32 {a b : Int} (h0 : 0 ≤ a + b) (h1 : a + b ≤ 4294967295) : iAdd .u32 a b = a + b := wrap_u32 h0 h1
theorem seal_u32 (a b c d : Int) : U32 ((sealN a b c d : Nat) : Int) := u32_cast (crcN_lt (by decide) _)
theorem okCommitB : SpecOk Tryd.prog G0 16 sCommit :=
  spec2 mixed tCm_ok Tryd.func16 (by kernel_rfl : Tryd.f16.body = some (codeOf Tryd.f16)) cCommit rfl rfl rfl (by kernel_rfl) (ids := [20]) (by kernel_rfl) ⟨loopCm, trivial⟩ (by
    intro args h K hk
    unfold sCommit at hk
    split at hk
    · rcases asSto_elim hk with ⟨s, m, t, rfl, hk⟩ | ⟨s, m, g, t, rfl, o, hm, f, u1, u2, l0, l1, b0, b1, hk⟩
      · show bCommitA s m t K
        rw [bCommitA_eq]
        intro x1 h1
        rw [dnF (by omega), h1]; exact hk
      · show bCommitB s m g t K
        rw [bCommitB_eq]
        have hz := o.z1
        obtain ⟨r0, r1, r2⟩ := bank_range o f hm b0 b1
        intro x1 h1
        rw [dnT (by omega)]
        refine ⟨o, b0, b1, fun x2 h2 x3 h3 x4 h4 => ⟨hm, fun x5 h5 x6 h6 x7 h7 => ?_⟩⟩
        rw [h3, h2, iAdd_i64 (by omega) (by omega)] at h4
        rw [h4] at h5 h6 h7
        have h3' : x3 = bankAt s g.bank := h3.trans h2
        obtain ⟨k1, k2⟩ := hk x5 h5 _ rfl
        by_cases c1 : x7 = 0
        · rw [dnT c1]
          obtain ⟨k3, k4⟩ := k2 (by omega)
          rw [← h6] at k3 k4
          refine ⟨?_, fun x8 h8 => ?_⟩
          · have := rbRes_size m (bankAt s g.bank + 5) g.len
            rw [← h6] at this; omega
          · by_cases c2 : x8 = g.sum
            · rw [dnT c2]
              have hr := rbS_ok (bankAt s g.bank + 5) g.len hm
              have hm5 : OkM x5 := by rw [h5]; exact hr.1
              have f5 : Fits s x5 := fits_eq (by rw [h5]; exact hr.2) f
              have hm9 := acM_ok (s := s) hm5
              refine ⟨o, hm5, f5, fun x9 h9 => ?_⟩
              obtain ⟨k5, k6⟩ := k4 (by rw [← h8]; exact c2) x9 h9
              rw [← h9] at hm9
              have fin : fullB s x5 = false → ∀ gen, gen = genN s x5 g.bank → U32 gen → ∀ x10, x10 = IntKind.wrap .u32 g.len → (U32 gen ∧ U32 g.id ∧ U32 x10 ∧ U32 g.sum ∧ ∀ x11, x11 = ((sealN gen g.id x10 g.sum : Nat) : Int) → OkM x9 ∧ 0 ≤ x3 ∧ x3 ≤ 16384 ∧ (1 : Int) = 1 ∧ U32 gen ∧ U32 g.id ∧ U32 x10 ∧ U32 g.sum ∧ U32 x11 ∧
                  ∀ x12, x12 = hwM 5 1 x9 x3 [gen, g.id, x10, g.sum, x11] → K (.int .i64 0) (stA1 s x12 t (.cells true [.int .u32 g.id, .int .u32 g.sum, .int .i64 g.len, .int .i64 g.bank] t.t3 t.v3))) := by
                intro hf gen hg ug x10 h10
                rw [wrap_u32 (by omega) (by omega)] at h10
                subst h10
                have ul : U32 g.len := ⟨by omega, by omega⟩
                refine ⟨ug, u1, ul, u2, fun x11 h11 => ⟨hm9.1, by omega, by omega, rfl, ug, u1, ul, u2, by rw [h11]; exact seal_u32 _ _ _ _, fun x12 h12 => k6 hf x12 ?_⟩⟩
                rw [h12, h11, h3', hg]; rfl
              refine ⟨fun hn => fun x10 h10 => ?_, fun x13 x14 x15 hn h14 _ => ?_⟩
              · exact fin (other_none hn).2 1 (by unfold genN; rw [hn]) ⟨by omega, by omega⟩ x10 h10
              · have hu := acW_u32 s x5 0
                rw [← h14] at hu
                obtain ⟨e1, e2⟩ := other_some hn
                by_cases c3 : wN x14 0 = 4294967295
                · rw [dT c3]; exact k5 (by rw [e2, ← h14, decide_eq_true c3])
                · rw [dF c3]
                  have hf : fullB s x5 = false := by rw [e2, ← h14, decide_eq_false c3]
                  by_cases c4 : x13 = g.bank
                  · rw [dnT c4]
                    intro x16 h16
                    exact fin hf 1 (by unfold genN; rw [hn]; show 1 = if x13 = g.bank then 1 else _; rw [if_pos c4]) ⟨by omega, by omega⟩ x16 h16
                  · rw [dnF c4]
                    intro x19 h19 x20 h20
                    have h0 := hu.1
                    have h0' := hu.2
                    rw [iAdd_u32 (by omega) (by omega)] at h19
                    exact fin hf x19 (by unfold genN; rw [hn]; show x19 = if x13 = g.bank then 1 else _; rw [if_neg c4, h19, h14]) ⟨by omega, by omega⟩ x20 h20
            · rw [dnF c2]
              exact k3 (by rw [← h8]; exact c2)
        · rw [dnF c1, h7]
          exact k1 (by omega)
    · exact hk.elim)
end Go.Am.Pat
