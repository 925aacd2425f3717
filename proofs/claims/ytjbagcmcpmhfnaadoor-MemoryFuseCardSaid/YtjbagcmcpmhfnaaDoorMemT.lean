/-
  Memory: MemoryFuse. Own work.
-/
import Derived.Test.YtjbagcmcpmhfnaaDoorMemS
import Derived.Test.YtjbagcmcpmhfnaaDoorAmY
namespace Go.Am.Mem
open Go Go.Am Go.Am.Ham Go.Proofs
set_option maxRecDepth 100000

theorem encN_zero : encN 0 = 0 := by rw [enc_eq, encR_zero]
theorem dec_zero : decN 0 = (0, 0, 0) := by
  have := dec_enc (w := 0) (by decide)
  rw [encN_zero] at this; exact this
/-- A clean word is read: nothing changes. -/
theorem Good.clean {m : Mem} {n : Nat} (g : Good m n) {a u : Nat} (ha : a < n) (h : decN (wordAt m a) = (u, 0, 0)) : readS m (a : Nat) = m ∧ Mem.readR m (a : Nat) = (u, 0, 0) := by
  have hin : (0 : Int) ≤ (a : Nat) ∧ ((a : Nat) : Int) < (n : Nat) := by omega
  refine ⟨?_, ?_⟩
  · unfold readS Mem.readF
    rw [g.inM hin, if_pos rfl, Int.toNat_natCast, h, if_neg (by show ¬ (0 : Nat) = 1; omega)]
    rfl
  · rw [g.readR hin, Int.toNat_natCast, h, if_neg (by show ¬ (0 : Nat) = 2; omega)]
theorem Fil.step {m : Mem} {vs : List Value} {l : Nat} {most keep : Int} {i : Nat} (h : Fil m vs l most keep i) (hm : 0 ≤ most ∧ most ≤ 20000) (hi : i < l) (hl : l ≤ 16384) : Fil (storeM m i (encN (wv vs i))) vs l most keep (i + 1) := by
  have hn := h.n
  have hf := h.fuse
  have hb := h.bl
  have hst := h.st
  by_cases c : (i : Int) < most
  · rw [if_pos (by omega)] at hf hst
    have f0 : m.fuse ≠ 0 := by omega
    refine ⟨ok_store h.ok (enc39 _), (store_n _ _ _).trans hn, ?_, ?_, ?_, ?_, fun j hj => ?_⟩
    · have : (storeM m i (encN (wv vs i))).safe = m.safe := by unfold storeM; split <;> rfl
      rw [this]; exact h.safe
    · unfold storeM
      rw [if_neg f0]
      show (if m.fuse > 0 then iSub .i64 m.fuse 1 else m.fuse) = _
      rw [if_pos (by omega), if_pos (by omega), hf]
      rw [iSub_i64 (by omega) (by omega)]; omega
    · unfold storeM
      rw [if_neg f0]
      show m.bl = _
      rw [hb, decide_eq_false (by omega), decide_eq_false (by omega)]
    · unfold storeM
      rw [if_neg f0]
      show iAdd .i64 m.st 1 = _
      rw [hst, iAdd_i64 (by omega) (by omega), if_pos (by omega)]; omega
    · rw [store_at h.ok (by omega) f0, h.w j hj]
      by_cases e : i = j
      · subst e; rw [if_pos rfl, if_pos ⟨by omega, c⟩]
      · rw [if_neg e]
        by_cases e2 : j < i ∧ (j : Int) < most
        · rw [if_pos e2, if_pos ⟨by omega, e2.2⟩]
        · rw [if_neg e2, if_neg (by omega)]
  · have f0 : m.fuse = 0 := by rw [hf]; split <;> omega
    have e : storeM m i (encN (wv vs i)) = { m with bl := true } := by unfold storeM; rw [if_pos f0]
    rw [e]
    refine ⟨ok_same h.ok rfl rfl rfl rfl, hn, h.safe, ?_, ?_, ?_, fun j hj => ?_⟩
    · show m.fuse = _
      rw [f0]; split <;> omega
    · show true = _
      rw [decide_eq_true (by omega)]
    · show m.st = _
      rw [hst]; split <;> split <;> omega
    · show wordAt m j = _
      rw [h.w j hj]
      by_cases e2 : j < i ∧ (j : Int) < most
      · rw [if_pos e2, if_pos ⟨by omega, e2.2⟩]
      · rw [if_neg e2, if_neg (by omega)]
theorem OkW.at {k : IntKind} {B : Nat} {vs : List Value} {l : Nat} (h : OkW k B vs l) {i : Nat} (hi : i < l) : i + 1 ≤ vs.length ∧ vs.getD i undef = .int k ((wv vs i : Nat) : Int) ∧ wv vs i < B := ⟨by have := h.len; omega, h.int i hi, h.lt i hi⟩
theorem loopFa : ∀ e h k, TFa e h k → ∃ m, loopN cFuse2 (codeOf Tryd.f5) 0 10 m e h k := by
  intro e h k hT
  unfold TFa at hT
  split at hT
  · rename_i l c most keep i
    replace hT := asRo1_elim hT
    obtain ⟨vs, t, m, ty, ty2, mv, mv2, rfl, hw, m0, m1, rfl, d, hk⟩ := hT
    have hl : l ≤ 16384 := by have := d.ok.le; have := d.n; omega
    have key : ∀ (q i : Nat) (m : Mem), Fil m vs l most keep i → i + q = l →
        loopN cFuse2 (codeOf Tryd.f5) 0 10 (q + 1) [(0, .slice (some ⟨0, 0, some 0⟩) l c), (7, .int .i64 most), (8, .int .i64 keep), (9, .pointer (some ⟨1, 0, some 0⟩)), (11, .int .i64 (i : Nat))] (ro1H vs t m ty ty2 mv mv2) k := by
      intro q
      induction q with
      | zero =>
        intro i m d hi
        rw [loopN_succ]
        show tFa vs t m ty ty2 mv mv2 l c most keep i _
        rw [tFa_eq]
        rintro x1 rfl
        rw [dF (by omega)]
        obtain rfl : i = l := by omega
        exact hk m d
      | succ q ih =>
        intro i m d hi
        have hil : i < l := by omega
        obtain ⟨p1, p2, p3⟩ := hw.at hil
        have hin : inM m ((i : Nat) : Int) = true := inM_iff.2 (by have := d.n; omega)
        rw [loopN_succ]
        show tFa vs t m ty ty2 mv mv2 l c most keep i _
        rw [tFa_eq]
        rintro x1 rfl
        rw [dT (by omega), dT2 (by omega) (by omega), Int.toNat_natCast, dT p1, p2, show isInt .u32 (.int .u32 ((wv vs i : Nat) : Int)) = true from rfl, cond_true, intOf_int, Int.toNat_natCast]
        refine ⟨d.ok, by omega, by omega, ?_⟩
        rintro x2 h2 x3 h3
        have e2 : x2 = storeM m i (encN (wv vs i)) := by rw [h2]; unfold writeS; rw [if_pos hin, Int.toNat_natCast]
        rw [dnT (by rw [h3, chkM_in (inM_iff.1 hin)]; rfl)]
        rintro x4 h4
        rw [iAdd_i64 (by omega) (by omega)] at h4
        obtain rfl : x4 = ((i + 1 : Nat) : Int) := by omega
        exact ih (i + 1) x2 (by rw [e2]; exact d.step ⟨m0, m1⟩ hil hl) (by omega)
    exact ⟨_, key l 0 m d (by omega)⟩
  · exact hT.elim
theorem loopFb : ∀ e h k, TFb e h k → ∃ m, loopN cFuse2 (codeOf Tryd.f5) 1 18 m e h k := by
  intro e h k hT
  unfold TFb at hT
  split at hT
  · rename_i l c most keep i
    replace hT := asRo1_elim hT
    obtain ⟨vs, t, m, ty, ty2, mv, mv2, rfl, hw, rfl, d, hk⟩ := hT
    have hl : l ≤ 16384 := by have := d.g.ok.le; have := d.g.n; omega
    have key : ∀ (q i : Nat), i + q = l →
        loopN cFuse2 (codeOf Tryd.f5) 1 18 (q + 1) [(0, .slice (some ⟨0, 0, some 0⟩) l c), (7, .int .i64 most), (8, .int .i64 keep), (9, .pointer (some ⟨1, 0, some 0⟩)), (12, .int .i64 (i : Nat))] (ro1H vs t m ty ty2 mv mv2) k := by
      intro q
      induction q with
      | zero =>
        intro i hi
        rw [loopN_succ]
        show tFb vs t m ty ty2 mv mv2 l c most keep i _
        rw [tFb_eq]
        rintro x1 rfl
        rw [dF (by omega)]
        exact hk
      | succ q ih =>
        intro i hi
        have hil : i < l := by omega
        obtain ⟨p1, p2, p3⟩ := hw.at hil
        rw [loopN_succ]
        show tFb vs t m ty ty2 mv mv2 l c most keep i _
        rw [tFb_eq]
        rintro x1 rfl
        rw [dT (by omega)]
        have nx : ∀ x : Int, x = iAdd .i64 (i : Nat) 1 → loopN cFuse2 (codeOf Tryd.f5) 1 18 (q + 1) [(0, .slice (some ⟨0, 0, some 0⟩) l c), (7, .int .i64 most), (8, .int .i64 keep), (9, .pointer (some ⟨1, 0, some 0⟩)), (12, .int .i64 x)] (ro1H vs t m ty ty2 mv mv2) k := by
          intro x hx
          rw [iAdd_i64 (by omega) (by omega)] at hx
          obtain rfl : x = ((i + 1 : Nat) : Int) := by omega
          exact ih (i + 1) (by omega)
        have zero : ¬ ((i : Int) < most ∧ (i : Int) < keep) → readS m (i : Nat) = m ∧ Mem.readR m (i : Nat) = (0, 0, 0) := fun hh => d.g.clean hil (by rw [d.w i hil, if_neg hh, dec_zero])
        by_cases c1 : (i : Int) < most
        · rw [dT c1]
          by_cases c2 : (i : Int) < keep
          · rw [dT c2, dT2 (by omega) (by omega), Int.toNat_natCast, dT p1, p2, show isInt .u32 (.int .u32 ((wv vs i : Nat) : Int)) = true from rfl, cond_true, intOf_int]
            obtain ⟨e1, e2⟩ := d.g.clean hil (u := wv vs i) (by rw [d.w i hil, if_pos ⟨c1, c2⟩, dec_enc p3])
            rw [e1, e2]
            refine ⟨d.g.ok, ?_⟩
            rintro y1 hy1 y2 hy2 _ rfl _ rfl
            replace hy1 := hy1.symm
            subst hy1
            rw [dnT (by rw [hy2]), dnT (by rfl), dnT (by rfl)]
            exact nx
          · rw [dF c2]
            obtain ⟨e1, e2⟩ := zero (fun hh => c2 hh.2)
            rw [e1, e2]
            refine ⟨d.g.ok, ?_⟩
            rintro y1 hy1 _ rfl _ rfl _ rfl
            replace hy1 := hy1.symm
            subst hy1
            rw [dnT (by rfl), dnT (by rfl), dnT (by rfl)]
            exact nx
        · rw [dF c1]
          obtain ⟨e1, e2⟩ := zero (fun hh => c1 hh.1)
          rw [e1, e2]
          refine ⟨d.g.ok, ?_⟩
          rintro y1 hy1 _ rfl _ rfl _ rfl
          replace hy1 := hy1.symm
          subst hy1
          rw [dnT (by rfl), dnT (by rfl), dnT (by rfl)]
          exact nx
    exact ⟨_, key l 0 (by omega)⟩
  · exact hT.elim
def sFus : Spec := fun args h K => match args, h with
  | [.slice (some ⟨0, 0, some 0⟩) l _, .int .i64 _, .int .i64 _], [.ro vs t] => OkW .u32 (2 ^ 32) vs l ∧ K (.bool true) [.ro vs t]
  | [.slice (some ⟨0, 0, some 0⟩) l _, .int .i64 _, .int .i64 _], [.dead] => l = 0 ∧ K (.bool true) [.dead]
  | [.slice none 0 0, .int .i64 _, .int .i64 _], [] => K (.bool true) []
  | _, _ => False
theorem tmod_lt {n : Int} {d : Nat} {x : Int} (hd : 0 < d) (h : x = Int.tmod n d) (h0 : 0 ≤ x) : x < d := by
  rw [h]
  exact Int.tmod_lt_of_pos _ (by omega)
theorem okFus : SpecOk Tryd.prog G0 5 sFus :=
  spec2 mixed tL_ok Tryd.func5 (by kernel_rfl : Tryd.f5.body = some (codeOf Tryd.f5)) cFuse2 rfl rfl rfl (by kernel_rfl) (ids := [10, 18]) (by kernel_rfl) ⟨loopFa, loopFb, trivial⟩ (by
    intro args h K hk
    unfold sFus at hk
    split at hk
    · rename_i l c n s vs t
      obtain ⟨hw, hk⟩ := hk
      show bFus vs t l c n s K
      rw [bFus_eq]
      rintro x1 rfl
      by_cases c1 : ((l : Nat) : Int) = 0
      · rw [dT c1]; exact hk
      rw [dF c1]
      rintro x2 rfl
      by_cases c2 : ((l : Nat) : Int) > 100
      · rw [dT c2]; exact hk
      rw [dF c2]
      refine ⟨?_, ?_⟩
      · rintro x3 rfl x4 h4
        rw [iAdd_i64 (by omega) (by omega)] at h4
        rw [dnF (by omega)]
        rintro M hM x6 rfl x7 h7
        rw [iAdd_i64 (by omega) (by omega)] at h7
        rw [dnF (by omega)]
        rintro S hS
        rw [h4] at hM
        rw [h7] at hS
        by_cases cm : M < 0
        · rw [dT cm]; exact hk
        rw [dF cm]
        by_cases ck : S < 0
        · rw [dT ck]; exact hk
        rw [dF ck]
        have bM : M < ((l + 2 : Nat) : Int) := tmod_lt (by omega) (by rw [hM]; rfl) (by omega)
        have bS : S < ((l + 1 : Nat) : Int) := tmod_lt (by omega) (by rw [hS]; rfl) (by omega)
        rintro xn rfl
        refine ⟨fun _ => ?_, fun hb => ?_⟩
        · rintro m0 h0 _ rfl
          rw [Int.toNat_natCast] at h0
          have g0 : Good m0 l := by rw [h0]; exact good_new (by omega) (by omega) (by omega) (by omega)
          rw [dnT (by rfl)]
          refine ⟨g0.ok, ?_⟩
          rintro m1 h1 y1 hy1
          rw [dnT (by rw [hy1]; unfold fuseR; rw [if_neg (by omega)]; rfl)]
          have e1 : m1 = { m0 with fuse := M, bl := false } := by rw [h1]; unfold fuseS; rw [if_neg (by omega)]
          have f1 : Fil m1 vs l M S 0 := by
            rw [e1]
            refine ⟨ok_same g0.ok rfl rfl rfl rfl, g0.n, ?_, ?_, ?_, ?_, fun j hj => ?_⟩
            · rw [h0]; rfl
            · show M = _; split <;> omega
            · show false = _; rw [decide_eq_false (by omega)]
            · rw [h0]; show (0 : Int) = _; split <;> omega
            · rw [if_neg (by omega), h0]; exact new_at (s := S) hj
          refine ⟨hw, by omega, by omega, rfl, f1, ?_⟩
          rintro m2 f2 y2 rfl
          rw [dnT f2.bl]
          rintro y3 hy3 y4 rfl y5 hy5
          rw [dnT (by rw [hy3, hy5, f2.st]; split <;> split <;> omega)]
          refine ⟨f2.ok, ?_⟩
          rintro m3 h3
          have r : Rst m3 vs l M S := by
            rw [h3]
            refine ⟨⟨ok_reset f2.ok, f2.n, by show (-1 : Int) < 0; omega⟩, rfl, fun j hj => ?_⟩
            show wordAt (zeroFrom m2 m2.safe.toNat) j = _
            rw [zero_at f2.ok (by have := f2.n; omega), f2.safe, f2.w j hj]
            by_cases q1 : j < S.toNat
            · rw [if_pos q1]
              by_cases q2 : (j : Int) < M
              · rw [if_pos ⟨hj, q2⟩, if_pos ⟨q2, by omega⟩]
              · rw [if_neg (fun x => q2 x.2), if_neg (fun x => q2 x.1)]
            · rw [if_neg q1, if_neg (by omega)]
          refine ⟨hw, rfl, r, ?_⟩
          rw [r.bl, Bool.not_false, cond_true]; exact hk
        · exfalso
          have : newB ((l : Nat) : Int) S = true := by
            unfold newB
            rw [decide_eq_true (by omega), decide_eq_true (by omega), decide_eq_true (by omega), decide_eq_true (by omega)]; rfl
          rw [this] at hb; cases hb
      · rintro x6 rfl x7 h7
        rw [iAdd_i64 (by omega) (by omega)] at h7
        rw [dnF (by omega)]
        rintro S hS x3 rfl x4 h4
        rw [iAdd_i64 (by omega) (by omega)] at h4
        rw [dnF (by omega)]
        rintro M hM
        rw [h4] at hM
        rw [h7] at hS
        by_cases cm : M < 0
        · rw [dT cm]; exact hk
        rw [dF cm]
        by_cases ck : S < 0
        · rw [dT ck]; exact hk
        rw [dF ck]
        have bM : M < ((l + 2 : Nat) : Int) := tmod_lt (by omega) (by rw [hM]; rfl) (by omega)
        have bS : S < ((l + 1 : Nat) : Int) := tmod_lt (by omega) (by rw [hS]; rfl) (by omega)
        rintro xn rfl
        refine ⟨fun _ => ?_, fun hb => ?_⟩
        · rintro m0 h0 _ rfl
          rw [Int.toNat_natCast] at h0
          have g0 : Good m0 l := by rw [h0]; exact good_new (by omega) (by omega) (by omega) (by omega)
          rw [dnT (by rfl)]
          refine ⟨g0.ok, ?_⟩
          rintro m1 h1 y1 hy1
          rw [dnT (by rw [hy1]; unfold fuseR; rw [if_neg (by omega)]; rfl)]
          have e1 : m1 = { m0 with fuse := M, bl := false } := by rw [h1]; unfold fuseS; rw [if_neg (by omega)]
          have f1 : Fil m1 vs l M S 0 := by
            rw [e1]
            refine ⟨ok_same g0.ok rfl rfl rfl rfl, g0.n, ?_, ?_, ?_, ?_, fun j hj => ?_⟩
            · rw [h0]; rfl
            · show M = _; split <;> omega
            · show false = _; rw [decide_eq_false (by omega)]
            · rw [h0]; show (0 : Int) = _; split <;> omega
            · rw [if_neg (by omega), h0]; exact new_at (s := S) hj
          refine ⟨hw, by omega, by omega, rfl, f1, ?_⟩
          rintro m2 f2 y2 rfl
          rw [dnT f2.bl]
          rintro y3 hy3 y4 rfl y5 hy5
          rw [dnT (by rw [hy3, hy5, f2.st]; split <;> split <;> omega)]
          refine ⟨f2.ok, ?_⟩
          rintro m3 h3
          have r : Rst m3 vs l M S := by
            rw [h3]
            refine ⟨⟨ok_reset f2.ok, f2.n, by show (-1 : Int) < 0; omega⟩, rfl, fun j hj => ?_⟩
            show wordAt (zeroFrom m2 m2.safe.toNat) j = _
            rw [zero_at f2.ok (by have := f2.n; omega), f2.safe, f2.w j hj]
            by_cases q1 : j < S.toNat
            · rw [if_pos q1]
              by_cases q2 : (j : Int) < M
              · rw [if_pos ⟨hj, q2⟩, if_pos ⟨q2, by omega⟩]
              · rw [if_neg (fun x => q2 x.2), if_neg (fun x => q2 x.1)]
            · rw [if_neg q1, if_neg (by omega)]
          refine ⟨hw, rfl, r, ?_⟩
          rw [r.bl, Bool.not_false, cond_true]; exact hk
        · exfalso
          have : newB ((l : Nat) : Int) S = true := by
            unfold newB
            rw [decide_eq_true (by omega), decide_eq_true (by omega), decide_eq_true (by omega), decide_eq_true (by omega)]; rfl
          rw [this] at hb; cases hb
    · obtain ⟨rfl, hk⟩ := hk
      rename_i c n s
      show bFusD c n s K
      rw [bFusD_eq]
      rintro x1 rfl
      rw [dT rfl]
      exact hk
    · rename_i n s
      show bFusN n s K
      rw [bFusN_eq]
      rintro x1 rfl
      rw [dT rfl]
      exact hk
    · exact hk.elim)
theorem okW_of {k : IntKind} {B : Nat} {zs : List Int} {l : Nat} (hl : zs.length = l) (hz : ∀ z ∈ zs, 0 ≤ z ∧ z < B) : OkW k B (zs.map (Value.int k)) l := by
  have at_ : ∀ j (hj : j < zs.length), (zs.map (Value.int k)).getD j undef = .int k zs[j] := fun j hj => by
    rw [List.getD_eq_getElem?_getD, List.getElem?_map, List.getElem?_eq_getElem hj]; rfl
  have wv_ : ∀ j (hj : j < zs.length), ((wv (zs.map (Value.int k)) j : Nat) : Int) = zs[j] := fun j hj => by
    unfold wv
    rw [at_ j hj]
    have := (hz _ (List.getElem_mem hj)).1
    show (((zs[j]).toNat : Nat) : Int) = zs[j]
    omega
  refine ⟨by rw [List.length_map]; exact hl, fun j hj => ?_, fun j hj => ?_⟩
  · rw [at_ j (by omega), wv_ j (by omega)]
  · have h1 := wv_ j (by omega)
    have := (hz _ (List.getElem_mem (show j < zs.length by omega))).2
    omega
end Go.Am.Mem
