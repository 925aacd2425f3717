/-
  Patches: PatchesUpsets answers true. Own work.
-/
import Derived.Test.YtecocfcaeenaoaaDoorPatUa
namespace Go.Am.Pat
open Go Go.Am Go.Am.Ham Go.Am.Mem Go.Proofs
set_option maxRecDepth 100000

theorem ups_vw {m : Mem} {n : Nat} {V E : Nat → Nat} (v : Vw m n V E) (hf : m.fuse < 0) {x b : Int} {i : Nat} (hx : x = ((i : Nat) : Int)) (hi : i < n) (b0 : 0 ≤ b) (b1 : b < 39) (he : E i ≤ 1) :
    ∃ e', Vw (upsS m x b) n V (upd E i e') ∧ (E i = 0 → e' = 1) ∧ upsR m x b = 0 ∧ (upsS m x b).fuse = m.fuse ∧ (upsS m x b).n = m.n := by
  have hin : inM m x = true := inM_iff.2 (by rw [v.num]; omega)
  have hS : upsS m x b = setW m i (wordAt m i ^^^ 2 ^ b.toNat) := by unfold upsS; rw [if_pos ⟨hin, b0, b1⟩, hx, Int.toNat_natCast]
  obtain ⟨e', h1, h2⟩ := (v.at_ i hi).flip (b := b.toNat) (by omega) he
  refine ⟨e', ⟨ok_upsS v.ok x b, by rw [hS]; exact v.num, v.lt, fun j hj => ?_, Or.inl (by rw [hS]; exact hf)⟩, h2, by unfold upsR; rw [if_pos ⟨hin, b0, b1⟩], by rw [hS]; rfl, by rw [hS]; rfl⟩
  rw [hS, setW_at v.ok (by rw [v.num]; exact hj)]
  by_cases e : j = i
  · subst e; rw [if_pos rfl, upd_at]; exact h1
  · rw [if_neg (fun x => e x.symm), upd_ne _ _ e]; exact v.at_ j hj
theorem OkW.at {k : IntKind} {B : Nat} {vs : List Value} {l : Nat} (h : OkW k B vs l) {i : Int} {j : Nat} (hi : i = ((j : Nat) : Int)) (hj : j < l) {A C D : Prop} (ha : A) : cond (decide ((0 : Int) ≤ i) && decide (i < ((l : Nat) : Int))) (cond (decide ((Int.toNat i) + 1 ≤ List.length vs)) (cond (isInt k (List.getD vs (Int.toNat i) undef)) A C) D) False := by
  have h1 := h.len
  have h2 := h.int j hj
  rw [dT2 (by omega) (by omega), dT (by omega), show Int.toNat i = j by omega, h2, show isInt k (.int k ((wv vs j : Nat) : Int)) = true from decide_eq_true rfl]
  exact ha
theorem OkB.mark {fl : List Value} {l : Nat} (h : OkB fl l) (i : Nat) : OkB (fl.set i (.bool true)) l := by
  refine ⟨by rw [List.length_set]; exact h.len, fun j hj => ?_⟩
  unfold upf
  rw [getD_set _ _ _ _ (by rw [h.len]; exact hj)]
  split
  · rfl
  · exact h.b j hj
theorem upf_mark {fl : List Value} {l i j : Nat} (h : OkB fl l) (hj : j < l) : upf (fl.set i (.bool true)) j = if i = j then true else upf fl j := by
  unfold upf
  rw [getD_set _ _ _ _ (by rw [h.len]; exact hj)]
  split <;> rfl
theorem loopUp12 : ∀ e h k, TUp12 e h k → ∃ m, loopN cUpA (codeOf Tryd.f5) 0 12 m e h k := by
  intro e h k hT
  unfold TUp12 at hT
  split at hT
  · rename_i a b l c w lf i us t n safe scrub fuse bl fx lo st t1 v1 W t2 v2 sb sz t0 v0 fl tf vf
    obtain ⟨hw, hl, hi, ew, n0, n1, hlf, htf, hb, hu, hk⟩ := hT
    subst hi hlf htf
    refine ⟨l + 1, ?_⟩
    have key : ∀ (r j : Nat) (x : Int) (m : Mem) (fl : List Value), x = ((j : Nat) : Int) → j + r = l → m.n = lf → OkB fl lf → Uf ⟨sb, sz⟩ m lf (I1 a) 1 fl →
        loopN cUpA (codeOf Tryd.f5) 0 12 (r + 1) [(0, .string a), (1, .string b), (2, .slice (some ⟨0, 0, some 0⟩) l c), (8, .pointer (some ⟨1, 0, some 0⟩)), (9, .pointer (some ⟨3, 0, some 0⟩)), (11, .int .i64 w), (13, .slice (some ⟨4, 0, some 0⟩) m.n 2), (14, .int .i64 x)]
          (upAf us t ⟨sb, sz⟩ m t0 t1 t2 v0 v1 v2 fl 4 vf) k := by
      intro r
      induction r with
      | zero =>
        intro j x m fl hx hj hn hb hu
        rw [loopN_succ]
        show lUp12 us t ⟨sb, sz⟩ m t0 t1 t2 v0 v1 v2 fl vf a b l c w x _
        rw [lUp12_eq]
        intro x1 h1
        rw [dF (by omega)]
        obtain ⟨V, E, S, hE, hf⟩ := hu
        exact hk m hn ⟨V, E, S, fun j hj => (hE j hj).1, hf⟩
      | succ r ih =>
        intro j x m fl hx hj hn hb hu
        rw [loopN_succ]
        show lUp12 us t ⟨sb, sz⟩ m t0 t1 t2 v0 v1 v2 fl vf a b l c w x _
        rw [lUp12_eq]
        intro x1 h1
        rw [dT (by omega)]
        have hlt := hw.lt j (by omega)
        have hval : intOf (List.getD us (Int.toNat x) undef) = ((wv us j : Nat) : Int) := by rw [hx, Int.toNat_natCast, hw.int j (by omega)]; rfl
        rw [hval]
        refine hw.at hx (by omega) fun x2 h2 x3 h3 => ?_
        rw [Int.tdiv_eq_ediv_of_nonneg (by omega), wrap_u32 (by omega) (by omega)] at h2
        rw [wrap_i64 (by omega) (by omega)] at h3
        rw [dnF (by omega)]
        intro x4 h4
        rw [Int.tmod_eq_emod_of_nonneg (by omega)] at h4
        have p4 : 0 ≤ x4 ∧ x4 < w := by rw [h4]; exact ⟨Int.emod_nonneg _ (by omega), Int.emod_lt_of_pos _ (by omega)⟩
        obtain ⟨q, hq⟩ : ∃ q : Nat, x4 = ((q : Nat) : Int) := ⟨x4.toNat, by omega⟩
        have hql : q < lf := by omega
        have hbl := hb.len
        have hqb := hb.b q hql
        rw [dT2 (by omega) (by omega), dT (by omega), show Int.toNat x4 = q by omega, hqb, show isBool (Value.bool (upf fl q)) = true from rfl, cond_true, show boolOf (Value.bool (upf fl q)) = upf fl q from rfl]
        have go : ∀ (m' : Mem), m'.n = lf → Uf ⟨sb, sz⟩ m' lf (I1 a) 1 (fl.set q (.bool true)) → ∀ x5, x5 = iAdd .i64 x 1 →
            loopN cUpA (codeOf Tryd.f5) 0 12 (r + 1) [(0, .string a), (1, .string b), (2, .slice (some ⟨0, 0, some 0⟩) l c), (8, .pointer (some ⟨1, 0, some 0⟩)), (9, .pointer (some ⟨3, 0, some 0⟩)), (11, .int .i64 w), (13, .slice (some ⟨4, 0, some 0⟩) m.n 2), (14, .int .i64 x5)]
              (upAf us t ⟨sb, sz⟩ m' t0 t1 t2 v0 v1 v2 (fl.set q (.bool true)) 4 vf) k := by
          intro m' hm' hu' x5 h5
          rw [iAdd_i64 (by omega) (by omega)] at h5
          have := ih (j + 1) x5 m' (fl.set q (.bool true)) (by omega) (by omega) hm' (hb.mark q) hu'
          rw [hm', ← hn] at this
          exact this
        obtain ⟨V, E, S, hE, hf⟩ := hu
        cases hup : upf fl q with
        | true =>
          rw [Bool.not_true, cond_false, dT2 (by omega) (by omega), dT (by omega)]
          intro x5 h5
          refine go m hn ⟨V, E, S, fun j hj => ⟨(hE j hj).1, fun h => ?_⟩, hf⟩ x5 h5
          rw [upf_mark hb hj] at h
          split at h
          · cases h
          · exact (hE j hj).2 h
        | false =>
          rw [Bool.not_false, cond_true]
          refine hw.at hx (by omega) fun x6 h6 x7 h7 => ⟨S.v.ok, fun x8 h8 x9 h9 => ?_⟩
          rw [Int.tmod_eq_emod_of_nonneg (by omega)] at h6
          rw [wrap_i64 (by omega) (by omega)] at h7
          obtain ⟨e', v', he1, hr, hf', hn'⟩ := ups_vw S.v hf (b := x7) hq hql (by omega) (by omega) (hE q hql).1
          have e0 := he1 ((hE q hql).2 hup)
          rw [hr] at h9
          rw [dnT (by omega), dT2 (by omega) (by omega), dT (by omega)]
          intro x10 h10
          rw [← h8] at v' hf' hn'
          refine go x8 (hn'.trans hn) ⟨V, _, ⟨S.o, S.f, v', S.i0, S.i1, S.small⟩, fun j hj => ?_, by rw [hf']; exact hf⟩ x10 h10
          rw [upf_mark hb hj]
          by_cases ej : j = q
          · subst ej; rw [upd_at, if_pos rfl]; exact ⟨by omega, fun h => by cases h⟩
          · rw [upd_ne _ _ ej, if_neg (fun x => ej x.symm)]; exact hE j hj
    exact key l 0 0 ⟨W, lf, safe, scrub, fuse, bl, fx, lo, st⟩ fl rfl (by omega) rfl hb hu
  · exact hT.elim
theorem ug_step {s : Sto} {m : Mem} {n i : Nat} {I : Int → Option Bk} {p : Bk} (h : Ug s m n I p i) (hi : i < n) : OkM m ∧ upsR m ((i : Nat) : Int) 1 = 0 ∧ Ug s (upsS m ((i : Nat) : Int) 1) n I p (i + 1) ∧ (upsS m ((i : Nat) : Int) 1).n = m.n := by
  obtain ⟨V, E, S, hp, ho, h1, h2, hf⟩ := h
  obtain ⟨e', v', he, hr, hf', hn'⟩ := ups_vw S.v hf (x := ((i : Nat) : Int)) (b := 1) rfl hi (by omega) (by omega) (h1 i hi (by omega))
  refine ⟨S.v.ok, hr, ⟨V, _, ⟨S.o, S.f, v', S.i0, S.i1, S.small⟩, hp, ho, fun j hj hij => ?_, fun j hj => ?_, by rw [hf']; exact hf⟩, hn'⟩
  · rw [upd_ne _ _ (by omega)]; exact h1 j hj (by omega)
  · obtain ⟨a, b⟩ := h2 j hj
    by_cases e : rdA0 s 1 + j = i
    · subst e
      rw [upd_at]
      have := he (b (by omega))
      exact ⟨by omega, fun h => by omega⟩
    · rw [upd_ne _ _ e]; exact ⟨a, fun h => b (by omega)⟩
theorem loopUp21A : ∀ e h k, TUp21A e h k → ∃ m, loopN cUpA (codeOf Tryd.f5) 1 21 m e h k := by
  intro e h k hT
  unfold TUp21A at hT
  split at hT
  · rename_i b w i us t n safe scrub fuse bl fx lo st t1 v1 W t2 v2 sb sz t0 v0
    obtain ⟨hi, ew, n1, ⟨a, hu⟩, hk⟩ := hT
    subst hi
    refine ⟨n + 1, ?_⟩
    have key : ∀ (r j : Nat) (x : Int) (m : Mem), x = ((j : Nat) : Int) → j + r = n → m.n = n → Ug ⟨sb, sz⟩ m n (I2 a b) ⟨2, 2, b⟩ j →
        loopN cUpA (codeOf Tryd.f5) 1 21 (r + 1) [(1, .string b), (8, .pointer (some ⟨1, 0, some 0⟩)), (9, .pointer (some ⟨3, 0, some 0⟩)), (11, .int .i64 w), (16, .int .i64 x)] (upA us t ⟨sb, sz⟩ m t0 t1 t2 v0 v1 v2) k := by
      intro r
      induction r with
      | zero =>
        intro j x m hx hj hn hu
        rw [loopN_succ]
        show lUp21A us t ⟨sb, sz⟩ m t0 t1 t2 v0 v1 v2 b w x _
        rw [lUp21A_eq, dF (by omega)]
        obtain rfl : j = n := by omega
        exact hk m ⟨a, hu⟩
      | succ r ih =>
        intro j x m hx hj hn hu
        rw [loopN_succ]
        show lUp21A us t ⟨sb, sz⟩ m t0 t1 t2 v0 v1 v2 b w x _
        rw [lUp21A_eq, dT (by omega)]
        obtain ⟨om, hr, hu', hn'⟩ := ug_step hu (by omega)
        refine ⟨om, fun x1 h1 x2 h2 => ?_⟩
        rw [hx] at h1 h2
        rw [hr] at h2
        rw [dnT (by omega)]
        intro x3 h3
        rw [iAdd_i64 (by omega) (by omega)] at h3
        rw [← h1] at hu' hn'
        exact ih (j + 1) x3 x1 (by omega) (by omega) (hn'.trans hn) hu'
    exact key n 0 0 ⟨W, n, safe, scrub, fuse, bl, fx, lo, st⟩ rfl (by omega) rfl hu
  · exact hT.elim
theorem loopUp21N : ∀ e h k, TUp21N e h k → ∃ m, loopN cUpN (codeOf Tryd.f5) 1 21 m e h k := by
  intro e h k hT
  unfold TUp21N at hT
  split at hT
  · rename_i b w i n safe scrub fuse bl fx lo st t1 v1 W t2 v2 sb sz t0 v0
    obtain ⟨hi, ew, n1, ⟨a, hu⟩, hk⟩ := hT
    subst hi
    refine ⟨n + 1, ?_⟩
    have key : ∀ (r j : Nat) (x : Int) (m : Mem), x = ((j : Nat) : Int) → j + r = n → m.n = n → Ug ⟨sb, sz⟩ m n (I2 a b) ⟨2, 2, b⟩ j →
        loopN cUpN (codeOf Tryd.f5) 1 21 (r + 1) [(1, .string b), (8, .pointer (some ⟨0, 0, some 0⟩)), (9, .pointer (some ⟨2, 0, some 0⟩)), (11, .int .i64 w), (16, .int .i64 x)] (upN ⟨sb, sz⟩ m t0 t1 t2 v0 v1 v2) k := by
      intro r
      induction r with
      | zero =>
        intro j x m hx hj hn hu
        rw [loopN_succ]
        show lUp21N ⟨sb, sz⟩ m t0 t1 t2 v0 v1 v2 b w x _
        rw [lUp21N_eq, dF (by omega)]
        obtain rfl : j = n := by omega
        exact hk m ⟨a, hu⟩
      | succ r ih =>
        intro j x m hx hj hn hu
        rw [loopN_succ]
        show lUp21N ⟨sb, sz⟩ m t0 t1 t2 v0 v1 v2 b w x _
        rw [lUp21N_eq, dT (by omega)]
        obtain ⟨om, hr, hu', hn'⟩ := ug_step hu (by omega)
        refine ⟨om, fun x1 h1 x2 h2 => ?_⟩
        rw [hx] at h1 h2
        rw [hr] at h2
        rw [dnT (by omega)]
        intro x3 h3
        rw [iAdd_i64 (by omega) (by omega)] at h3
        rw [← h1] at hu' hn'
        exact ih (j + 1) x3 x1 (by omega) (by omega) (hn'.trans hn) hu'
    exact key n 0 0 ⟨W, n, safe, scrub, fuse, bl, fx, lo, st⟩ rfl (by omega) rfl hu
  · exact hT.elim
end Go.Am.Pat
