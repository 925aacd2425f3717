/-
  Patches: PatchesLost answers true. Own work.
-/
import Derived.Test.YtecocfcaeenaoaaDoorPatLa
namespace Go.Am.Pat
open Go Go.Am Go.Am.Ham Go.Am.Mem Go.Proofs
set_option maxRecDepth 100000

theorem loopLo12 : ∀ e h k, TLo12 e h k → ∃ m, loopN cLoA (codeOf Tryd.f6) 0 12 m e h k := by
  intro e h k hT
  unfold TLo12 at hT
  split at hT
  · rename_i a b l c w lf i us t n safe scrub fuse bl fx lo st t1 v1 W t2 v2 sb sz t0 v0 fl tf vf
    obtain ⟨hw, hl, hi, ew, n0, n1, hlf, htf, hb, hu, hk⟩ := hT
    subst hi hlf htf
    refine ⟨l + 1, ?_⟩
    have key : ∀ (r j : Nat) (x : Int) (m : Mem) (fl : List Value), x = ((j : Nat) : Int) → j + r = l → m.n = lf → OkB fl lf → Uf ⟨sb, sz⟩ m lf (I2 a b) 2 fl →
        loopN cLoA (codeOf Tryd.f6) 0 12 (r + 1) [(0, .string a), (1, .string b), (2, .slice (some ⟨0, 0, some 0⟩) l c), (8, .pointer (some ⟨1, 0, some 0⟩)), (9, .pointer (some ⟨3, 0, some 0⟩)), (11, .int .i64 w), (13, .slice (some ⟨4, 0, some 0⟩) m.n 2), (14, .int .i64 x)]
          (upAf us t ⟨sb, sz⟩ m t0 t1 t2 v0 v1 v2 fl 4 vf) k := by
      intro r
      induction r with
      | zero =>
        intro j x m fl hx hj hn hb hu
        rw [loopN_succ]
        show lLo12 us t ⟨sb, sz⟩ m t0 t1 t2 v0 v1 v2 fl vf a b l c w x _
        rw [lLo12_eq]
        intro x1 h1
        rw [dF (by omega)]
        obtain ⟨V, E, S, hE, hf⟩ := hu
        exact hk m ⟨V, E, S, fun j hj => (hE j hj).1, hf⟩
      | succ r ih =>
        intro j x m fl hx hj hn hb hu
        rw [loopN_succ]
        show lLo12 us t ⟨sb, sz⟩ m t0 t1 t2 v0 v1 v2 fl vf a b l c w x _
        rw [lLo12_eq]
        intro x1 h1
        rw [dT (by omega)]
        have hlt := hw.lt j (by omega)
        have hval : intOf (List.getD us (Int.toNat x) undef) = ((wv us j : Nat) : Int) := by rw [hx, Int.toNat_natCast, hw.int j (by omega)]; rfl
        rw [hval]
        refine hw.at hx (by omega) fun x2 h2 => ?_
        rw [wrap_i64 (by omega) (by omega)] at h2
        rw [dnF (by omega)]
        intro x4 h4
        rw [Int.tmod_eq_emod_of_nonneg (by omega)] at h4
        have p4 : 0 ≤ x4 ∧ x4 < w := by rw [h4]; exact ⟨Int.emod_nonneg _ (by omega), Int.emod_lt_of_pos _ (by omega)⟩
        obtain ⟨q, hq⟩ : ∃ q : Nat, x4 = ((q : Nat) : Int) := ⟨x4.toNat, by omega⟩
        have hql : q < lf := by omega
        have hbl := hb.len
        have hqb := hb.b q hql
        rw [dT2 (by omega) (by omega), dT (by omega), show Int.toNat x4 = q by omega, hqb, show isBool (Value.bool (upf fl q)) = true from rfl, cond_true, show boolOf (Value.bool (upf fl q)) = upf fl q from rfl]
        have go : ∀ (m' : Mem), m'.n = lf → Uf ⟨sb, sz⟩ m' lf (I2 a b) 2 (fl.set q (.bool true)) → ∀ x5, x5 = iAdd .i64 x 1 →
            loopN cLoA (codeOf Tryd.f6) 0 12 (r + 1) [(0, .string a), (1, .string b), (2, .slice (some ⟨0, 0, some 0⟩) l c), (8, .pointer (some ⟨1, 0, some 0⟩)), (9, .pointer (some ⟨3, 0, some 0⟩)), (11, .int .i64 w), (13, .slice (some ⟨4, 0, some 0⟩) m.n 2), (14, .int .i64 x5)]
              (upAf us t ⟨sb, sz⟩ m' t0 t1 t2 v0 v1 v2 (fl.set q (.bool true)) 4 vf) k := by
          intro m' hm' hu' x5 h5
          rw [iAdd_i64 (by omega) (by omega)] at h5
          have := ih (j + 1) x5 m' (fl.set q (.bool true)) (by omega) (by omega) hm' (hb.mark q) hu'
          rw [hm', ← hn] at this
          exact this
        obtain ⟨V, E, S, hE, hf⟩ := hu
        cases hup : upf fl q with
        | true =>
          rw [Bool.not_true, cond_false, dT2 (by omega) (by omega), dT (by omega)]
          intro x5 h5
          refine go m hn ⟨V, E, S, fun j hj => ⟨(hE j hj).1, fun h => ?_⟩, hf⟩ x5 h5
          rw [upf_mark hb hj] at h
          split at h
          · cases h
          · exact (hE j hj).2 h
        | false =>
          rw [Bool.not_false, cond_true]
          have e00 := (hE q hql).2 hup
          obtain ⟨e', v', he1, hr, hf', hn'⟩ := ups_vw S.v hf (b := 0) hq hql (by omega) (by omega) (by omega)
          have e1 := he1 e00
          refine ⟨S.v.ok, fun x5 h5 x6 h6 => ?_⟩
          rw [← h5] at v' hf' hn'
          obtain ⟨e2, v2', _, hr2, hf2, hn2⟩ := ups_vw v' (by rw [hf']; exact hf) (b := 7) hq hql (by omega) (by omega) (by rw [upd_at]; omega)
          rw [hr] at h6
          rw [dnT (by omega)]
          refine ⟨v'.ok, fun x7 h7 x8 h8 => ?_⟩
          rw [hr2] at h8
          rw [dnT (by omega), dT2 (by omega) (by omega), dT (by omega)]
          intro x10 h10
          rw [← h7] at v2' hf2 hn2
          refine go x7 (hn2.trans (hn'.trans hn)) ⟨V, _, ⟨S.o, S.f, v2', S.i0, S.i1, S.small⟩, fun j hj => ?_, by rw [hf2, hf']; exact hf⟩ x10 h10
          rw [upf_mark hb hj]
          by_cases ej : j = q
          · subst ej
            refine ⟨(v2'.at_ j hj).le, fun h => ?_⟩
            rw [if_pos rfl] at h; cases h
          · rw [upd_ne _ _ ej, upd_ne _ _ ej, if_neg (fun x => ej x.symm)]; exact hE j hj
    exact key l 0 0 ⟨W, lf, safe, scrub, fuse, bl, fx, lo, st⟩ fl rfl (by omega) rfl hb hu
  · exact hT.elim
section
variable {z : Int} {m : Mem} {a b : ByteArray} {KT KF : Prop}
theorem lo_gen {c : Int} {p : Bk} (hp : I2 a b c = some p) : p.g ≤ 2 ∧ ((c = 0 ∧ p = ⟨1, 1, a⟩) ∨ (c = 1 ∧ p = ⟨2, 2, b⟩)) := by
  unfold I2 putB I1 putB at hp
  by_cases e : c = 1
  · rw [if_pos e] at hp; cases hp; exact ⟨by show (2 : Nat) ≤ 2; omega, Or.inr ⟨e, rfl⟩⟩
  · rw [if_neg e] at hp
    by_cases e' : c = 0
    · rw [if_pos e'] at hp; cases hp; exact ⟨by show (1 : Nat) ≤ 2; omega, Or.inl ⟨e', rfl⟩⟩
    · rw [if_neg e'] at hp; cases hp
/-- A load of the first patch again. -/
theorem loL (ha : ((a.size : Nat) : Int) ≤ z) (h : Ue ⟨1, z⟩ m (cN z) (I2 a b) 2) (hk : KT) : OkS ⟨1, z⟩ ∧ OkM m ∧ Fits ⟨1, z⟩ m ∧ U32 3 ∧ ((a.size : Nat) : Int) ≤ z ∧ fullB ⟨1, z⟩ m = false ∧ ldOk ⟨1, z⟩ m a = true ∧ ∀ x, x = ld6 ⟨1, z⟩ m 3 a → KT := by
  obtain ⟨V, E, S, hE, hf⟩ := h
  have hg : nxtG ⟨1, z⟩ m (I2 a b) < 1000000 := by
    unfold nxtG
    split
    · omega
    · split
      · omega
      · next c _ p hp => have := (lo_gen hp).1; omega
  obtain ⟨k1, k2, _⟩ := ld_good S (id := 3) (d := a) (c := 0) (by omega) ha (Or.inl hf) hg
  exact ⟨S.o, S.v.ok, S.fits, ⟨by omega, by omega⟩, ha, k1, k2, fun _ _ => hk⟩
theorem ue_ac {I : Int → Option Bk} {n e : Nat} {s : Sto} (h : Ue s m n I e) (he : 1 ≤ e) : Ue s (acM s m) n I e := by
  obtain ⟨V, E, S, hE, hf⟩ := h
  obtain ⟨E1, S1, l1, s1⟩ := S.ac
  exact ⟨V, E1, S1, fun j hj => by have := hE j hj; rcases l1 j with x | ⟨x, x'⟩ <;> omega, by rw [s1.fuse]; exact hf⟩
/-- The same bank is active when they are read again. -/
theorem act_again {s : Sto} {n : Nat} {V E : Nat → Nat} {I : Int → Option Bk} (S : Sta s m n V E I) {c : Int} {p : Bk} (h : acN s m = some c) (hp : I c = some p) : isB s (acM s m) ((p.id : Nat) : Int) p.d ((p.g : Nat) : Int) = true ∧ isB s (acM s (acM s m)) ((p.id : Nat) : Int) p.d ((p.g : Nat) : Int) = true := by
  have fin : ∀ {m' : Mem} {E' : Nat → Nat}, Sta s m' n V E' I → (∀ b, Val s E' b (I b) ↔ Val s E b (I b)) → isB s m' ((p.id : Nat) : Int) p.d ((p.g : Nat) : Int) = true := by
    intro m' E' S' hv
    obtain ⟨_, _, _, _, x⟩ := act_one S
    obtain ⟨_, _, _, _, y⟩ := act_one S'
    rw [hv 0, hv 1] at y
    have : acN s m' = some c ∧ acW s m' = hdrL p.g p.id p.d ∧ acD s m' = p.d := by
      rcases x with ⟨_, _, x1⟩ | ⟨q, hq, x0, xo, x1, _⟩ | ⟨q, hq, x0, xo, x1, _⟩
      · rw [h] at x1; cases x1
      · rw [h] at x1; cases x1
        rw [hp] at hq; cases hq
        rcases y with ⟨y0, _⟩ | ⟨r, hr, _, _, y1, y2, y3⟩ | ⟨r, hr, y0, yo, y1, y2, y3⟩
        · exact absurd x0 y0
        · rw [hp] at hr; cases hr; exact ⟨y1, y2, y3⟩
        · have a1 := xo y0 r hr
          have a2 := yo x0 p hp
          omega
      · rw [h] at x1; cases x1
        rw [hp] at hq; cases hq
        rcases y with ⟨_, y0, _⟩ | ⟨r, hr, y0, yo, y1, y2, y3⟩ | ⟨r, hr, _, _, y1, y2, y3⟩
        · exact absurd x0 y0
        · have a1 := xo y0 r hr
          have a2 := yo x0 p hp
          omega
        · rw [hp] at hr; cases hr; exact ⟨y1, y2, y3⟩
    rw [isB_some this.1, this.2.1, this.2.2, strEq_refl, show wN (hdrL p.g p.id p.d) 1 = ((p.id : Nat) : Int) from rfl, show wN (hdrL p.g p.id p.d) 0 = ((p.g : Nat) : Int) from rfl, decide_eq_true rfl, decide_eq_true rfl]; rfl
  obtain ⟨E1, S1, l1, _⟩ := S.ac
  obtain ⟨E2, S2, l2, _⟩ := S1.ac
  exact ⟨fin S1 fun b => Val.less l1, fin S2 fun b => (Val.less l2).trans (Val.less l1)⟩
/-- What is looked at behind the losses. -/
theorem loI (ha : ((a.size : Nat) : Int) ≤ z) (h : Ue ⟨1, z⟩ m (cN z) (I2 a b) 2) {c : Int} (hc : acN ⟨1, z⟩ m = some c) (hk : KT) :
    OkS ⟨1, z⟩ ∧ OkM (acM ⟨1, z⟩ m) ∧ Fits ⟨1, z⟩ (acM ⟨1, z⟩ m) ∧ ∀ x17, x17 = acM ⟨1, z⟩ (acM ⟨1, z⟩ m) → ∀ x18, x18 = isB ⟨1, z⟩ (acM ⟨1, z⟩ m) 1 a 1 → cond (!x18)
      (OkS ⟨1, z⟩ ∧ OkM x17 ∧ Fits ⟨1, z⟩ x17 ∧ ∀ x20, x20 = acM ⟨1, z⟩ x17 → ∀ x21, x21 = isB ⟨1, z⟩ x17 2 b 2 → cond (!x21) KF (OkS ⟨1, z⟩ ∧ OkM x20 ∧ Fits ⟨1, z⟩ x20 ∧ U32 3 ∧ ((a.size : Nat) : Int) ≤ z ∧ fullB ⟨1, z⟩ x20 = false ∧ ldOk ⟨1, z⟩ x20 a = true ∧ ∀ x, x = ld6 ⟨1, z⟩ x20 3 a → KT))
      (OkS ⟨1, z⟩ ∧ OkM x17 ∧ Fits ⟨1, z⟩ x17 ∧ U32 3 ∧ ((a.size : Nat) : Int) ≤ z ∧ fullB ⟨1, z⟩ x17 = false ∧ ldOk ⟨1, z⟩ x17 a = true ∧ ∀ x, x = ld6 ⟨1, z⟩ x17 3 a → KT) := by
  have h1 := ue_ac h (by omega)
  have h2 := ue_ac h1 (by omega)
  have h3 := ue_ac h2 (by omega)
  obtain ⟨V, E, S, hE, hf⟩ := h
  obtain ⟨V1, E1, S1, _, _⟩ := h1
  have h2' := h2
  obtain ⟨V2, E2, S2, _, _⟩ := h2'
  refine ⟨S.o, S1.v.ok, S1.fits, fun x17 h17 x18 h18 => ?_⟩
  rw [← h17] at h2 h3 S2
  obtain ⟨_, hact⟩ := act_get S
  rcases hact with ⟨hn, _⟩ | ⟨c', p, hc', hn, _, hp, _⟩
  · rw [hc] at hn; cases hn
  · obtain ⟨i1, i2⟩ := act_again S hn hp
    rcases (lo_gen hp).2 with ⟨rfl, rfl⟩ | ⟨rfl, rfl⟩
    · rw [h18, show isB ⟨1, z⟩ (acM ⟨1, z⟩ m) 1 a 1 = true from i1, Bool.not_true, cond_false]
      exact loL ha h2 hk
    · cases x18 with
      | true => rw [Bool.not_true, cond_false]; exact loL ha h2 hk
      | false =>
        rw [Bool.not_false, cond_true]
        refine ⟨S.o, S2.v.ok, S2.fits, fun x20 h20 x21 h21 => ?_⟩
        rw [h21, h17, show isB ⟨1, z⟩ (acM ⟨1, z⟩ (acM ⟨1, z⟩ m)) 2 b 2 = true from i2, Bool.not_true, cond_false]
        exact loL ha (by rw [h20]; exact h3) hk
end
end Go.Am.Pat
