/-
  Patches: PatchesWhole answers true. Own work.
-/
import Derived.Test.YtecocfcaeenaoaaDoorPatZ2
namespace Go.Am.Pat
open Go Go.Am Go.Am.Ham Go.Am.Mem Go.Proofs
set_option maxRecDepth 100000

theorem new_ok {m : Mem} {z : Int} (h1 : 4 ≤ z) (h2 : z ≤ 8192) (hs : m.safe = wordsN z + 2) : newOk m 1 z = true := by
  unfold newOk
  rw [decide_eq_true h1, decide_eq_true h2, decide_eq_true (show (0 : Int) ≤ 1 by omega), decide_eq_true (show (1 : Int) ≤ m.safe - wordsN z by rw [hs]; omega)]; rfl
/-- A store after Reset. -/
theorem reset_sta {z : Int} {m : Mem} {V E : Nat → Nat} {I : Int → Option Bk} (h1 : 4 ≤ z) (h2 : z ≤ 8192) (S : Sta ⟨1, z⟩ m (cN z) V E I) (hs : m.safe = wordsN z + 2) (hE : Cl (cN z) E) : ∃ V' E', Sta ⟨1, z⟩ (resetM m) (cN z) V' E' I ∧ Cl (cN z) E' ∧ (resetM m).fuse = -1 ∧ (resetM m).safe = wordsN z + 2 := by
  obtain ⟨v, f, s⟩ := reset_vw S.v
  have hw := words_in h1 h2
  obtain ⟨B0, B1, B2, B3⟩ := banks S.o S.f
  have hN : cN z = (wordsN z + 3).toNat := rfl
  have hL : bkL ⟨1, z⟩ = 5 + ((z + 3) / 4).toNat := rfl
  have hb0 : bankAt ⟨1, z⟩ 0 = 1 := by unfold bankAt; show (1 : Int) + 0 * _ = 1; omega
  have hA : ∀ b : Int, b = 0 ∨ b = 1 → rdA0 ⟨1, z⟩ b + bkL ⟨1, z⟩ ≤ m.safe.toNat := by
    intro b hb
    rcases hb with rfl | rfl <;> omega
  have keep : ∀ b : Int, b = 0 ∨ b = 1 → Inf ⟨1, z⟩ (fun j => if j < m.safe.toNat then V j else 0) b (I b) := fun b hb => (S.inf hb).congr fun j hj => if_pos (by have := hA b hb; omega)
  refine ⟨_, _, ⟨S.o, S.f, v, keep 0 (Or.inl rfl), keep 1 (Or.inr rfl), S.small⟩, fun j hj => ?_, f, s.trans hs⟩
  show (if j < m.safe.toNat then E j else 0) = 0
  split
  · exact hE j hj
  · rfl
section
variable {a b : ByteArray} {z k most : Int} {KT KF : Prop}
/-- The end, where the power failed. -/
theorem endW {m : Mem} {V E : Nat → Nat} (h1 : 4 ≤ z) (h2 : z ≤ 8192) (hb : ((b.size : Nat) : Int) ≤ z) (S : Sta ⟨1, z⟩ m (cN z) V E (I1 a)) (hs : m.safe = wordsN z + 2) (hE : Cl (cN z) E) (hlt : k < most) (hk : KT) :
    OkM m ∧ ∀ y, y = resetM m → OkM y ∧ newOk y 1 z = true ∧ ∀ t, t = Sto.mk 1 z → OkS t → ∀ e : Int, e = 0 → cond (!decide (e = 0)) KF
      (cond (decide (k < most)) (OkS t ∧ OkM y ∧ Fits t y ∧ ∀ m1, m1 = acM t y → ∀ b1, b1 = isB t y 1 a 1 → cond b1 (OkS t ∧ OkM m1 ∧ Fits t m1 ∧ U32 3 ∧ ((b.size : Nat) : Int) ≤ t.size ∧ fullB t m1 = false ∧
          (ldOk t m1 b = true → ∀ m2, m2 = ld6 t m1 3 b → OkS t ∧ OkM m2 ∧ Fits t m2 ∧ ∀ m3, m3 = acM t m2 → ∀ b3, b3 = isB t m2 3 b 2 → cond b3 KT KF) ∧
          (ldOk t m1 b = false → ∀ m2, m2 = ldF t m1 b → ∀ g, g = ldG t m1 3 b → KF)) KF)
        (OkS t ∧ OkM y ∧ Fits t y ∧ ∀ m1, m1 = acM t y → ∀ b1, b1 = isB t y 2 b 2 → cond b1 KT KF)) := by
  refine ⟨S.v.ok, fun y hy => ?_⟩
  obtain ⟨V', E', S', hE', hf', hs'⟩ := reset_sta h1 h2 S hs hE
  rw [← hy] at S' hf' hs'
  refine ⟨S'.v.ok, new_ok h1 h2 hs', fun t ht ot e he => ?_⟩
  subst ht
  rw [dnT he, dT hlt]
  refine ⟨ot, S'.v.ok, S'.fits, fun m1 e1 b1 e2 => ?_⟩
  have hp0 : I1 a 0 = some ⟨1, 1, a⟩ := putB_at _ _ _
  have hp1 : I1 a (1 - 0) = none := rfl
  obtain ⟨ha, hi⟩ := act_is S' (Or.inl rfl) hp0 (hE'.val S' (Or.inl rfl) hp0) (fun q hq => by rw [hp1] at hq; cases hq)
  rw [e2, show isB ⟨1, z⟩ y 1 a 1 = true from hi, cond_true]
  obtain ⟨E2, S2, l2, s2⟩ := S'.ac
  rw [← e1] at S2 s2
  have hE2 := hE'.less l2
  obtain ⟨ha2, _⟩ := act_is S2 (Or.inl rfl) hp0 (hE2.val S2 (Or.inl rfl) hp0) (fun q hq => by rw [hp1] at hq; cases hq)
  have eo : otherN ⟨1, z⟩ m1 = 1 := (other_some ha2).1
  have en : nxtG ⟨1, z⟩ m1 (I1 a) = 2 := by unfold nxtG; rw [ha2]; rfl
  obtain ⟨k1, k2, V3, E3, S3, st, _, zz, r⟩ := ld_good S2 (id := 3) (d := b) (c := 0) (by omega) hb (Or.inl (by rw [s2.fuse, hf']; omega)) (by rw [en]; omega)
  refine ⟨ot, S2.v.ok, S2.fits, ⟨by omega, by omega⟩, hb, k1, fun _ m2 e3 => ?_, fun h => (by rw [k2] at h; cases h)⟩
  rw [eo, en] at S3
  rw [eo] at zz r
  rw [show ld6 ⟨1, z⟩ m1 ((3 : Nat) : Int) b = m2 from e3.symm] at S3
  have hE3 : Cl (cN z) E3 := ld_clean (s := ⟨1, z⟩) hE2 zz (fun j hj => (r j hj).2)
  refine ⟨ot, S3.v.ok, S3.fits, fun m3 e4 b3 e5 => ?_⟩
  have hq1 : putB (I1 a) 1 (some ⟨2, 3, b⟩) 1 = some ⟨2, 3, b⟩ := putB_at _ _ _
  have hq0 : putB (I1 a) 1 (some ⟨2, 3, b⟩) (1 - 1) = some ⟨1, 1, a⟩ := rfl
  obtain ⟨_, hi3⟩ := act_is S3 (Or.inr rfl) hq1 (hE3.val S3 (Or.inr rfl) hq1) (fun q hq => by rw [hq0] at hq; cases hq; show 1 < 2; omega)
  rw [e5, show isB ⟨1, z⟩ m2 3 b 2 = true from hi3, cond_true]
  exact hk
end
def sWh : Spec := fun args h K => match args, h with
  | [.string _, .string _, .int .i64 _], [] => K (.bool true) []
  | _, _ => False
theorem okWh : SpecOk Tryd.prog G0 8 sWh :=
  spec2 mixed tWh_ok Tryd.func8 (by kernel_rfl : Tryd.f8.body = some (codeOf Tryd.f8)) cWh rfl rfl rfl (by kernel_rfl) (ids := []) (by kernel_rfl) trivial (by
    intro args h K hk
    unfold sWh at hk
    split at hk
    · rename_i a b n
      show bWh a b n K
      rw [bWh_eq]
      intro x1 h1
      by_cases c1 : x1 > 300
      · rw [dT c1]; exact hk
      rw [dF c1]
      intro x2 h2
      by_cases c2 : x2 > 300
      · rw [dT c2]; exact hk
      rw [dF c2]
      intro x3 h3 x4 h4 z hz
      have z4 : 4 ≤ z ∧ z ≤ 8192 ∧ ((a.size : Nat) : Int) ≤ z ∧ ((b.size : Nat) : Int) ≤ z := by
        rw [hz]; split <;> split <;> omega
      obtain ⟨z1, z2, za, zb⟩ := z4
      clear hz
      refine ⟨z1, z2, za, fun x6 h6 => ?_⟩
      obtain ⟨o, f⟩ := sto1 z1 z2
      obtain ⟨_, _, V, E, S, hE, hfu, hsa⟩ := com_sta z1 z2 za
      rw [← h6] at S hfu hsa
      have hp0 : I1 a 0 = some ⟨1, 1, a⟩ := putB_at _ _ _
      have hp1 : I1 a (1 - 0) = none := rfl
      have noq : ∀ q, I1 a (1 - 0) = some q → q.g < 1 := fun q hq => by rw [hp1] at hq; cases hq
      obtain ⟨_, hi⟩ := act_is S (Or.inl rfl) hp0 (hE.val S (Or.inl rfl) hp0) noq
      refine ⟨o, S.v.ok, S.fits, fun x7 h7 x8 h8 => ?_⟩
      rw [h8, show isB ⟨1, z⟩ x6 1 a 1 = true from hi, Bool.not_true, cond_false]
      obtain ⟨E7, S7, l7, s7⟩ := S.ac
      rw [← h7] at S7 s7
      have hE7 := hE.less l7
      intro x9 h9 x10 h10 x11 h11 x12 h12 x13 h13
      rw [iAdd_i64 (by omega) (by omega)] at h10
      rw [h10, Int.tdiv_eq_ediv_of_nonneg (by omega), wrap_i64 (by omega) (by omega)] at h11
      rw [iAdd_i64 (by omega) (by omega)] at h12
      rw [iAdd_i64 (by omega) (by omega)] at h13
      have hmost : x12 = ((6 + lenW b.size : Nat) : Int) := by unfold lenW; omega
      refine ⟨by omega, by omega, fun x14 h14 x15 h15 => ⟨S7.v.ok, fun x16 h16 x17 h17 => ?_⟩⟩
      have k0 : 0 ≤ x15 := by rw [h15, h14]; exact Int.emod_nonneg _ (by omega)
      have k1 : x15 < x13 := by rw [h15, h14]; exact Int.emod_lt_of_pos _ (by omega)
      have hfr : fuseR x15 = 0 := by unfold fuseR; rw [if_neg (by omega)]
      rw [hfr] at h17
      rw [dnT (by omega)]
      have v16 : Vw x16 (cN z) V E7 := by rw [h16]; exact fuse_vw S7.v hE7 x15
      have fz16 : x16.fuse = x15 := by rw [h16]; unfold fuseS; rw [if_neg (by omega)]
      have bl16 : x16.bl = false := by rw [h16]; unfold fuseS; rw [if_neg (by omega)]
      have sf16 : x16.safe = wordsN z + 2 := by rw [h16]; unfold fuseS; rw [if_neg (by omega)]; exact s7.safe.trans hsa
      have S16 : Sta ⟨1, z⟩ x16 (cN z) V E7 (I1 a) := ⟨o, f, v16, S7.i0, S7.i1, S7.small⟩
      obtain ⟨ha16, _⟩ := act_is S16 (Or.inl rfl) hp0 (hE7.val S16 (Or.inl rfl) hp0) noq
      have eo : otherN ⟨1, z⟩ x16 = 1 := (other_some ha16).1
      have en : nxtG ⟨1, z⟩ x16 (I1 a) = 2 := by unfold nxtG; rw [ha16]; rfl
      obtain ⟨hfull, _⟩ := act_get S16
      refine ⟨o, S16.v.ok, S16.fits, ⟨by omega, by omega⟩, zb, hfull, ?_⟩
      by_cases hc : x15 < x12
      · -- the power fails
        have wk : Wk x16 (cN z) V (rdA0 ⟨1, z⟩ 1) (bkL ⟨1, z⟩) x15.toNat (wordsN z + 2) := ⟨⟨V, v16.congr (fun _ _ => rfl) (fun j hj => (hE7 j hj).symm), fun _ _ => rfl, S.i1⟩, by omega, sf16, by omega⟩
        obtain ⟨⟨f1, w1⟩, ⟨f2, w2⟩⟩ := ld_weak (s := ⟨1, z⟩) (d := b) (id := 2) o f zb (by omega) eo wk (by omega)
        obtain ⟨B0, B1, B2, B3⟩ := banks o f
        have sta : ∀ {m : Mem} {g : Nat}, Wk m (cN z) V (rdA0 ⟨1, z⟩ 1) (bkL ⟨1, z⟩) g (wordsN z + 2) → ∃ V' E', Sta ⟨1, z⟩ m (cN z) V' E' (I1 a) ∧ m.safe = wordsN z + 2 ∧ Cl (cN z) E' := by
          intro m g w
          obtain ⟨V', v', hag, hz0⟩ := w.ex
          exact ⟨V', _, ⟨o, f, v', S.i0.congr fun j hj => hag _ (by omega), hz0, S.small⟩, w.safe, fun _ _ => rfl⟩
        refine ⟨fun _ x18 h18 => ?_, fun _ x45 h45 x46 h46 => ?_⟩
        · rw [dF (show ¬ x15 ≥ x12 by omega)]
          obtain ⟨V', E', S', hs', hE'⟩ := sta w1
          rw [show ld6 ⟨1, z⟩ x16 ((2 : Nat) : Int) b = x18 from h18.symm] at S' hs'
          exact endW (KF := K (.bool false) []) (k := x15) (most := x12) z1 z2 zb S' hs' hE' hc hk
        · rw [dF (show ¬ x15 ≥ x12 by omega), dF (show ¬ x15 ≥ x12 by omega)]
          obtain ⟨V', E', S', hs', hE'⟩ := sta w2
          rw [← h45] at S' hs'
          exact endW (KF := K (.bool false) []) (k := x15) (most := x12) z1 z2 zb S' hs' hE' hc hk
      · obtain ⟨k1, k2, V3, E3, S3, st, _, zz, r⟩ := ld_good S16 (id := 2) (d := b) (c := 0) (by omega) zb (Or.inr ⟨by omega, by omega⟩) (by rw [en]; omega)
        refine ⟨fun _ x18 h18 => ?_, fun h => (by rw [k2] at h; cases h)⟩
        rw [dT (show x15 ≥ x12 by omega)]
        rw [eo, en] at S3
        rw [eo] at zz r
        rw [show ld6 ⟨1, z⟩ x16 ((2 : Nat) : Int) b = x18 from h18.symm] at S3 st
        have hE3 : Cl (cN z) E3 := ld_clean (s := ⟨1, z⟩) hE7 zz (fun j hj => (r j hj).2)
        rw [st.bl, bl16, cond_false]
        have hq1 : putB (I1 a) 1 (some ⟨2, 2, b⟩) 1 = some ⟨2, 2, b⟩ := putB_at _ _ _
        have hq0 : putB (I1 a) 1 (some ⟨2, 2, b⟩) (1 - 1) = some ⟨1, 1, a⟩ := rfl
        have hq : ∀ q, putB (I1 a) 1 (some ⟨2, 2, b⟩) (1 - 1) = some q → q.g < 2 := fun q hq => by rw [hq0] at hq; cases hq; show 1 < 2; omega
        obtain ⟨_, hi3⟩ := act_is S3 (Or.inr rfl) hq1 (hE3.val S3 (Or.inr rfl) hq1) hq
        refine ⟨o, S3.v.ok, S3.fits, fun x31 h31 x32 h32 => ?_⟩
        rw [h32, show isB ⟨1, z⟩ x18 2 b 2 = true from hi3, Bool.not_true, cond_false]
        obtain ⟨E4, S4, l4, s4⟩ := S3.ac
        rw [← h31] at S4 s4
        have hE4 := hE3.less l4
        refine ⟨S4.v.ok, fun x33 h33 => ?_⟩
        obtain ⟨V5, E5, S5, hE5, _, hs5⟩ := reset_sta z1 z2 S4 (s4.safe.trans (st.safe.trans sf16)) hE4
        rw [← h33] at S5 hs5
        refine ⟨S5.v.ok, new_ok z1 z2 hs5, fun x34 h34 o34 x35 h35 => ?_⟩
        subst h34
        rw [dnT h35, dF hc]
        refine ⟨o, S5.v.ok, S5.fits, fun x36 _ x37 h37 => ?_⟩
        obtain ⟨_, hi5⟩ := act_is S5 (Or.inr rfl) hq1 (hE5.val S5 (Or.inr rfl) hq1) hq
        rw [h37, show isB ⟨1, z⟩ x33 2 b 2 = true from hi5, cond_true]
        exact hk
    · exact hk.elim)
end Go.Am.Pat
