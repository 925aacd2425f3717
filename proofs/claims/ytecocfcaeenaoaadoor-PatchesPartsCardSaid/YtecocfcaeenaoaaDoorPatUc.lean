/-
  Patches: PatchesUpsets answers true: the whole. Own work.
-/
import Derived.Test.YtecocfcaeenaoaaDoorPatUb
namespace Go.Am.Pat
open Go Go.Am Go.Am.Ham Go.Am.Mem Go.Proofs
set_option maxRecDepth 100000

theorem Val.le {s : Sto} {n : Nat} {V E : Nat → Nat} {m : Mem} {I : Int → Option Bk} (S : Sta s m n V E I) (h : ∀ j, j < n → E j ≤ 1) {b : Int} (hb : b = 0 ∨ b = 1) {p : Bk} (hp : I b = some p) : Val s E b (I b) :=
  Val.zero (fun j hj => by have := h j hj; omega) (by rw [hp]; exact fun h => by cases h) fun q hq => by rw [hp] at hq; cases hq; exact S.room hb hp
theorem I1_0 (a : ByteArray) : I1 a 0 = some ⟨1, 1, a⟩ := putB_at _ _ _
theorem I1_1 (a : ByteArray) : I1 a 1 = none := rfl
theorem I2_1 (a b : ByteArray) : I2 a b 1 = some ⟨2, 2, b⟩ := putB_at _ _ _
theorem I2_0 (a b : ByteArray) : I2 a b 0 = some ⟨1, 1, a⟩ := rfl
/-- The second patch is loaded. -/
theorem second {z : Int} {m : Mem} {a b : ByteArray} {V E : Nat → Nat} (S : Sta ⟨1, z⟩ m (cN z) V E (I1 a)) (hE : ∀ j, j < cN z → E j ≤ 1) (hf : m.fuse < 0) (hb : ((b.size : Nat) : Int) ≤ z) :
    fullB ⟨1, z⟩ m = false ∧ ldOk ⟨1, z⟩ m b = true ∧ ∃ V' E', Sta ⟨1, z⟩ (ld6 ⟨1, z⟩ m 2 b) (cN z) V' E' (I2 a b) ∧ (ld6 ⟨1, z⟩ m 2 b).fuse < 0 ∧ (∀ j, j < 5 + lenW b.size → E' (rdA0 ⟨1, z⟩ 1 + j) = 0) ∧ ∀ j, j < cN z → E' j = E j ∨ E' j = 0 := by
  obtain ⟨ha, _⟩ := act_is S (Or.inl rfl) (I1_0 a) (Val.le S hE (Or.inl rfl) (I1_0 a)) (fun q hq => by rw [show (1 : Int) - 0 = 1 from rfl, I1_1] at hq; cases hq)
  have eo : otherN ⟨1, z⟩ m = 1 := (other_some ha).1
  have en : nxtG ⟨1, z⟩ m (I1 a) = 2 := by unfold nxtG; rw [ha]; rfl
  obtain ⟨k1, k2, V', E', S', st, _, zz, r⟩ := ld_good S (id := 2) (d := b) (c := 0) (by omega) hb (Or.inl hf) (by rw [en]; omega)
  rw [eo, en] at S'
  rw [eo] at zz r
  refine ⟨k1, k2, V', E', S', ?_, zz, fun j hj => ?_⟩
  · show (ld6 ⟨1, z⟩ m ((2 : Nat) : Int) b).fuse < 0
    rw [st.fuse]; unfold fzN; rw [if_pos hf]; exact hf
  · by_cases c : j < rdA0 ⟨1, z⟩ 1 ∨ rdA0 ⟨1, z⟩ 1 + (5 + lenW b.size) ≤ j
    · rcases (r j c).2 with x | ⟨_, x⟩
      · exact Or.inl x
      · exact Or.inr x
    · have := zz (j - rdA0 ⟨1, z⟩ 1) (by omega)
      rw [show rdA0 ⟨1, z⟩ 1 + (j - rdA0 ⟨1, z⟩ 1) = j by omega] at this
      exact Or.inr this
theorem upT {z w : Int} {m : Mem} {a b : ByteArray} {KT KF : Prop} (hb : ((b.size : Nat) : Int) ≤ z) (hw : w = ((cN z : Nat) : Int)) (hN : cN z ≤ 16384) (h : Ue ⟨1, z⟩ m (cN z) (I1 a) 1) (hk : KT) :
    (OkS ⟨1, z⟩ ∧ OkM m ∧ Fits ⟨1, z⟩ m ∧ ∀ x11, x11 = acM ⟨1, z⟩ m → ∀ x12, x12 = isB ⟨1, z⟩ m 1 a 1 → cond (!x12) KF (OkS ⟨1, z⟩ ∧ OkM x11 ∧ Fits ⟨1, z⟩ x11 ∧ U32 2 ∧ ((b.size : Nat) : Int) ≤ z ∧ fullB ⟨1, z⟩ x11 = false ∧ ldOk ⟨1, z⟩ x11 b = true ∧
      ∀ x13, x13 = ld6 ⟨1, z⟩ x11 2 b → OkS ⟨1, z⟩ ∧ OkM x13 ∧ Fits ⟨1, z⟩ x13 ∧ ∀ x14, x14 = acM ⟨1, z⟩ x13 → ∀ x15, x15 = isB ⟨1, z⟩ x13 2 b 2 → cond (!x15) KF ((0 : Int) = 0 ∧ w = ((x14.n : Nat) : Int) ∧ x14.n ≤ 16384 ∧ (∃ a, Ug ⟨1, z⟩ x14 x14.n (I2 a b) ⟨2, 2, b⟩ 0) ∧
        ∀ x16, (∃ a, Ug ⟨1, z⟩ x16 x14.n (I2 a b) ⟨2, 2, b⟩ x14.n) → OkS ⟨1, z⟩ ∧ OkM x16 ∧ Fits ⟨1, z⟩ x16 ∧ ∀ x17, x17 = acM ⟨1, z⟩ x16 → ∀ x18, x18 = isB ⟨1, z⟩ x16 2 b 2 → cond x18 KT KF))) := by
  obtain ⟨V, E, S, hE, hf⟩ := h
  obtain ⟨_, hi⟩ := act_is S (Or.inl rfl) (I1_0 a) (Val.le S hE (Or.inl rfl) (I1_0 a)) (fun q hq => by rw [show (1 : Int) - 0 = 1 from rfl, I1_1] at hq; cases hq)
  refine ⟨S.o, S.v.ok, S.fits, fun x11 h11 x12 h12 => ?_⟩
  rw [h12, show isB ⟨1, z⟩ m 1 a 1 = true from hi, Bool.not_true, cond_false]
  obtain ⟨E1, S1, l1, s1⟩ := S.ac
  rw [← h11] at S1 s1
  have hE1 : ∀ j, j < cN z → E1 j ≤ 1 := fun j hj => l1.one (hE j hj)
  obtain ⟨k1, k2, V2, E2, S2, hf2, z2, r2⟩ := second (b := b) S1 hE1 (by rw [s1.fuse]; exact hf) hb
  refine ⟨S.o, S1.v.ok, S1.fits, ⟨by omega, by omega⟩, hb, k1, k2, fun x13 h13 => ?_⟩
  rw [← h13] at S2 hf2
  have hE2 : ∀ j, j < cN z → E2 j ≤ 1 := fun j hj => by have := hE1 j hj; rcases r2 j hj with x | x <;> omega
  have ho2 : ∀ q, I2 a b (1 - 1) = some q → q.g < 2 := fun q hq => by rw [show (1 : Int) - 1 = 0 from rfl, I2_0] at hq; cases hq; show 1 < 2; omega
  obtain ⟨_, hi2⟩ := act_is S2 (Or.inr rfl) (I2_1 a b) (Val.le S2 hE2 (Or.inr rfl) (I2_1 a b)) ho2
  refine ⟨S.o, S2.v.ok, S2.fits, fun x14 h14 x15 h15 => ?_⟩
  rw [h15, show isB ⟨1, z⟩ x13 2 b 2 = true from hi2, Bool.not_true, cond_false]
  obtain ⟨E3, S3, l3, s3⟩ := S2.ac
  rw [← h14] at S3 s3
  have n3 : x14.n = cN z := S3.v.num
  rw [n3]
  refine ⟨rfl, hw, hN, ⟨a, V2, E3, S3, I2_1 a b, ho2, fun j hj _ => l3.one (hE2 j hj), fun j hj => ?_, by rw [s3.fuse]; exact hf2⟩, fun x16 hg => ?_⟩
  · have := l3.zero (z2 j hj)
    exact ⟨by omega, fun _ => this⟩
  · obtain ⟨a', V4, E4, S4, hp4, ho4, h41, h42, hf4⟩ := hg
    have hv : Val ⟨1, z⟩ E4 1 (I2 a' b 1) := by rw [I2_1]; exact fun j hj => by have := (h42 j hj).1; omega
    obtain ⟨_, hi4⟩ := act_is S4 (Or.inr rfl) hp4 hv (fun q hq => ho4 q hq)
    refine ⟨S.o, S4.v.ok, S4.fits, fun x17 _ x18 h18 => ?_⟩
    rw [h18, show isB ⟨1, z⟩ x16 2 b 2 = true from hi4, cond_true]
    exact hk
theorem okB_new (n : Nat) : OkB (List.replicate n (.bool false)) n := by
  refine ⟨List.length_replicate, fun j hj => ?_⟩
  unfold upf
  rw [List.getD_eq_getElem?_getD, List.getElem?_replicate, if_pos hj]; rfl
/-- A row of so many flags. -/
theorem flags_room {x : Int} {n : Nat} (h : x = ((n : Nat) : Int)) (hn : n ≤ 16384) : (((((((decide ((0 : Int) ≤ x)) && (decide (x ≤ x))) && (decide (x ≤ (9223372036854775807 : Int)))) && (decide (((1 : Int) * x : Int) ≤ (281474976710656 : Int)))) && true) && true) && true) = true := by
  rw [decide_eq_true (by omega), decide_eq_true (Int.le_refl x), decide_eq_true (by omega), decide_eq_true (by omega)]; rfl
def sUpA : Spec := fun args h K => match args, h with
  | [.string _, .string _, .slice (some ⟨0, 0, some 0⟩) l _], [.ro us t] => OkW .u32 (2 ^ 32) us l ∧ K (.bool true) [.ro us t]
  | _, _ => False
theorem okUpA : SpecOk Tryd.prog G0 5 sUpA :=
  spec2 mixed tUp_ok Tryd.func5 (by kernel_rfl : Tryd.f5.body = some (codeOf Tryd.f5)) cUpA rfl rfl rfl (by kernel_rfl) (ids := [12, 21]) (by kernel_rfl) ⟨loopUp12, loopUp21A, trivial⟩ (by
    intro args h K hk
    unfold sUpA at hk
    split at hk
    · rename_i a b l c us t
      obtain ⟨hw, hk⟩ := hk
      show bUpA us t a b l c K
      rw [bUpA_eq]
      intro x1 h1
      by_cases c1 : x1 > 300
      · rw [dT c1]; exact hk
      rw [dF c1]
      intro x2 h2
      by_cases c2 : x2 > 300
      · rw [dT c2]; exact hk
      rw [dF c2]
      intro x3 h3
      by_cases c3 : x3 > 200
      · rw [dT c3]; exact hk
      rw [dF c3]
      intro x4 h4 x5 h5 z hz
      have z4 : 4 ≤ z ∧ z ≤ 8192 ∧ ((a.size : Nat) : Int) ≤ z ∧ ((b.size : Nat) : Int) ≤ z := by
        rw [hz]; split <;> split <;> omega
      obtain ⟨z1, z2, za, zb⟩ := z4
      clear hz
      refine ⟨z1, z2, za, fun x7 h7 x8 h8 x9 _ => ?_⟩
      obtain ⟨_, _, V, E, S, hE, hfu, hsa⟩ := com_sta z1 z2 za
      rw [← h7] at S hfu hsa
      have n7 : x7.n = cN z := S.v.num
      have hw' := words_in z1 z2
      have nN : 0 < cN z ∧ cN z ≤ 16384 := by unfold cN; omega
      rw [n7] at h8
      rw [dF (by omega), dF (by omega), flags_room h8 nN.2, cond_true, n7]
      have e8 : Int.toNat x8 = cN z := by omega
      rw [e8]
      refine ⟨hw, by omega, rfl, h8, nN.1, nN.2, rfl, rfl, okB_new _, ⟨V, E, S, fun j hj => ⟨by rw [hE j hj]; omega, fun _ => hE j hj⟩, by omega⟩, fun x10 _ hu => ?_⟩
      exact upT zb h8 nN.2 hu hk
    · exact hk.elim)
def sUpN : Spec := fun args h K => match args, h with
  | [.string _, .string _, .slice none 0 0], [] => K (.bool true) []
  | _, _ => False
theorem okUpN : SpecOk Tryd.prog G0 5 sUpN :=
  spec2 mixed tUp_ok Tryd.func5 (by kernel_rfl : Tryd.f5.body = some (codeOf Tryd.f5)) cUpN rfl rfl rfl (by kernel_rfl) (ids := [12, 21]) (by kernel_rfl) ⟨trivial, loopUp21N, trivial⟩ (by
    intro args h K hk
    unfold sUpN at hk
    split at hk
    · rename_i a b
      show bUpN a b K
      rw [bUpN_eq]
      intro x1 h1
      by_cases c1 : x1 > 300
      · rw [dT c1]; exact hk
      rw [dF c1]
      intro x2 h2
      by_cases c2 : x2 > 300
      · rw [dT c2]; exact hk
      rw [dF c2]
      intro x3 h3
      rw [dF (by omega)]
      intro x4 h4 x5 h5 z hz
      have z4 : 4 ≤ z ∧ z ≤ 8192 ∧ ((a.size : Nat) : Int) ≤ z ∧ ((b.size : Nat) : Int) ≤ z := by
        rw [hz]; split <;> split <;> omega
      obtain ⟨z1, z2, za, zb⟩ := z4
      clear hz
      refine ⟨z1, z2, za, fun x7 h7 x8 h8 x9 _ => ?_⟩
      obtain ⟨_, _, V, E, S, hE, hfu, hsa⟩ := com_sta z1 z2 za
      rw [← h7] at S hfu hsa
      have n7 : x7.n = cN z := S.v.num
      have hw' := words_in z1 z2
      have nN : 0 < cN z ∧ cN z ≤ 16384 := by unfold cN; omega
      rw [n7] at h8
      rw [dF (by omega), dF (by omega), flags_room h8 nN.2, cond_true]
      exact upT zb h8 nN.2 ⟨V, E, S, fun j hj => (by rw [hE j hj]; omega), by omega⟩ hk
    · exact hk.elim)
end Go.Am.Pat
