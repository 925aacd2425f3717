/-
  Patches: PatchesLost answers true: the whole. Own work.
-/
import Derived.Test.YtecocfcaeenaoaaDoorPatLb
namespace Go.Am.Pat
open Go Go.Am Go.Am.Ham Go.Am.Mem Go.Proofs
set_option maxRecDepth 100000

theorem lo_start {z : Int} {a b : ByteArray} (z1 : 4 ≤ z) (z2 : z ≤ 8192) (za : ((a.size : Nat) : Int) ≤ z) (zb : ((b.size : Nat) : Int) ≤ z) {m : Mem} (h : m = comM z a) : OkS ⟨1, z⟩ ∧ OkM m ∧ Fits ⟨1, z⟩ m ∧ fullB ⟨1, z⟩ m = false ∧ ldOk ⟨1, z⟩ m b = true ∧
    ∃ V E, Sta ⟨1, z⟩ (ld6 ⟨1, z⟩ m 2 b) (cN z) V E (I2 a b) ∧ (ld6 ⟨1, z⟩ m 2 b).fuse < 0 ∧ Cl (cN z) E := by
  obtain ⟨_, _, V, E, S, hE, hfu, hsa⟩ := com_sta z1 z2 za
  rw [← h] at S hfu hsa
  obtain ⟨k1, k2, V', E', S', hf', _, r⟩ := second (b := b) S (fun j hj => by rw [hE j hj]; omega) (by omega) zb
  exact ⟨S.o, S.v.ok, S.fits, k1, k2, V', E', S', hf', fun j hj => by have := hE j hj; rcases r j hj with x | x <;> omega⟩
def sLoA : Spec := fun args h K => match args, h with
  | [.string _, .string _, .slice (some ⟨0, 0, some 0⟩) l _], [.ro us t] => OkW .u16 (2 ^ 16) us l ∧ K (.bool true) [.ro us t]
  | _, _ => False
theorem okLoA : SpecOk Tryd.prog G0 6 sLoA :=
  spec2 mixed tUp_ok Tryd.func6 (by kernel_rfl : Tryd.f6.body = some (codeOf Tryd.f6)) cLoA rfl rfl rfl (by kernel_rfl) (ids := [12]) (by kernel_rfl) ⟨loopLo12, trivial⟩ (by
    intro args h K hk
    unfold sLoA at hk
    split at hk
    · rename_i a b l c us t
      obtain ⟨hw, hk⟩ := hk
      show bLoA us t a b l c K
      rw [bLoA_eq]
      intro x1 h1
      by_cases c1 : x1 > 300
      · rw [dT c1]; exact hk
      rw [dF c1]
      intro x2 h2
      by_cases c2 : x2 > 300
      · rw [dT c2]; exact hk
      rw [dF c2]
      intro x3 h3
      by_cases c3 : x3 > 20
      · rw [dT c3]; exact hk
      rw [dF c3]
      intro x4 h4 x5 h5 z hz
      have z4 : 4 ≤ z ∧ z ≤ 8192 ∧ ((a.size : Nat) : Int) ≤ z ∧ ((b.size : Nat) : Int) ≤ z := by
        rw [hz]; split <;> split <;> omega
      obtain ⟨z1, z2, za, zb⟩ := z4
      clear hz
      refine ⟨z1, z2, za, fun x7 h7 => ?_⟩
      obtain ⟨o, om, fi, k1, k2, V, E, S, hf, hE⟩ := lo_start z1 z2 za zb h7
      refine ⟨o, om, fi, ⟨by omega, by omega⟩, zb, k1, k2, fun x8 h8 x9 h9 x10 _ => ?_⟩
      rw [← h8] at S hf
      have n8 : x8.n = cN z := S.v.num
      have hw' := words_in z1 z2
      have nN : 0 < cN z ∧ cN z ≤ 16384 := by unfold cN; omega
      rw [n8] at h9
      rw [dF (by omega), dF (by omega), flags_room h9 nN.2, cond_true, n8]
      have e9 : Int.toNat x9 = cN z := by omega
      rw [e9]
      refine ⟨hw, by omega, rfl, h9, nN.1, nN.2, rfl, rfl, okB_new _, ⟨V, E, S, fun j hj => ⟨by rw [hE j hj]; omega, fun _ => hE j hj⟩, hf⟩, fun x hu => ?_⟩
      have hu1 := ue_ac hu (by omega)
      have hu' := hu
      obtain ⟨V3, E3, S3, _, _⟩ := hu'
      refine ⟨S3.o, S3.v.ok, S3.fits, fun x11 h11 => ⟨fun hn x12 _ x13 _ x14 _ x15 h15 => ?_, fun x28 hn x29 _ x30 _ x31 _ x32 h32 => ?_⟩⟩
      · rw [dnF (by omega), dnT h15, dF (by omega)]
        subst h11
        exact loL za hu1 hk
      · rw [dnT h32, dT h32]
        subst h11
        exact loI za hu hn hk
    · exact hk.elim)
def sLoN : Spec := fun args h K => match args, h with
  | [.string _, .string _, .slice none 0 0], [] => K (.bool true) []
  | _, _ => False
theorem okLoN : SpecOk Tryd.prog G0 6 sLoN :=
  spec2 mixed tUp_ok Tryd.func6 (by kernel_rfl : Tryd.f6.body = some (codeOf Tryd.f6)) cLoN rfl rfl rfl (by kernel_rfl) rfl (eachNone (fun _ => rfl) _ 0) (by
    intro args h K hk
    unfold sLoN at hk
    split at hk
    · rename_i a b
      show bLoN a b K
      rw [bLoN_eq]
      intro x1 h1
      by_cases c1 : x1 > 300
      · rw [dT c1]; exact hk
      rw [dF c1]
      intro x2 h2
      by_cases c2 : x2 > 300
      · rw [dT c2]; exact hk
      rw [dF c2]
      intro x3 h3
      rw [dF (by omega)]
      intro x4 h4 x5 h5 z hz
      have z4 : 4 ≤ z ∧ z ≤ 8192 ∧ ((a.size : Nat) : Int) ≤ z ∧ ((b.size : Nat) : Int) ≤ z := by
        rw [hz]; split <;> split <;> omega
      obtain ⟨z1, z2, za, zb⟩ := z4
      clear hz
      refine ⟨z1, z2, za, fun x7 h7 => ?_⟩
      obtain ⟨o, om, fi, k1, k2, V, E, S, hf, hE⟩ := lo_start z1 z2 za zb h7
      refine ⟨o, om, fi, ⟨by omega, by omega⟩, zb, k1, k2, fun x8 h8 x9 h9 x10 _ => ?_⟩
      rw [← h8] at S hf
      have n8 : x8.n = cN z := S.v.num
      have hw' := words_in z1 z2
      have nN : 0 < cN z ∧ cN z ≤ 16384 := by unfold cN; omega
      rw [n8] at h9
      rw [dF (by omega), dF (by omega), flags_room h9 nN.2, cond_true]
      have hu : Ue ⟨1, z⟩ x8 (cN z) (I2 a b) 2 := ⟨V, E, S, fun j hj => by rw [hE j hj]; omega, hf⟩
      have hu1 := ue_ac hu (by omega)
      refine ⟨S.o, S.v.ok, S.fits, fun x11 h11 => ⟨fun hn x12 _ x13 _ x14 _ x15 h15 => ?_, fun x28 hn x29 _ x30 _ x31 _ x32 h32 => ?_⟩⟩
      · rw [dnF (by omega), dnT h15, dF (by omega)]
        subst h11
        exact loL za hu1 hk
      · rw [dnT h32, dT h32]
        subst h11
        exact loI za hu hn hk
    · exact hk.elim)
/-- a row of numbers, as it is given -/
theorem okW_of {k : IntKind} {B : Nat} {zs : List Int} {l : Nat} (hl : zs.length = l) (hz : ∀ z ∈ zs, 0 ≤ z ∧ z < B) : OkW k B (zs.map (Value.int k)) l := by
  have at_ : ∀ j, j < l → ∃ z, z ∈ zs ∧ (zs.map (Value.int k)).getD j undef = .int k z := fun j hj => by
    have hj' : j < zs.length := by omega
    exact ⟨zs[j], List.getElem_mem hj', by rw [List.getD_eq_getElem?_getD, List.getElem?_map, List.getElem?_eq_getElem hj']; rfl⟩
  refine ⟨by rw [List.length_map]; exact hl, fun j hj => ?_, fun j hj => ?_⟩
  · obtain ⟨z, hm, e⟩ := at_ j hj
    have := hz z hm
    unfold wv; rw [e]; show Value.int k z = .int k ((z.toNat : Nat) : Int)
    rw [Int.toNat_of_nonneg this.1]
  · obtain ⟨z, hm, e⟩ := at_ j hj
    have := hz z hm
    unfold wv; rw [e]; show z.toNat < B; omega
end Go.Am.Pat
