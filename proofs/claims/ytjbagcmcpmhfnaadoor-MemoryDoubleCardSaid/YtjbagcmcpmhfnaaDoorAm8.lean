/-
  The abstract machine, part 8: indexes, slices, conversions, numbers, comparisons. Own work; plain lemmas.
-/
import Derived.Test.YtjbagcmcpmhfnaaDoorAm7
namespace Go.Am
open Go

theorem cond_prop {b : Bool} {p : Prop} (h : cond b p False) : b = true ∧ p := by
  cases b
  · exact h.elim
  · exact ⟨rfl, h⟩

theorem VR_int {φ : Phi} {k : IntKind} {n : Int} {v' : Value} (h : VR φ (.int k n) v') : v' = .int k n := by simpa [VR] using h

theorem run_asIntOf {P : Program} (k : IntKind) (n : Int) (w : World) : (asIntOf (.int k n)).run P w = .ok (k, n) w := rfl

/-- What is known of a slice behind a naming of an abstract block. -/
theorem VR_slice_some {φ : Phi} {a : Addr} {n c s : Nat} {v' : Value} (hs : a.spot = some s) (h : VR φ (.slice (some a) n c) v') :
    ∃ p c' o', φ[a.block]? = some p ∧ v' = .slice (some ⟨p.b, o', none⟩) n c' ∧ n ≤ c' ∧ (c' ≠ 0 → o' = p.sh + a.off ∧ p.sh + a.off + c' * (c / 2) ≤ p.sz) ∧ (c % 2 = 1 → c' = n) := by
  simp only [VR, hs] at h; exact h
theorem VR_slice_none {φ : Phi} {a : Addr} {n c : Nat} {v' : Value} (hs : a.spot = none) (h : VR φ (.slice (some a) n c) v') : v' = .slice (some a) n c := by
  simp only [VR, hs] at h; exact h

theorem indexAddr_sound {φ : Phi} {P : Program} {t : TypeId} {x x' ix ix' : Value} {k : Value → Prop} (hk : indexAddrK P t x ix k) (hx : VR φ x x') (hix : VR φ ix ix') :
    ∃ v v', k v ∧ VR φ v v' ∧ ∀ w : World, (Instr.indexAt t x' ix').run P w = .ok v' w := by
  unfold indexAddrK at hk
  simp only [mul1_eq] at hk
  split at hk
  · rename_i kd i
    rw [VR_int hix]
    split at hk
    · rename_i len elem a hu
      split at hk
      · rename_i inf hi
        obtain ⟨hc, hk⟩ := cond_prop hk
        simp only [Bool.and_eq_true, decide_eq_true_eq] at hc
        obtain ⟨a', rfl, ha⟩ := VR_addA hx
        refine ⟨_, _, hk, ha _, fun w => ?_⟩
        simp only [Instr.indexAt, run_bind, run_asIntOf, run_underlying hu, Instr.sureAddr, run_pure]
        rw [if_pos hc]
        simp only [run_bind, run_sizeOf hi, run_pure]
      · exact hk.elim
    · rename_i elem a len c hu
      split at hk
      · rename_i inf hi
        obtain ⟨hc, hk⟩ := cond_prop hk
        simp only [Bool.and_eq_true, decide_eq_true_eq] at hc
        cases hs : a.spot with
        | none =>
          rw [VR_slice_none hs hx]
          refine ⟨_, .pointer (some (a.add (i.toNat * inf.size))), hk, ?_, fun w => ?_⟩
          · obtain ⟨b, o, sp⟩ := a
            simp only at hs; subst hs
            simp [addA, add0_eq, VR, add_none]
          · simp only [Instr.indexAt, run_bind, run_asIntOf, run_underlying hu, run_pure]
            rw [if_pos hc]
            simp only [run_bind, run_sizeOf hi, run_pure]
        | some s =>
          obtain ⟨p, c', o', hp, rfl, h1, h2, h3⟩ := VR_slice_some hs hx
          obtain ⟨ho, hsz⟩ := h2 (by omega)
          refine ⟨_, .pointer (some ((⟨p.b, o', none⟩ : Addr).add (i.toNat * inf.size))), hk, ?_, fun w => ?_⟩
          · simp only [addA, add0_eq, VR, hs, add_none]
            exact ⟨p, hp, by rw [ho, Nat.add_assoc]⟩
          · simp only [Instr.indexAt, run_bind, run_asIntOf, run_underlying hu, run_pure]
            rw [if_pos hc]
            simp only [run_bind, run_sizeOf hi, run_pure]
      · exact hk.elim
    · exact hk.elim
  · exact hk.elim

theorem part_sound {φ : Phi} {P : Program} {t : TypeId} {i : TypeInfo} {ag : Bool} (hi : P.info? t = some i) (ha : aggO P t = some ag) {cs cs' : Array Value} (hv : VRL φ cs.toList cs'.toList) {off : Nat}
    (hle : off + i.size ≤ cs.size) (h1 : ag = false → i.size = 1) :
    ∃ v', (∀ w : World, (part t cs' off).run P w = .ok v' w) ∧ (ag = true → ∃ l, v' = .agg ⟨l⟩ ∧ VRL φ (cellsAt cs.toList off i.size) l) ∧ (ag = false → VRL φ (cellsAt cs.toList off i.size) [v']) := by
  have hl := VRL_length hv
  simp only [Array.length_toList] at hl
  cases ag with
  | true =>
    refine ⟨.agg (cs'.extract off (off + i.size)), fun w => by simp only [part, run_bind, run_isAgg ha, if_true, run_sizeOf hi, run_pure], fun _ => ⟨cellsAt cs'.toList off i.size, ?_, VRL_take _ (VRL_drop _ hv)⟩, (fun h => by cases h)⟩
    congr 1
    apply Array.toList_inj.1
    simp [cellsAt, Array.toList_extract, List.take_drop]
  | false =>
    have hs := h1 rfl
    obtain ⟨v', hv'⟩ : ∃ v', cs'.toList[off]? = some v' := ⟨_, List.getElem?_eq_getElem (by simp; omega)⟩
    refine ⟨v', fun w => ?_, (fun h => by cases h), fun _ => ?_⟩
    · have : cs'[off]? = some v' := by simpa using hv'
      simp only [part, run_bind, run_isAgg ha, Bool.false_eq_true, if_false, this, run_pure]
    · have hd := VRL_take i.size (VRL_drop off hv)
      have : (cs'.toList.drop off).take i.size = [v'] := by
        rw [hs, List.drop_eq_getElem_cons (by simp; omega), List.take_succ_cons, List.take_zero]
        rw [List.getElem?_eq_getElem (by simp; omega)] at hv'
        rw [Option.some.inj hv']
      rw [this] at hd
      exact hd

theorem index_sound {φ : Phi} {P : Program} {t : TypeId} {x x' ix ix' : Value} {k : Value → Prop} (hk : indexK P t x ix k) (hx : VR φ x x') (hix : VR φ ix ix') :
    ∃ v v', k v ∧ VR φ v v' ∧ ∀ w : World, (Instr.index t x' ix').run P w = .ok v' w := by
  unfold indexK at hk
  simp only [mul1_eq] at hk
  split at hk
  · rename_i kd i
    rw [VR_int hix]
    split at hk
    · rename_i len elem cs hu
      split at hk
      · rename_i inf hi
        split at hk
        · rename_i z hz
          obtain ⟨hc, hk⟩ := cond_prop hk
          simp only [Bool.and_eq_true, decide_eq_true_eq] at hc
          obtain ⟨⟨⟨c1, c2⟩, c3⟩, c4⟩ := hc
          obtain ⟨cs', rfl, hcs⟩ := hx
          cases cs with | mk l => ?_
          have hcs : VRL φ l cs'.toList := hcs
          obtain ⟨hk1, hlen⟩ := coerL_sound hk
          rw [listAt_eq _ _ _ (by simpa using c3)] at hk1 hlen
          have fin : ∀ {v' : Value}, (∀ w : World, (part elem cs' (i.toNat * inf.size)).run P w = .ok v' w) → ∀ w : World, (Instr.index t (.agg cs') (.int kd i)).run P w = .ok v' w := by
            intro v' h w
            simp only [Instr.index, run_bind, run_asIntOf, run_underlying hu]
            rw [if_pos ⟨c1, c2⟩]
            simp only [run_bind, run_sizeOf hi]
            exact h w
          split at hk1
          · rename_i ha
            obtain ⟨v', r1, r2, _⟩ := part_sound (φ := φ) (cs := ⟨l⟩) hi ha hcs c3 (fun h => by cases h)
            obtain ⟨l', rfl, r3⟩ := r2 rfl
            exact ⟨_, _, hk1, ⟨_, rfl, r3⟩, fin r1⟩
          · rename_i ha
            split at hk1
            · rename_i v hl
              have hs : inf.size = 1 := by
                have : (cellsAt l (i.toNat * inf.size) inf.size).length = inf.size := by
                  simp only [List.size_toArray] at c3
                  simp only [cellsAt, List.length_take, List.length_drop]; omega
                rw [hl] at this; simpa using this.symm
              obtain ⟨v', r1, _, r3⟩ := part_sound (φ := φ) (cs := ⟨l⟩) hi ha hcs c3 (fun _ => hs)
              have r3 := r3 rfl
              rw [hl] at r3
              obtain ⟨u, us, e, h4, _⟩ := r3
              cases e
              exact ⟨_, _, hk1, h4, fin r1⟩
            · exact hk1.elim
          · exact hk1.elim
        · exact hk.elim
      · exact hk.elim
    · rename_i s hu
      obtain ⟨hc, hk⟩ := cond_prop hk
      simp only [Bool.and_eq_true, decide_eq_true_eq] at hc
      have e : x' = .string s := by simpa [VR] using hx
      subst e
      refine ⟨_, _, hk, (VR_flat φ _ _ rfl).2 rfl, fun w => ?_⟩
      have hlt : i.toNat < s.size := by omega
      have hg : (if 0 ≤ i then s[i.toNat]? else none) = some (s.data.toList.getD i.toNat 0) := by
        rw [if_pos hc.1, getElem?_pos s i.toNat hlt, getD_eq]
        have h2 : i.toNat < s.data.toList.length := by simpa using hlt
        rw [List.getElem?_eq_getElem h2]
        rfl
      simp only [Instr.index, run_bind, run_asIntOf, run_underlying hu, hg, run_pure]
    · exact hk.elim
  · exact hk.elim

theorem field_sound {φ : Phi} {P : Program} {t : TypeId} {x x' : Value} {f : Nat} {k : Value → Prop} (hk : fieldK P t x f k) (hx : VR φ x x') :
    ∃ v v', k v ∧ VR φ v v' ∧ ∀ w : World, (Instr.field t x' f).run P w = .ok v' w := by
  unfold fieldK at hk
  split at hk
  · rename_i cs
    obtain ⟨cs', rfl, hcs⟩ := hx
    cases cs with | mk l => ?_
    have hcs : VRL φ l cs'.toList := hcs
    split at hk
    · rename_i fields hu
      split at hk
      · rename_i fd hf
        split at hk
        · rename_i ha
          split at hk
          · rename_i i hi
            refine ⟨_, .agg (cs'.extract fd.offset (fd.offset + i.size)), hk, ⟨_, rfl, ?_⟩, fun w => ?_⟩
            · have : (cs'.extract fd.offset (fd.offset + i.size)).toList = cellsAt cs'.toList fd.offset i.size := by
                simp [cellsAt, Array.toList_extract, List.take_drop]
              show VRL φ _ _
              rw [this]
              exact VRL_take _ (VRL_drop _ hcs)
            · simp only [Instr.field, run_bind, run_underlying hu, hf, asAgg, run_pure, part, run_isAgg ha, if_true, run_sizeOf hi]
          · exact hk.elim
        · rename_i ha
          split at hk
          · rename_i v hv
            obtain ⟨v', h1, h2⟩ := VRL_get hcs hv
            refine ⟨_, _, hk, h2, fun w => ?_⟩
            have : cs'[fd.offset]? = some v' := by simpa using h1
            simp only [Instr.field, run_bind, run_underlying hu, hf, asAgg, run_pure, part, run_isAgg ha, Bool.false_eq_true, if_false, this]
          · exact hk.elim
        · exact hk.elim
      · exact hk.elim
    · exact hk.elim
  · exact hk.elim

/-! ### slice expressions -/
def OR (φ : Phi) : Option Value → Option Value → Prop
  | none, o => o = none
  | some v, o => ∃ v', o = some v' ∧ VR φ v v'

theorem run_sliceBound {P : Program} {kd : IntKind} {i : Int} {y : Nat} {code : BoundsCode} (h0 : 0 ≤ i) (h1 : i ≤ y) (w : World) : (Instr.sliceBound (.int kd i) y code).run P w = .ok i.toNat w := by
  simp only [Instr.sliceBound, run_bind, run_asIntOf]
  rw [if_pos ⟨h0, h1⟩, run_pure]

/-- Without a third index: the bounds against any capacity from the length on. -/
theorem bounds_sound {φ : Phi} {P : Program} {lo hi lo' hi' : Option Value} {len cap : Nat} {isSlice : Bool} {k : Nat → Nat → Prop} (hk : boundsK lo hi len k) (hl : OR φ lo lo') (hh : OR φ hi hi') (hcap : len ≤ cap) (w : World) :
    ∃ l h, k l h ∧ l ≤ h ∧ h ≤ len ∧ (Instr.sliceBounds isSlice len cap lo' hi' none).run P w = .ok (l, h, cap) w := by
  unfold boundsK at hk
  split at hk
  · cases hh
    split at hk
    · cases hl
      exact ⟨_, _, hk, by omega, by omega, rfl⟩
    · rename_i kd l
      obtain ⟨v', rfl, hv⟩ := hl
      rw [VR_int hv]
      obtain ⟨hc, hk⟩ := cond_prop hk
      simp only [Bool.and_eq_true, decide_eq_true_eq] at hc
      refine ⟨_, _, hk, by omega, by omega, ?_⟩
      simp only [Instr.sliceBounds, run_bind, run_pure, run_sliceBound hc.1 hc.2]
    · exact hk.elim
  · rename_i kh hh0
    obtain ⟨v', rfl, hv⟩ := hh
    rw [VR_int hv]
    split at hk
    · cases hl
      obtain ⟨hc, hk⟩ := cond_prop hk
      simp only [Bool.and_eq_true, decide_eq_true_eq] at hc
      refine ⟨_, _, hk, by omega, by omega, ?_⟩
      simp only [Instr.sliceBounds, run_bind, run_pure, run_sliceBound hc.1 (show hh0 ≤ (cap : Int) by omega)]
    · rename_i kd l
      obtain ⟨v', rfl, hv⟩ := hl
      rw [VR_int hv]
      obtain ⟨hc, hk⟩ := cond_prop hk
      simp only [Bool.and_eq_true, decide_eq_true_eq] at hc
      refine ⟨_, _, hk, by omega, by omega, ?_⟩
      simp only [Instr.sliceBounds, run_bind, run_pure, run_sliceBound (show 0 ≤ hh0 by omega) (show hh0 ≤ (cap : Int) by omega),
        run_sliceBound hc.1.1 (show l ≤ (hh0.toNat : Int) by omega)]
    · exact hk.elim
  · exact hk.elim

/-- With a third index. -/
theorem bounds3_sound {φ : Phi} {P : Program} {lo hi lo' hi' : Option Value} {len cap : Nat} {isSlice : Bool} {km : IntKind} {m : Int} {k : Nat → Nat → Prop} (hm0 : 0 ≤ m) (hm1 : m ≤ cap) (hhi : hi.isSome)
    (hk : boundsK lo hi m.toNat k) (hl : OR φ lo lo') (hh : OR φ hi hi') (w : World) :
    ∃ l h, k l h ∧ l ≤ h ∧ h ≤ m.toNat ∧ (Instr.sliceBounds isSlice len cap lo' hi' (some (.int km m))).run P w = .ok (l, h, m.toNat) w := by
  unfold boundsK at hk
  split at hk
  · simp at hhi
  · rename_i kh hh0
    obtain ⟨v', rfl, hv⟩ := hh
    rw [VR_int hv]
    split at hk
    · cases hl
      obtain ⟨hc, hk⟩ := cond_prop hk
      simp only [Bool.and_eq_true, decide_eq_true_eq] at hc
      refine ⟨_, _, hk, by omega, by omega, ?_⟩
      simp only [Instr.sliceBounds, run_bind, run_pure, run_sliceBound hm0 hm1, run_sliceBound hc.1 (show hh0 ≤ (m.toNat : Int) by omega)]
    · rename_i kd l
      obtain ⟨v', rfl, hv⟩ := hl
      rw [VR_int hv]
      obtain ⟨hc, hk⟩ := cond_prop hk
      simp only [Bool.and_eq_true, decide_eq_true_eq] at hc
      refine ⟨_, _, hk, by omega, by omega, ?_⟩
      simp only [Instr.sliceBounds, run_bind, run_pure, run_sliceBound hm0 hm1, run_sliceBound (show 0 ≤ hh0 by omega) (show hh0 ≤ (m.toNat : Int) by omega),
        run_sliceBound hc.1.1 (show l ≤ (hh0.toNat : Int) by omega)]
    · exact hk.elim
  · exact hk.elim
end Go.Am
