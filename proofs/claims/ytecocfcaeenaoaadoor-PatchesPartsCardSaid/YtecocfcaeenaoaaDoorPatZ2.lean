/-
  Patches: committed; PatchesWhole answers true. Own work.
-/
import Derived.Test.YtecocfcaeenaoaaDoorPatZ1
namespace Go.Am.Pat
open Go Go.Am Go.Am.Ham Go.Am.Mem Go.Proofs
set_option maxRecDepth 100000

theorem okPick : SpecOk Tryd.prog G0 26 sPick :=
  spec2 mixed none_ok Tryd.func26 (by kernel_rfl : Tryd.f26.body = some (codeOf Tryd.f26)) cPick rfl rfl rfl (by kernel_rfl) (ids := []) (by kernel_rfl) trivial (by
    intro args h K hk
    unfold sPick at hk
    split at hk
    · rename_i n m
      obtain ⟨m0, m1, hk⟩ := hk
      show bPick n m K
      rw [bPick_eq]
      rw [dnF (by omega)]
      rintro x1 h1
      have hlt := Int.emod_lt_of_pos n m0
      have hnn := Int.emod_nonneg n (by omega : m ≠ 0)
      have ht : x1 = n % m ∨ (x1 + m = n % m ∧ x1 < 0) := by
        rw [h1, Int.tmod_eq_emod]
        split
        · left; omega
        · right
          rename_i hc
          have hm : (m.natAbs : Int) = m := by omega
          have hz : n % m ≠ 0 := fun z => hc (.inr (Int.dvd_of_emod_eq_zero z))
          omega
      rcases ht with ht | ⟨ht, hneg⟩
      · rw [dF (by omega)]; exact hk _ ht
      · rw [dT hneg]
        rintro x2 h2
        rw [iAdd_i64 (by omega) (by omega), ht] at h2
        exact hk _ h2
    · exact hk.elim)

/-! ### a new store with a patch -/
def cN (z : Int) : Nat := (wordsN z + 3).toNat
theorem words_in {z : Int} (h1 : 4 ≤ z) (h2 : z ≤ 8192) : wordsN z = 2 * (5 + (z + 3) / 4) := by unfold wordsN; rw [if_neg (by omega)]
def I1 (a : ByteArray) : Int → Option Bk := putB (fun _ => none) 0 (some ⟨1, 1, a⟩)
theorem sto1 {z : Int} (h1 : 4 ≤ z) (h2 : z ≤ 8192) : OkS ⟨1, z⟩ ∧ bankAt ⟨1, z⟩ 2 ≤ cN z := by
  have := words_in h1 h2
  refine ⟨⟨by show (0 : Int) ≤ 1; omega, by show (1 : Int) ≤ 16384; omega, h1, h2⟩, ?_⟩
  unfold cN bankAt
  show (1 : Int) + 2 * (5 + (z + 3) / 4) ≤ _
  omega
theorem sta0 {s : Sto} {n : Nat} {sf : Int} (o : OkS s) (f : bankAt s 2 ≤ n) (h1 : 1 ≤ n) (h2 : n ≤ 16384) (h3 : 0 ≤ sf) (h4 : sf ≤ n) : Sta s (newM n sf) n (fun _ => 0) (fun _ => 0) (fun _ => none) :=
  ⟨o, f, new_vw h1 h2 h3 h4, rfl, rfl, fun _ _ h => by cases h⟩
theorem ld_clean {s : Sto} {n : Nat} {E E' : Nat → Nat} {A k : Nat} (h : Cl n E) (z : ∀ j, j < k → E' (A + j) = 0) (r : ∀ j, j < A ∨ A + k ≤ j → (E' j = E j ∨ (E j = 1 ∧ E' j = 0))) : Cl n E' := fun j hj => by
  have := h j hj
  by_cases c : j < A ∨ A + k ≤ j
  · rcases r j c with a | ⟨a, a'⟩ <;> omega
  · have := z (j - A) (by omega)
    rw [show A + (j - A) = j by omega] at this; exact this
theorem first {s : Sto} {n : Nat} {sf : Int} {a : ByteArray} (o : OkS s) (f : bankAt s 2 ≤ n) (h1 : 1 ≤ n) (h2 : n ≤ 16384) (h3 : 0 ≤ sf) (h4 : sf ≤ n) (ha : ((a.size : Nat) : Int) ≤ s.size) :
    fullB s (newM n sf) = false ∧ ldOk s (newM n sf) a = true ∧ ∃ V E, Sta s (ld6 s (newM n sf) 1 a) n V E (I1 a) ∧ Cl n E ∧ (ld6 s (newM n sf) 1 a).fuse = -1 ∧ (ld6 s (newM n sf) 1 a).safe = sf := by
  have S := sta0 o f h1 h2 h3 h4
  obtain ⟨_, hact⟩ := act_get S
  have hn : acN s (newM n sf) = none := by
    rcases hact with ⟨h, _⟩ | ⟨c, p, _, _, _, hp, _⟩
    · exact h
    · cases hp
  have e0 : otherN s (newM n sf) = 0 := (other_none hn).1
  have e1 : nxtG s (newM n sf) (fun _ => none) = 1 := by unfold nxtG; rw [hn]
  obtain ⟨k1, k2, V, E, S', st, _, z, r⟩ := ld_good S (id := 1) (d := a) (c := 0) (by omega) ha (Or.inl (by show (-1 : Int) < 0; omega)) (by rw [e1]; omega)
  rw [e0, e1] at S'
  refine ⟨k1, k2, V, E, S', ?_, ?_, st.safe⟩
  · exact ld_clean (s := s) (fun _ _ => rfl) z (fun j hj => (r j hj).2)
  · rw [show ld6 s (newM n sf) 1 a = ld6 s (newM n sf) ((1 : Nat) : Int) a from rfl, st.fuse]; rfl
theorem com_sta {z : Int} {a : ByteArray} (h1 : 4 ≤ z) (h2 : z ≤ 8192) (ha : ((a.size : Nat) : Int) ≤ z) : fullB ⟨1, z⟩ (newM (cN z) (wordsN z + 2)) = false ∧ ldOk ⟨1, z⟩ (newM (cN z) (wordsN z + 2)) a = true ∧ ∃ V E, Sta ⟨1, z⟩ (comM z a) (cN z) V E (I1 a) ∧ Cl (cN z) E ∧ (comM z a).fuse = -1 ∧ (comM z a).safe = wordsN z + 2 := by
  obtain ⟨o, f⟩ := sto1 h1 h2
  have := words_in h1 h2
  exact first o f (by unfold cN; omega) (by unfold cN; omega) (by omega) (by unfold cN; omega) ha
theorem okCom : SpecOk Tryd.prog G0 18 sCom :=
  spec2 mixed tC2_ok Tryd.func18 (by kernel_rfl : Tryd.f18.body = some (codeOf Tryd.f18)) cCom rfl rfl rfl (by kernel_rfl) (ids := []) (by kernel_rfl) trivial (by
    intro args h K hk
    unfold sCom at hk
    split at hk
    · rename_i z d
      obtain ⟨h1, h2, hd, hk⟩ := hk
      show bCom z d K
      rw [bCom_eq]
      obtain ⟨o, f⟩ := sto1 h1 h2
      have hw := words_in h1 h2
      obtain ⟨k1, k2, _⟩ := com_sta h1 h2 hd
      intro x1 e1 x2 e2 x3 e3
      rw [iAdd_i64 (by omega) (by omega), e1] at e2 e3
      refine ⟨newB_iff.2 (by omega), fun x4 e4 x5 e5 => ?_⟩
      obtain rfl : x4 = newM (cN z) (wordsN z + 2) := by rw [e4, e2, e3]; rfl
      have om : OkM (newM (cN z) (wordsN z + 2)) := ok_newM (by unfold cN; omega) (by unfold cN; omega) (by omega) (by unfold cN; omega)
      refine ⟨om, ?_, fun x6 e6 o6 x7 e7 => ?_⟩
      · unfold newOk
        rw [decide_eq_true h1, decide_eq_true h2, decide_eq_true (show (0 : Int) ≤ 1 by omega), decide_eq_true (show (1 : Int) ≤ (newM (cN z) (wordsN z + 2)).safe - wordsN z by show (1 : Int) ≤ wordsN z + 2 - wordsN z; omega)]; rfl
      · subst e6
        rw [dnT e5, dnT e7]
        exact ⟨o, om, f, ⟨by omega, by omega⟩, hd, k1, k2, fun x8 e8 => hk x8 e8⟩
    · exact hk.elim)
theorem tWh_ok : AllOk Tryd.prog G0 tWh := ⟨weaken okLoad iLoad2, okIs, okCom, okAwk, weaken okPNew iPNewT, okPick, weaken okFuse iFuse, okBlown, okReset, trivial⟩
end Go.Am.Pat
