/-
  The abstract machine, part 12: every operation. Own work; plain lemmas.
-/
import Derived.Test.YtbafdehohlpjhaaDoorAm11
namespace Go.Am
open Go

/-- Neither number nor string: '==' asks the types. -/
def Other (a : Value) : Prop := (∀ k n, a ≠ .int k n) ∧ (∀ k n, a ≠ .float k n) ∧ (∀ k n m, a ≠ .complex k n m) ∧ (∀ s, a ≠ .string s) ∧ a ≠ .nilIface ∧ ∀ c, a ≠ .agg c

theorem equal_of {P : Program} {t : TypeId} {x y : Value} {w : World} {r : Result Bool} (h : ∀ d, (Op.equalIn (d + 1) t x y).run P w = r) : (Op.equal t x y).run P w = r := h 9999
theorem eqIn_p1 {P : Program} {t el : TypeId} (hu : P.underlying t = some (.pointer el)) (b : Option Addr) (w : World) (d : Nat) : (Op.equalIn (d + 1) t (.pointer none) (.pointer b)).run P w = .ok b.isNone w := by
  simp only [Op.equalIn, run_bind, run_underlying hu, run_pure]
theorem eqIn_p2 {P : Program} {t el : TypeId} (hu : P.underlying t = some (.pointer el)) (a : Addr) (w : World) (d : Nat) : (Op.equalIn (d + 1) t (.pointer (some a)) (.pointer none)).run P w = .ok false w := by
  simp only [Op.equalIn, run_bind, run_underlying hu, run_pure]
theorem eqIn_p3 {P : Program} {t el : TypeId} {i : TypeInfo} (hu : P.underlying t = some (.pointer el)) (hi : P.info? el = some i) (hs : i.size ≠ 0) (b x y : Nat) (w : World) (d : Nat) :
    (Op.equalIn (d + 1) t (.pointer (some ⟨b, x, none⟩)) (.pointer (some ⟨b, y, none⟩))).run P w = .ok (decide (x = y)) w := by
  have hd : ((⟨b, x, none⟩ : Addr) == ⟨b, y, none⟩) = decide (x = y) := by
    by_cases e : x = y
    · rw [e]; simp
    · have : (⟨b, x, none⟩ : Addr) ≠ ⟨b, y, none⟩ := fun h => e (congrArg Addr.off h)
      rw [decide_eq_false e]; simpa using this
  simp only [Op.equalIn, run_bind, run_underlying hu, run_sizeOf hi, ne_eq, hs, not_false_eq_true, if_true, sameAddr, beq_self_eq_true, hd, run_pure]
theorem eqIn_s1 {P : Program} {t el : TypeId} (hu : P.underlying t = some (.slice el)) (n c m k : Nat) (b : Option Addr) (w : World) (d : Nat) : (Op.equalIn (d + 1) t (.slice none n c) (.slice b m k)).run P w = .ok b.isNone w := by
  simp only [Op.equalIn, run_bind, run_underlying hu, run_pure]
theorem eqIn_s2 {P : Program} {t el : TypeId} (hu : P.underlying t = some (.slice el)) (n c m k : Nat) (a : Addr) (w : World) (d : Nat) : (Op.equalIn (d + 1) t (.slice (some a) n c) (.slice none m k)).run P w = .ok false w := by
  simp only [Op.equalIn, run_bind, run_underlying hu, run_pure]
theorem eqIn_m1 {P : Program} {t k el : TypeId} (hu : P.underlying t = some (.map k el)) (b : Option Nat) (w : World) (d : Nat) : (Op.equalIn (d + 1) t (.map none) (.map b)).run P w = .ok b.isNone w := by
  simp only [Op.equalIn, run_bind, run_underlying hu, run_pure]
theorem eqIn_m2 {P : Program} {t k el : TypeId} (hu : P.underlying t = some (.map k el)) (b : Nat) (w : World) (d : Nat) : (Op.equalIn (d + 1) t (.map (some b)) (.map none)).run P w = .ok false w := by
  simp only [Op.equalIn, run_bind, run_underlying hu, run_pure]
theorem eqIn_f1 {P : Program} {t : TypeId} {ps rs : Array TypeId} {v : Bool} (hu : P.underlying t = some (.func ps rs v)) (f : Fn) (a b : Array Value) (w : World) (d : Nat) : (Op.equalIn (d + 1) t .nilFunc (.func f a b)).run P w = .ok false w := by
  simp only [Op.equalIn, run_bind, run_underlying hu, run_pure]
theorem eqIn_f2 {P : Program} {t : TypeId} {ps rs : Array TypeId} {v : Bool} (hu : P.underlying t = some (.func ps rs v)) (f : Fn) (a b : Array Value) (w : World) (d : Nat) : (Op.equalIn (d + 1) t (.func f a b) .nilFunc).run P w = .ok false w := by
  simp only [Op.equalIn, run_bind, run_underlying hu, run_pure]

theorem eq_sound {φ : Phi} {P : Program} {t : TypeId} {x y x' y' : Value} {k : Bool → Prop} {other : Prop} (hk : eqK P t x y k other) (hx : VR φ x x') (hy : VR φ y y') :
    other ∨ ∃ r, k r ∧ (∀ w : World, (Op.equal t x' y').run P w = .ok r w) ∧ Other x' := by
  have ptr : ∀ {a : Addr} {v' : Value}, VR φ (.pointer (some a)) v' → ∃ a', v' = .pointer (some a') := fun h => by
    obtain ⟨a', e, _⟩ := VR_addA h; exact ⟨a', e⟩
  have sl : ∀ {a : Addr} {n c : Nat} {v' : Value}, VR φ (.slice (some a) n c) v' → ∃ a' n' c', v' = .slice (some a') n' c' := fun {a n c v'} h => by
    cases hs : a.spot with
    | none => exact ⟨_, _, _, VR_slice_none hs h⟩
    | some s => obtain ⟨p, c', o', _, e, _⟩ := VR_slice_some hs h; exact ⟨_, _, _, e⟩
  have oP : ∀ a, Other (.pointer a) := fun a => ⟨by simp, by simp, by simp, by simp, by simp, by simp⟩
  have oS : ∀ a n c, Other (.slice a n c) := fun a n c => ⟨by simp, by simp, by simp, by simp, by simp, by simp⟩
  have oM : ∀ a, Other (.map a) := fun a => ⟨by simp, by simp, by simp, by simp, by simp, by simp⟩
  have oF : ∀ a b c, Other (.func a b c) := fun a b c => ⟨by simp, by simp, by simp, by simp, by simp, by simp⟩
  have oN : Other .nilFunc := ⟨by simp, by simp, by simp, by simp, by simp, by simp⟩
  unfold eqK at hk
  split at hk
  · obtain ⟨a', rfl⟩ := ptr hy
    have e : x' = .pointer none := by simpa [VR] using hx
    subst e
    split at hk
    · rename_i el hu
      exact .inr ⟨_, hk, (fun w => equal_of fun d => eqIn_p1 hu (some a') w d), oP _⟩
    · exact hk.elim
  · obtain ⟨a', rfl⟩ := ptr hx
    have e : y' = .pointer none := by simpa [VR] using hy
    subst e
    split at hk
    · rename_i el hu
      exact .inr ⟨_, hk, (fun w => equal_of fun d => eqIn_p2 hu a' w d), oP _⟩
    · exact hk.elim
  · rename_i a b
    split at hk
    · rename_i el hu
      split at hk
      · rename_i i hi
        split at hk
        · exact hk.elim
        · rename_i m hm
          obtain ⟨hc, hk⟩ := cond_prop hk
          simp only [Bool.and_eq_true] at hc
          obtain ⟨⟨c1, c2⟩, c3⟩ := hc
          have c3 := Nat.eq_of_beq_eq_true c3
          obtain ⟨s1, h1⟩ := Option.isSome_iff_exists.1 c1
          obtain ⟨s2, h2⟩ := Option.isSome_iff_exists.1 c2
          obtain ⟨p, hp, rfl⟩ := VR_ptr_some h1 hx
          obtain ⟨q, hq, rfl⟩ := VR_ptr_some h2 hy
          rw [c3] at hp
          rw [hp] at hq
          cases hq
          refine .inr ⟨_, hk, fun w => ?_, oP _⟩
          have := equal_of fun d => eqIn_p3 (P := P) hu hi (by omega) p.b (p.sh + a.off) (p.sh + b.off) w d
          rw [this]
          congr 1
          simp
      · exact hk.elim
    · exact hk.elim
  · obtain ⟨a', n', c', rfl⟩ := sl hy
    rename_i n c a m cc
    have e : x' = .slice none n c := by simpa [VR] using hx
    subst e
    split at hk
    · rename_i el hu
      exact .inr ⟨_, hk, (fun w => equal_of fun d => eqIn_s1 hu _ _ _ _ (some a') w d), oS _ _ _⟩
    · exact hk.elim
  · obtain ⟨a', n', c', rfl⟩ := sl hx
    rename_i a m cc n c
    have e : y' = .slice none n c := by simpa [VR] using hy
    subst e
    split at hk
    · rename_i el hu
      exact .inr ⟨_, hk, (fun w => equal_of fun d => eqIn_s2 hu _ _ _ _ a' w d), oS _ _ _⟩
    · exact hk.elim
  · have e : x' = .map none := by simpa [VR] using hx
    subst e
    simp only [VR] at hy
    obtain ⟨p, _, rfl⟩ := hy
    split at hk
    · rename_i el el2 hu
      exact .inr ⟨_, hk, (fun w => equal_of fun d => eqIn_m1 hu (some _) w d), oM _⟩
    · exact hk.elim
  · have e : y' = .map none := by simpa [VR] using hy
    subst e
    simp only [VR] at hx
    obtain ⟨p, _, rfl⟩ := hx
    split at hk
    · rename_i el el2 hu
      exact .inr ⟨_, hk, (fun w => equal_of fun d => eqIn_m2 hu _ w d), oM _⟩
    · exact hk.elim
  · have e : x' = .nilFunc := by simpa [VR] using hx
    subst e
    obtain ⟨f', c', rfl, _, _⟩ := hy
    split at hk
    · rename_i hu
      exact .inr ⟨_, hk, (fun w => equal_of fun d => eqIn_f1 hu _ _ _ w d), oN⟩
    · exact hk.elim
  · have e : y' = .nilFunc := by simpa [VR] using hy
    subst e
    obtain ⟨f', c', rfl, _, _⟩ := hx
    split at hk
    · rename_i hu
      exact .inr ⟨_, hk, (fun w => equal_of fun d => eqIn_f2 hu _ _ _ w d), oF _ _ _⟩
    · exact hk.elim
  · exact .inl hk

theorem bin_sound {φ : Phi} {P : Program} {op : BinOp} {t : TypeId} {x y x' y' : Value} {ox oy : Operand} {k : Value → Prop} {other : Prop} (hk : binK P op t x y k other) (hx : VR φ x x') (hy : VR φ y y') :
    other ∨ ∃ v v', k v ∧ VR φ v v' ∧ ∀ w : World, ((eqGuard op t ox oy x' y' >>= fun _ => binOp op t x' y') : Sem Value).run P w = .ok v' w := by
  have num : ∀ {v v' : Value}, k v → VR φ v v' → (op ≠ .eql ∧ op ≠ .neq) → (∀ w : World, (binOp op t x' y').run P w = .ok v' w) →
      ∃ v v', k v ∧ VR φ v v' ∧ ∀ w : World, ((eqGuard op t ox oy x' y' >>= fun _ => binOp op t x' y') : Sem Value).run P w = .ok v' w := fun h1 h2 h3 h4 =>
    ⟨_, _, h1, h2, fun w => by rw [run_bind, run_eqGuard w (.inl h3)]; exact h4 w⟩
  unfold binK at hk
  split at hk
  · split at hk
    · rename_i kd a kd' b
      obtain ⟨hc, hk⟩ := cond_prop hk
      simp only [decide_eq_true_eq] at hc
      rw [VR_int hx, VR_int hy] at num ⊢
      refine .inr (num hk ((VR_flat φ _ _ rfl).2 rfl) ⟨by simp, by simp⟩ fun w => ?_)
      simp only [binOp, Op.shift, if_neg (show ¬ b < 0 by omega), run_pure]
    · exact hk.elim
  · split at hk
    · rename_i kd a kd' b
      obtain ⟨hc, hk⟩ := cond_prop hk
      simp only [decide_eq_true_eq] at hc
      rw [VR_int hx, VR_int hy] at num ⊢
      refine .inr (num hk ((VR_flat φ _ _ rfl).2 rfl) ⟨by simp, by simp⟩ fun w => ?_)
      simp only [binOp, Op.shift, if_neg (show ¬ b < 0 by omega), run_pure]
    · exact hk.elim
  · split at hk
    · rename_i kd a kd' b
      obtain ⟨hc, hk⟩ := cond_prop hk
      simp only [Bool.and_eq_true, decide_eq_true_eq, Bool.not_eq_true', decide_eq_false_iff_not] at hc
      obtain ⟨e0, hb⟩ := hc
      rw [VR_int hx, VR_int hy] at num ⊢
      refine .inr (num hk ((VR_flat φ _ _ rfl).2 rfl) ⟨by simp, by simp⟩ fun w => ?_)
      simp only [binOp, ← e0, ne_eq, not_true_eq_false, if_false, Op.intDiv, if_neg hb, run_pure]
    · exact hk.elim
  · split at hk
    · rename_i kd a kd' b
      obtain ⟨hc, hk⟩ := cond_prop hk
      simp only [Bool.and_eq_true, decide_eq_true_eq, Bool.not_eq_true', decide_eq_false_iff_not] at hc
      obtain ⟨e0, hb⟩ := hc
      rw [VR_int hx, VR_int hy] at num ⊢
      refine .inr (num hk ((VR_flat φ _ _ rfl).2 rfl) ⟨by simp, by simp⟩ fun w => ?_)
      simp only [binOp, ← e0, ne_eq, not_true_eq_false, if_false, Op.intDiv, if_neg hb, run_pure]
    · exact hk.elim
  · split at hk
    · rename_i a b
      obtain ⟨hc, hk⟩ := cond_prop hk
      simp only [decide_eq_true_eq] at hc
      have e1 : x' = .string a := by simpa [VR] using hx
      have e2 : y' = .string b := by simpa [VR] using hy
      subst e1; subst e2
      refine .inr (num hk ((VR_flat φ _ _ rfl).2 rfl) ⟨by simp, by simp⟩ fun w => ?_)
      simp only [binOp, Op.stringOp, if_neg (show ¬ ((a.size + b.size : Nat) : Int) > IntKind.i64.max by omega), run_pure]
    · exact .inl hk
  · rcases eq_sound hk hx hy with h | ⟨r, h1, h2, h3⟩
    · exact .inl h
    · refine .inr ⟨_, .bool r, h1, (VR_flat φ _ _ rfl).2 rfl, fun w => ?_⟩
      rw [run_bind, run_eqGuard w (.inr ⟨h3.2.2.2.2.1, h3.2.2.2.2.2⟩)]
      exact (run_eq_of (h2 w) h3.1 h3.2.1 h3.2.2.1 h3.2.2.2.1).1
  · rcases eq_sound hk hx hy with h | ⟨r, h1, h2, h3⟩
    · exact .inl h
    · refine .inr ⟨_, .bool !r, h1, (VR_flat φ _ _ rfl).2 rfl, fun w => ?_⟩
      rw [run_bind, run_eqGuard w (.inr ⟨h3.2.2.2.2.1, h3.2.2.2.2.2⟩)]
      exact (run_eq_of (h2 w) h3.1 h3.2.1 h3.2.2.1 h3.2.2.2.1).2
  · exact .inl hk
end Go.Am
