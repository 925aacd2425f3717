/-
  The abstract machine, part 12: every operation. Own work; plain lemmas.
-/
import Derived.Laws.StructEq
import Derived.Test.YtjbagcmcpmhfnaaDoorAm11
namespace Go.Am
open Go

/-- Neither number nor string: '==' asks the types. -/
def Other (a : Value) : Prop := (∀ k n, a ≠ .int k n) ∧ (∀ k n, a ≠ .float k n) ∧ (∀ k n m, a ≠ .complex k n m) ∧ (∀ s, a ≠ .string s) ∧ a ≠ .nilIface ∧ ∀ c, a ≠ .agg c

theorem equal_of {P : Program} {t : TypeId} {x y : Value} {w : World} {r : Result Bool} (h : ∀ d, (Op.equalIn (d + 1) t x y).run P w = r) : (Op.equal t x y).run P w = r := h 9999
theorem eqIn_p1 {P : Program} {t el : TypeId} (hu : P.underlying t = some (.pointer el)) (b : Option Addr) (w : World) (d : Nat) : (Op.equalIn (d + 1) t (.pointer none) (.pointer b)).run P w = .ok b.isNone w := by
  simp only [Op.equalIn, run_bind, run_underlying hu, run_pure]
theorem eqIn_p2 {P : Program} {t el : TypeId} (hu : P.underlying t = some (.pointer el)) (a : Addr) (w : World) (d : Nat) : (Op.equalIn (d + 1) t (.pointer (some a)) (.pointer none)).run P w = .ok false w := by
  simp only [Op.equalIn, run_bind, run_underlying hu, run_pure]
theorem eqIn_p3 {P : Program} {t el : TypeId} {i : TypeInfo} (hu : P.underlying t = some (.pointer el)) (hi : P.info? el = some i) (hs : i.size ≠ 0) (b x y : Nat) (w : World) (d : Nat) :
    (Op.equalIn (d + 1) t (.pointer (some ⟨b, x, none⟩)) (.pointer (some ⟨b, y, none⟩))).run P w = .ok (decide (x = y)) w := by
  have hd : ((⟨b, x, none⟩ : Addr) == ⟨b, y, none⟩) = decide (x = y) := by
    by_cases e : x = y
    · rw [e]; simp
    · have : (⟨b, x, none⟩ : Addr) ≠ ⟨b, y, none⟩ := fun h => e (congrArg Addr.off h)
      rw [decide_eq_false e]; simpa using this
  simp only [Op.equalIn, run_bind, run_underlying hu, run_sizeOf hi, ne_eq, hs, not_false_eq_true, if_true, sameAddr, beq_self_eq_true, hd, run_pure]
theorem eqIn_s1 {P : Program} {t el : TypeId} (hu : P.underlying t = some (.slice el)) (n c m k : Nat) (b : Option Addr) (w : World) (d : Nat) : (Op.equalIn (d + 1) t (.slice none n c) (.slice b m k)).run P w = .ok b.isNone w := by
  simp only [Op.equalIn, run_bind, run_underlying hu, run_pure]
theorem eqIn_s2 {P : Program} {t el : TypeId} (hu : P.underlying t = some (.slice el)) (n c m k : Nat) (a : Addr) (w : World) (d : Nat) : (Op.equalIn (d + 1) t (.slice (some a) n c) (.slice none m k)).run P w = .ok false w := by
  simp only [Op.equalIn, run_bind, run_underlying hu, run_pure]
theorem eqIn_m1 {P : Program} {t k el : TypeId} (hu : P.underlying t = some (.map k el)) (b : Option Nat) (w : World) (d : Nat) : (Op.equalIn (d + 1) t (.map none) (.map b)).run P w = .ok b.isNone w := by
  simp only [Op.equalIn, run_bind, run_underlying hu, run_pure]
theorem eqIn_m2 {P : Program} {t k el : TypeId} (hu : P.underlying t = some (.map k el)) (b : Nat) (w : World) (d : Nat) : (Op.equalIn (d + 1) t (.map (some b)) (.map none)).run P w = .ok false w := by
  simp only [Op.equalIn, run_bind, run_underlying hu, run_pure]
theorem eqIn_f1 {P : Program} {t : TypeId} {ps rs : Array TypeId} {v : Bool} (hu : P.underlying t = some (.func ps rs v)) (f : Fn) (a b : Array Value) (w : World) (d : Nat) : (Op.equalIn (d + 1) t .nilFunc (.func f a b)).run P w = .ok false w := by
  simp only [Op.equalIn, run_bind, run_underlying hu, run_pure]
theorem eqIn_f2 {P : Program} {t : TypeId} {ps rs : Array TypeId} {v : Bool} (hu : P.underlying t = some (.func ps rs v)) (f : Fn) (a b : Array Value) (w : World) (d : Nat) : (Op.equalIn (d + 1) t (.func f a b) .nilFunc).run P w = .ok false w := by
  simp only [Op.equalIn, run_bind, run_underlying hu, run_pure]

theorem eq_sound {φ : Phi} {P : Program} {t : TypeId} {x y x' y' : Value} {k : Bool → Prop} {other : Prop} (hk : eqK P t x y k other) (hx : VR φ x x') (hy : VR φ y y') :
    other ∨ ∃ r, k r ∧ (∀ w : World, (Op.equal t x' y').run P w = .ok r w) ∧ Other x' := by
  have ptr : ∀ {a : Addr} {v' : Value}, VR φ (.pointer (some a)) v' → ∃ a', v' = .pointer (some a') := fun h => by
    obtain ⟨a', e, _⟩ := VR_addA h; exact ⟨a', e⟩
  have sl : ∀ {a : Addr} {n c : Nat} {v' : Value}, VR φ (.slice (some a) n c) v' → ∃ a' n' c', v' = .slice (some a') n' c' := fun {a n c v'} h => by
    cases hs : a.spot with
    | none => exact ⟨_, _, _, VR_slice_none hs h⟩
    | some s => obtain ⟨p, c', o', _, e, _⟩ := VR_slice_some hs h; exact ⟨_, _, _, e⟩
  have oP : ∀ a, Other (.pointer a) := fun a => ⟨by simp, by simp, by simp, by simp, by simp, by simp⟩
  have oS : ∀ a n c, Other (.slice a n c) := fun a n c => ⟨by simp, by simp, by simp, by simp, by simp, by simp⟩
  have oM : ∀ a, Other (.map a) := fun a => ⟨by simp, by simp, by simp, by simp, by simp, by simp⟩
  have oF : ∀ a b c, Other (.func a b c) := fun a b c => ⟨by simp, by simp, by simp, by simp, by simp, by simp⟩
  have oN : Other .nilFunc := ⟨by simp, by simp, by simp, by simp, by simp, by simp⟩
  unfold eqK at hk
  split at hk
  · obtain ⟨a', rfl⟩ := ptr hy
    have e : x' = .pointer none := by simpa [VR] using hx
    subst e
    split at hk
    · rename_i el hu
      exact .inr ⟨_, hk, (fun w => equal_of fun d => eqIn_p1 hu (some a') w d), oP _⟩
    · exact hk.elim
  · obtain ⟨a', rfl⟩ := ptr hx
    have e : y' = .pointer none := by simpa [VR] using hy
    subst e
    split at hk
    · rename_i el hu
      exact .inr ⟨_, hk, (fun w => equal_of fun d => eqIn_p2 hu a' w d), oP _⟩
    · exact hk.elim
  · rename_i a b
    split at hk
    · rename_i el hu
      split at hk
      · rename_i i hi
        split at hk
        · exact hk.elim
        · rename_i m hm
          obtain ⟨hc, hk⟩ := cond_prop hk
          simp only [Bool.and_eq_true] at hc
          obtain ⟨⟨c1, c2⟩, c3⟩ := hc
          have c3 := Nat.eq_of_beq_eq_true c3
          obtain ⟨s1, h1⟩ := Option.isSome_iff_exists.1 c1
          obtain ⟨s2, h2⟩ := Option.isSome_iff_exists.1 c2
          obtain ⟨p, hp, rfl⟩ := VR_ptr_some h1 hx
          obtain ⟨q, hq, rfl⟩ := VR_ptr_some h2 hy
          rw [c3] at hp
          rw [hp] at hq
          cases hq
          refine .inr ⟨_, hk, fun w => ?_, oP _⟩
          have := equal_of fun d => eqIn_p3 (P := P) hu hi (by omega) p.b (p.sh + a.off) (p.sh + b.off) w d
          rw [this]
          congr 1
          simp
      · exact hk.elim
    · exact hk.elim
  · obtain ⟨a', n', c', rfl⟩ := sl hy
    rename_i n c a m cc
    have e : x' = .slice none n c := by simpa [VR] using hx
    subst e
    split at hk
    · rename_i el hu
      exact .inr ⟨_, hk, (fun w => equal_of fun d => eqIn_s1 hu _ _ _ _ (some a') w d), oS _ _ _⟩
    · exact hk.elim
  · obtain ⟨a', n', c', rfl⟩ := sl hx
    rename_i a m cc n c
    have e : y' = .slice none n c := by simpa [VR] using hy
    subst e
    split at hk
    · rename_i el hu
      exact .inr ⟨_, hk, (fun w => equal_of fun d => eqIn_s2 hu _ _ _ _ a' w d), oS _ _ _⟩
    · exact hk.elim
  · have e : x' = .map none := by simpa [VR] using hx
    subst e
    simp only [VR] at hy
    obtain ⟨p, _, rfl⟩ := hy
    split at hk
    · rename_i el el2 hu
      exact .inr ⟨_, hk, (fun w => equal_of fun d => eqIn_m1 hu (some _) w d), oM _⟩
    · exact hk.elim
  · have e : y' = .map none := by simpa [VR] using hy
    subst e
    simp only [VR] at hx
    obtain ⟨p, _, rfl⟩ := hx
    split at hk
    · rename_i el el2 hu
      exact .inr ⟨_, hk, (fun w => equal_of fun d => eqIn_m2 hu _ w d), oM _⟩
    · exact hk.elim
  · have e : x' = .nilFunc := by simpa [VR] using hx
    subst e
    obtain ⟨f', c', rfl, _, _⟩ := hy
    split at hk
    · rename_i hu
      exact .inr ⟨_, hk, (fun w => equal_of fun d => eqIn_f1 hu _ _ _ w d), oN⟩
    · exact hk.elim
  · have e : y' = .nilFunc := by simpa [VR] using hy
    subst e
    obtain ⟨f', c', rfl, _, _⟩ := hx
    split at hk
    · rename_i hu
      exact .inr ⟨_, hk, (fun w => equal_of fun d => eqIn_f2 hu _ _ _ w d), oF _ _ _⟩
    · exact hk.elim
  · exact .inl hk

theorem eqLB_eq : ∀ a b : List UInt8, eqLB a b = (a == b)
  | [], [] => rfl
  | [], _ :: _ => rfl
  | _ :: _, [] => rfl
  | a :: x, b :: y => by
    rw [eqLB, eqLB_eq x y, List.cons_beq_cons]
    congr 1
    rw [Bool.eq_iff_iff, Nat.beq_eq, beq_iff_eq]
    exact ⟨fun h => UInt8.toNat_inj.1 h, fun h => by rw [h]⟩
theorem strEq_toList (a b : ByteArray) : strEq a b = (a.toList == b.toList) := by
  rw [strEq, eqLB_eq, ByteArray.toList_eq, ByteArray.toList_eq]
theorem strEq_iff {a b : ByteArray} : strEq a b = true ↔ a = b := by
  rw [strEq, eqLB_eq, beq_iff_eq]
  constructor
  · intro h
    cases a; cases b
    congr 1
    exact Array.toList_inj.1 h
  · rintro rfl; rfl
theorem strEq_self (a : ByteArray) : strEq a a = true := strEq_iff.2 rfl
theorem partO_run {P : Program} {t : TypeId} {xs : Array Value} {off : Nat} {v : Value} (h : partO P t xs.toList off = some v) (w : World) : (part t xs off).run P w = .ok v w := by
  unfold partO at h
  split at h
  · rename_i ha
    split at h
    · rename_i i hi
      cases h
      simp only [part, run_bind, run_isAgg ha, if_true, run_sizeOf hi, run_pure]
      congr 2
      apply Array.toList_inj.1
      simp [cellsAt, Array.toList_extract, List.take_drop]
    · cases h
  · rename_i ha
    have : xs[off]? = some v := by simpa using h
    simp only [part, run_bind, run_isAgg ha, Bool.false_eq_true, if_false, this, run_pure]
  · cases h
theorem eqFs_run {P : Program} {d : Nat} {q : TypeId → Value → Value → Option Bool} (hq : ∀ (t : TypeId) (x y : Value) (b : Bool), q t x y = some b → ∀ w : World, (Op.equalIn d t x y).run P w = .ok b w) (xs ys : Array Value) :
    ∀ (fs : List Field) (b : Bool), eqFs P q xs.toList ys.toList fs = some b → ∀ w : World, (Op.eqFields d xs ys fs).run P w = .ok b w
  | [], b, h, w => by
    simp only [eqFs] at h; cases h; rfl
  | f :: r, b, h, w => by
    simp only [eqFs] at h
    by_cases hnm : f.name = "_"
    · rw [decide_eq_true hnm, cond_true] at h
      rw [Op.eqFields, if_neg (by simpa using hnm)]
      exact eqFs_run hq xs ys r b h w
    · rw [decide_eq_false hnm, cond_false] at h
      rw [Op.eqFields, if_pos hnm]
      split at h
      · rename_i a ha
        split at h
        · rename_i c hc
          split at h
          · rename_i p hp
            split at h
            · rename_i q' hq'
              cases h
              have e1 := partO_run ha w
              have e2 := partO_run hc w
              have e3 := hq f.type a c p hp w
              have e4 := eqFs_run hq xs ys r q' hq' w
              simp only [run_bind, e1, e2, e3]
              cases p
              · rfl
              · simpa using e4
            · cases h
          · cases h
        · cases h
      · cases h
theorem eqD_run {P : Program} : ∀ (d : Nat) (t : TypeId) (x y : Value) (b : Bool), eqD P d t x y = some b → ∀ (n : Nat), d ≤ n → ∀ w : World, (Op.equalIn n t x y).run P w = .ok b w
  | 0, _, _, _, _, h, _, _, _ => by simp [eqD] at h
  | d + 1, t, x, y, b, h, n, hn, w => by
    obtain ⟨m, rfl⟩ : ∃ m, n = m + 1 := ⟨n - 1, by omega⟩
    simp only [eqD] at h
    split at h
    · rename_i hu
      unfold eqB2 at h
      split at h
      · cases h; exact run_equalIn_bool' w m t _ _ hu
      · cases h
    · rename_i kd hu
      unfold eqI2 at h
      split at h
      · rename_i k a k' c
        by_cases hk : k = k'
        · subst hk
          rw [decide_eq_true rfl, cond_true] at h
          cases h
          rw [run_equalIn_int w m t _ kd _ _ hu]
          rw [show (a == c) = decide (a = c) from by rw [Bool.eq_iff_iff, beq_iff_eq, decide_eq_true_eq]]
        · rw [decide_eq_false hk, cond_false] at h; cases h
      · cases h
    · rename_i hu
      unfold eqS2 at h
      split at h
      · cases h
        rw [run_equalIn_string w m t _ _ hu, strEq_toList]
      · cases h
    · rename_i fs hu
      cases hs : P.stoodInHeld t with
      | true => rw [hs, cond_true] at h; exact absurd h (by simp)
      | false =>
        rw [hs, cond_false] at h
        unfold eqA2 at h
        split at h
        · rename_i xs ys
          have hf : P.fieldsOf t = fs := by simp only [Program.fieldsOf, hu]
          rw [run_equalIn_agg w m t xs ys (by rw [hf]; exact hu) hs, hf]
          exact eqFs_run (fun t x y b hb w => eqD_run d t x y b hb m (by omega) w) xs ys fs.toList b h w
        · cases h
    · cases h
theorem aggEq_sound {φ : Phi} {P : Program} {t : TypeId} {xs ys : Array Value} {x' y' : Value} {k : Bool → Prop} (hk : aggEqK P t xs ys k) (hx : VR φ (.agg xs) x') (hy : VR φ (.agg ys) y') :
    ∃ b, k b ∧ ∀ (ox oy : Operand) (w : World), ((eqGuard .eql t ox oy x' y' >>= fun _ => binOp .eql t x' y') : Sem Value).run P w = .ok (.bool b) w ∧ ((eqGuard .neq t ox oy x' y' >>= fun _ => binOp .neq t x' y') : Sem Value).run P w = .ok (.bool !b) w := by
  unfold aggEqK at hk
  cases hb : (P.eqGuardType P.depth t || !(flatA xs) || !(flatA ys)) with
  | true => rw [hb, cond_true] at hk; exact hk.elim
  | false =>
    rw [hb, cond_false] at hk
    simp only [Bool.or_eq_false_iff, Bool.not_eq_false'] at hb
    have e1 : x' = .agg xs := (VR_flat φ (.agg xs) x' hb.1.2).1 hx
    have e2 : y' = .agg ys := (VR_flat φ (.agg ys) y' hb.2).1 hy
    subst e1; subst e2
    split at hk
    · rename_i b h
      refine ⟨b, hk, fun ox oy w => ?_⟩
      have hr := eqD_run 100 t (.agg xs) (.agg ys) b h 10000 (by omega) w
      constructor
      · rw [run_bind, run_eqGuard_agg w .eql t ox oy xs ys hb.1.1]
        show (binOp .eql t (.agg xs) (.agg ys)).run P w = _
        rw [run_eql_struct, hr]; rfl
      · rw [run_bind, run_eqGuard_agg w .neq t ox oy xs ys hb.1.1]
        show (binOp .neq t (.agg xs) (.agg ys)).run P w = _
        rw [run_neq_struct, hr]; rfl
    · exact hk.elim
theorem strEq_run {P : Program} {t : TypeId} {ox oy : Operand} (a b : ByteArray) (w : World) : ((eqGuard .eql t ox oy (.string a) (.string b) >>= fun _ => binOp .eql t (.string a) (.string b)) : Sem Value).run P w = .ok (.bool (strEq a b)) w ∧
    ((eqGuard .neq t ox oy (.string a) (.string b) >>= fun _ => binOp .neq t (.string a) (.string b)) : Sem Value).run P w = .ok (.bool !strEq a b) w := by
  rw [strEq_toList]
  constructor <;> (rw [run_bind, run_eqGuard w (.inr ⟨by simp, by simp⟩)]; simp only [binOp, Op.stringOp, run_pure])

theorem bin_sound {φ : Phi} {P : Program} {op : BinOp} {t : TypeId} {x y x' y' : Value} {ox oy : Operand} {k : Value → Prop} {other : Prop} (hk : binK P op t x y k other) (hx : VR φ x x') (hy : VR φ y y') :
    other ∨ ∃ v v', k v ∧ VR φ v v' ∧ ∀ w : World, ((eqGuard op t ox oy x' y' >>= fun _ => binOp op t x' y') : Sem Value).run P w = .ok v' w := by
  have num : ∀ {v v' : Value}, k v → VR φ v v' → (op ≠ .eql ∧ op ≠ .neq) → (∀ w : World, (binOp op t x' y').run P w = .ok v' w) →
      ∃ v v', k v ∧ VR φ v v' ∧ ∀ w : World, ((eqGuard op t ox oy x' y' >>= fun _ => binOp op t x' y') : Sem Value).run P w = .ok v' w := fun h1 h2 h3 h4 =>
    ⟨_, _, h1, h2, fun w => by rw [run_bind, run_eqGuard w (.inl h3)]; exact h4 w⟩
  unfold binK at hk
  split at hk
  · split at hk
    · rename_i kd a kd' b
      obtain ⟨hc, hk⟩ := cond_prop hk
      simp only [decide_eq_true_eq] at hc
      rw [VR_int hx, VR_int hy] at num ⊢
      refine .inr (num hk ((VR_flat φ _ _ rfl).2 rfl) ⟨by simp, by simp⟩ fun w => ?_)
      simp only [binOp, Op.shift, if_neg (show ¬ b < 0 by omega), run_pure]
    · exact hk.elim
  · split at hk
    · rename_i kd a kd' b
      obtain ⟨hc, hk⟩ := cond_prop hk
      simp only [decide_eq_true_eq] at hc
      rw [VR_int hx, VR_int hy] at num ⊢
      refine .inr (num hk ((VR_flat φ _ _ rfl).2 rfl) ⟨by simp, by simp⟩ fun w => ?_)
      simp only [binOp, Op.shift, if_neg (show ¬ b < 0 by omega), run_pure]
    · exact hk.elim
  · split at hk
    · rename_i kd a kd' b
      obtain ⟨hc, hk⟩ := cond_prop hk
      simp only [Bool.and_eq_true, decide_eq_true_eq, Bool.not_eq_true', decide_eq_false_iff_not] at hc
      obtain ⟨e0, hb⟩ := hc
      rw [VR_int hx, VR_int hy] at num ⊢
      refine .inr (num hk ((VR_flat φ _ _ rfl).2 rfl) ⟨by simp, by simp⟩ fun w => ?_)
      simp only [binOp, ← e0, ne_eq, not_true_eq_false, if_false, Op.intDiv, if_neg hb, run_pure]
    · exact hk.elim
  · split at hk
    · rename_i kd a kd' b
      obtain ⟨hc, hk⟩ := cond_prop hk
      simp only [Bool.and_eq_true, decide_eq_true_eq, Bool.not_eq_true', decide_eq_false_iff_not] at hc
      obtain ⟨e0, hb⟩ := hc
      rw [VR_int hx, VR_int hy] at num ⊢
      refine .inr (num hk ((VR_flat φ _ _ rfl).2 rfl) ⟨by simp, by simp⟩ fun w => ?_)
      simp only [binOp, ← e0, ne_eq, not_true_eq_false, if_false, Op.intDiv, if_neg hb, run_pure]
    · exact hk.elim
  · split at hk
    · rename_i a b
      obtain ⟨hc, hk⟩ := cond_prop hk
      simp only [decide_eq_true_eq] at hc
      have e1 : x' = .string a := by simpa [VR] using hx
      have e2 : y' = .string b := by simpa [VR] using hy
      subst e1; subst e2
      refine .inr (num hk ((VR_flat φ _ _ rfl).2 rfl) ⟨by simp, by simp⟩ fun w => ?_)
      simp only [binOp, Op.stringOp, if_neg (show ¬ ((a.size + b.size : Nat) : Int) > IntKind.i64.max by omega), run_pure]
    · exact .inl hk
  · split at hk
    · rename_i a b
      have e1 : x' = .string a := by simpa [VR] using hx
      have e2 : y' = .string b := by simpa [VR] using hy
      subst e1; subst e2
      exact .inr ⟨_, _, hk, (VR_flat φ _ _ rfl).2 rfl, fun w => (strEq_run a b w).1⟩
    · obtain ⟨b, h1, h2⟩ := aggEq_sound hk hx hy
      exact .inr ⟨_, _, h1, (VR_flat φ _ _ rfl).2 rfl, fun w => (h2 ox oy w).1⟩
    · rcases eq_sound hk hx hy with h | ⟨r, h1, h2, h3⟩
      · exact .inl h
      · refine .inr ⟨_, .bool r, h1, (VR_flat φ _ _ rfl).2 rfl, fun w => ?_⟩
        rw [run_bind, run_eqGuard w (.inr ⟨h3.2.2.2.2.1, h3.2.2.2.2.2⟩)]
        exact (run_eq_of (h2 w) h3.1 h3.2.1 h3.2.2.1 h3.2.2.2.1).1
  · split at hk
    · rename_i a b
      have e1 : x' = .string a := by simpa [VR] using hx
      have e2 : y' = .string b := by simpa [VR] using hy
      subst e1; subst e2
      exact .inr ⟨_, _, hk, (VR_flat φ _ _ rfl).2 rfl, fun w => (strEq_run a b w).2⟩
    · obtain ⟨b, h1, h2⟩ := aggEq_sound hk hx hy
      exact .inr ⟨_, _, h1, (VR_flat φ _ _ rfl).2 rfl, fun w => (h2 ox oy w).2⟩
    · rcases eq_sound hk hx hy with h | ⟨r, h1, h2, h3⟩
      · exact .inl h
      · refine .inr ⟨_, .bool !r, h1, (VR_flat φ _ _ rfl).2 rfl, fun w => ?_⟩
        rw [run_bind, run_eqGuard w (.inr ⟨h3.2.2.2.2.1, h3.2.2.2.2.2⟩)]
        exact (run_eq_of (h2 w) h3.1 h3.2.1 h3.2.2.1 h3.2.2.2.1).2
  · exact .inl hk
end Go.Am
