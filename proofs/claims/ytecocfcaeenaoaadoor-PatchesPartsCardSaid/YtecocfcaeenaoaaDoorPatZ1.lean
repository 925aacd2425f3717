/-
  Patches: what is active, a new store, Reset, a load where the power fails. Own work; plain mathematics.
-/
import Derived.Test.YtecocfcaeenaoaaDoorPatY
namespace Go.Am.Pat
open Go Go.Am Go.Am.Ham Go.Am.Mem Go.Proofs
set_option maxRecDepth 100000

theorem strEq_refl (s : ByteArray) : strEq s s = true := by
  unfold strEq
  generalize s.data.toList = l
  induction l with
  | nil => rfl
  | cons x r ih => rw [eqLB, ih, Bool.and_true]; exact Nat.beq_refl _
section
variable {s : Sto} {m : Mem} {n : Nat} {V E : Nat → Nat} {I : Int → Option Bk}
theorem Sta.ac (S : Sta s m n V E I) : ∃ E', Sta s (acM s m) n V E' I ∧ Less E' E ∧ Sm m (acM s m) := by
  obtain ⟨E', v, l, sm, _⟩ := act_one S
  exact ⟨E', ⟨S.o, S.f, v, S.i0, S.i1, S.small⟩, l, sm⟩
/-- The bank with the greater generation is active. -/
theorem act_is (S : Sta s m n V E I) {c : Int} {p : Bk} (hc : c = 0 ∨ c = 1) (hp : I c = some p) (hv : Val s E c (I c)) (ho : ∀ q, I (1 - c) = some q → q.g < p.g) : acN s m = some c ∧ isB s m ((p.id : Nat) : Int) p.d ((p.g : Nat) : Int) = true := by
  obtain ⟨_, _, _, _, h⟩ := act_one S
  have fin : acN s m = some c ∧ acW s m = hdrL p.g p.id p.d ∧ acD s m = p.d := by
    rcases h with ⟨a, b, h⟩ | ⟨q, hq, a, b, h, hw, hd⟩ | ⟨q, hq, a, b, h, hw, hd⟩
    · rcases hc with rfl | rfl
      · exact absurd hv a
      · exact absurd hv b
    · rcases hc with rfl | rfl
      · rw [hp] at hq; cases hq; exact ⟨h, hw, hd⟩
      · have h1 := ho q hq
        have h2 := b hv p hp
        omega
    · rcases hc with rfl | rfl
      · have h1 := ho q hq
        have h2 := b hv p hp
        omega
      · rw [hp] at hq; cases hq; exact ⟨h, hw, hd⟩
  refine ⟨fin.1, ?_⟩
  rw [isB_some fin.1, fin.2.1, fin.2.2, strEq_refl, show wN (hdrL p.g p.id p.d) 1 = ((p.id : Nat) : Int) from rfl, show wN (hdrL p.g p.id p.d) 0 = ((p.g : Nat) : Int) from rfl, decide_eq_true rfl, decide_eq_true rfl]; rfl
theorem Val.zero {b : Int} {J : Option Bk} (h : ∀ j, j < n → E j ≠ 2) (hj : J ≠ none) (hn : ∀ p, J = some p → rdA0 s b + (5 + lenW p.d.size) ≤ n) : Val s E b J := by
  cases J with
  | none => exact absurd rfl hj
  | some p => exact fun j hj => h _ (by have := hn p rfl; omega)
theorem Sta.room (S : Sta s m n V E I) {b : Int} (hb : b = 0 ∨ b = 1) {p : Bk} (hp : I b = some p) : rdA0 s b + (5 + lenW p.d.size) ≤ n := by
  have i := S.inf hb
  rw [hp] at i
  have hl := lenW_le (HasP.size (i : HasP s V (rdA0 s b) p.g p.id p.d))
  obtain ⟨_, _, h1, h2⟩ := banks S.o S.f
  rcases hb with rfl | rfl <;> omega
/-- All words are clean. -/
def Cl (n : Nat) (E : Nat → Nat) : Prop := ∀ j, j < n → E j = 0
theorem Cl.less {E' : Nat → Nat} (h : Cl n E) (l : Less E' E) : Cl n E' := fun j hj => l.zero (h j hj)
theorem Cl.val (h : Cl n E) (S : Sta s m n V E I) {b : Int} (hb : b = 0 ∨ b = 1) {p : Bk} (hp : I b = some p) : Val s E b (I b) :=
  Val.zero (fun j hj => by rw [h j hj]; omega) (by rw [hp]; exact fun h => by cases h) fun q hq => by rw [hp] at hq; cases hq; exact S.room hb hp
end

/-! ### a new memory, Reset -/
theorem new_vw {n : Nat} {sf : Int} (h1 : 1 ≤ n) (h2 : n ≤ 16384) (h3 : 0 ≤ sf) (h4 : sf ≤ n) : Vw (newM n sf) n (fun _ => 0) (fun _ => 0) :=
  ⟨ok_newM h1 h2 h3 h4, rfl, fun _ _ => by show 0 < 2 ^ 32; omega, fun i hi => Or.inl ⟨rfl, by rw [new_at hi, enc_eq, encR_zero]⟩, Or.inl (by show (-1 : Int) < 0; omega)⟩
theorem reset_vw {m : Mem} {n : Nat} {V E : Nat → Nat} (v : Vw m n V E) : Vw (resetM m) n (fun j => if j < m.safe.toNat then V j else 0) (fun j => if j < m.safe.toNat then E j else 0) ∧ (resetM m).fuse = -1 ∧ (resetM m).safe = m.safe := by
  refine ⟨⟨ok_reset v.ok, v.num, fun j hj => ?_, fun j hj => ?_, Or.inl (by show (-1 : Int) < 0; omega)⟩, rfl, rfl⟩
  · show (if j < m.safe.toNat then V j else 0) < _
    split
    · exact v.lt j hj
    · omega
  · have : wordAt (resetM m) j = wordAt (zeroFrom m m.safe.toNat) j := rfl
    rw [this, zero_at v.ok (by rw [v.num]; exact hj)]
    show Hw _ (if j < m.safe.toNat then V j else 0) (if j < m.safe.toNat then E j else 0)
    split
    · exact v.at_ j hj
    · exact Or.inl ⟨rfl, by rw [enc_eq, encR_zero]⟩
theorem fuse_vw {m : Mem} {n : Nat} {V E : Nat → Nat} (v : Vw m n V E) (h : Cl n E) (k : Int) : Vw (fuseS m k) n V E := by
  unfold fuseS
  split
  · exact v
  · exact ⟨ok_same v.ok rfl rfl rfl rfl, v.num, v.lt, v.at_, Or.inr fun j hj => by rw [h j hj]; omega⟩

/-! ### where the power fails -/
structure Wk (m : Mem) (n : Nat) (V0 : Nat → Nat) (A L f : Nat) (sf : Int) : Prop where
  ex : ∃ V, Vw m n V (fun _ => 0) ∧ (∀ j, j < A ∨ A + L ≤ j → V j = V0 j) ∧ V A = 0
  fuse : m.fuse = ((f : Nat) : Int)
  safe : m.safe = sf
  le : f ≤ 1000000
section
variable {m : Mem} {n : Nat} {V0 : Nat → Nat} {A L f : Nat} {sf : Int} (h : Wk m n V0 A L f sf)
include h
theorem Wk.store {i w : Nat} (hi : A ≤ i ∧ i < A + L) (hn : A + L ≤ n) (hw : f = 0 ∨ w < 2 ^ 32) (h0 : i = A → w = 0 ∨ f = 0) : Wk (storeM m i (encN w)) n V0 A L (f - 1) sf := by
  obtain ⟨⟨V, v, ha, hz⟩, hf, hs, hle⟩ := h
  by_cases e : f = 0
  · have hst : storeM m i (encN w) = { m with bl := true } := by unfold storeM; rw [if_pos (by omega)]
    rw [hst]
    exact ⟨⟨V, ⟨ok_same v.ok rfl rfl rfl rfl, v.num, v.lt, v.at_, Or.inr fun _ _ => by show (0 : Nat) ≠ 1; omega⟩, ha, hz⟩, by show m.fuse = _; omega, hs, by omega⟩
  · obtain ⟨v1, s1, _⟩ := v.store (i := i) (w := w) (c := 0) (by omega) (by rcases hw with h | h; exact absurd h e; exact h) (Or.inr ⟨by omega, by omega⟩)
    refine ⟨⟨_, v1.congr (fun _ _ => rfl) (fun j _ => ?_), fun j hj => ?_, ?_⟩, ?_, s1.safe.trans hs, by omega⟩
    · show 0 = upd _ i 0 j; unfold upd; split <;> rfl
    · rw [upd_ne _ _ (by omega)]; exact ha j hj
    · by_cases e' : i = A
      · subst e'
        rw [upd_at]
        rcases h0 rfl with h | h
        · exact h
        · exact absurd h e
      · rw [upd_ne _ _ (fun x => e' x.symm)]; exact hz
    · rw [s1.fuse]; unfold fzN; rw [if_neg (by omega), hf]; omega
theorem Wk.write {a : Int} {i w : Nat} (ha : a = ((i : Nat) : Int)) (hi : A ≤ i ∧ i < A + L) (hn : A + L ≤ n) (hw : f = 0 ∨ w < 2 ^ 32) (h0 : i = A → w = 0 ∨ f = 0) : Wk (writeS m a w) n V0 A L (f - 1) sf := by
  obtain ⟨V, v, _⟩ := h.ex
  have : writeS m a w = storeM m i (encN w) := by
    unfold writeS; rw [inM_iff.2 (by rw [v.num]; omega)]; show storeM m a.toNat _ = _; rw [ha, Int.toNat_natCast]
  rw [this]; exact h.store hi hn hw h0
omit h in
theorem Wk.wb (s : ByteArray) : ∀ (k : Nat) {m : Mem} {f : Nat} (a i : Nat), Wk m n V0 A L f sf → A < a → a + k ≤ A + L → A + L ≤ n → Wk (wbM k m a s i) n V0 A L (f - k) sf
  | 0, _, _, _, _, h, _, _, _ => h
  | k + 1, m, f, a, i, h, h1, h2, h3 => by
    have := Wk.wb s k (a + 1) (i + 4) (h.store (i := a) (w := wordB s i) ⟨by omega, by omega⟩ h3 (Or.inr (wordB_lt _ _)) (fun e => by omega)) (by omega) (by omega) h3
    rw [show f - 1 - k = f - (k + 1) by omega] at this
    exact this
theorem Wk.sm {m' : Mem} (he : ∀ V, Vw m n V (fun _ => 0) → ∃ E', Vw m' n V E' ∧ Less E' (fun _ => 0) ∧ Sm m m') : Wk m' n V0 A L f sf := by
  obtain ⟨⟨V, v, ha, hz⟩, hf, hs, hle⟩ := h
  obtain ⟨E', v', l, sm⟩ := he V v
  exact ⟨⟨V, v'.congr (fun _ _ => rfl) (fun j _ => (l.zero rfl).symm), ha, hz⟩, sm.fuse.trans hf, sm.safe.trans hs, hle⟩
theorem Wk.ac {s : Sto} (o : OkS s) (f2 : bankAt s 2 ≤ n) : Wk (acM s m) n V0 A L f sf := by
  refine h.sm fun V v => ?_
  have fit : Fits s m := by unfold Fits; rw [v.num]; exact f2
  obtain ⟨E1, v1, l1, s1, _⟩ := rd_vw o fit v (b := 0) (Or.inl rfl)
  obtain ⟨E2, v2, l2, s2, _⟩ := rd_vw o (fits_eq s1.n fit) v1 (b := 1) (Or.inr rfl)
  exact ⟨E2, v2, l1.trans l2, s1.trans s2⟩
theorem Wk.rb (a k : Int) : Wk (rbS m a k) n V0 A L f sf := by
  refine h.sm fun V v => ?_
  unfold rbS
  split
  · next hr =>
    have hk := room_n hr
    obtain ⟨r0, r1, r2⟩ := room_in hr hk
    rw [v.num] at r1
    obtain ⟨E', v', l, sm, _⟩ := rows_vw (lenW k.toNat) a.toNat v (by unfold lenW; omega)
    exact ⟨E', v', l, sm⟩
  · exact ⟨_, v, Less.refl _, Sm.refl _⟩
end
theorem ld_weak {s : Sto} {m : Mem} {n : Nat} {V0 : Nat → Nat} {f : Nat} {sf : Int} {d : ByteArray} {id : Nat} (o : OkS s) (f2 : bankAt s 2 ≤ n) (hd : ((d.size : Nat) : Int) ≤ s.size) (hid : id < 2 ^ 32) (h1 : otherN s m = 1)
    (h : Wk m n V0 (rdA0 s 1) (bkL s) f sf) (hf : f < 6 + lenW d.size) : (∃ f', Wk (ld6 s m ((id : Nat) : Int) d) n V0 (rdA0 s 1) (bkL s) f' sf) ∧ (∃ f', Wk (ldF s m d) n V0 (rdA0 s 1) (bkL s) f' sf) := by
  obtain ⟨_, B1, _, B3⟩ := banks o f2
  have hl := lenW_le hd
  have hz := o.z1
  have w1 := h.ac o f2
  have w2 : Wk (ld2 s m) n V0 (rdA0 s 1) (bkL s) (f - 1) sf := by
    unfold ld2; rw [h1]; exact w1.write B1 ⟨by omega, by omega⟩ B3 (Or.inr (by omega)) (fun _ => Or.inl rfl)
  have w3 : Wk (ld3 s m d) n V0 (rdA0 s 1) (bkL s) (f - 1 - lenW d.size) sf := by
    unfold ld3; rw [h1, B1]; exact Wk.wb d _ _ _ w2 (by omega) (by omega) B3
  have w4 : Wk (ld4 s m d) n V0 (rdA0 s 1) (bkL s) (f - 1 - lenW d.size) sf := w3.rb _ _
  have w5 : Wk (ld5 s m d) n V0 (rdA0 s 1) (bkL s) (f - 1 - lenW d.size) sf := w4.ac o f2
  refine ⟨?_, ?_⟩
  · have e : ld6 s m ((id : Nat) : Int) d = writeS (writeS (writeS (writeS (writeS (ld5 s m d) (bankAt s (otherN s m) + ((1 : Nat) : Int)) ((id : Nat) : Int).toNat) (bankAt s (otherN s m) + ((2 : Nat) : Int)) ((d.size : Nat) : Int).toNat) (bankAt s (otherN s m) + ((3 : Nat) : Int)) ((crcN 0 d : Nat) : Int).toNat)
        (bankAt s (otherN s m) + ((4 : Nat) : Int)) ((sealN (genN s (ld4 s m d) (otherN s m)) ((id : Nat) : Int) ((d.size : Nat) : Int) ((crcN 0 d : Nat) : Int) : Nat) : Int).toNat) (bankAt s (otherN s m) + ((0 : Nat) : Int)) (genN s (ld4 s m d) (otherN s m)).toNat := rfl
    rw [e, h1, B1]
    simp only [Int.toNat_natCast]
    have k1 := w5.write (a := ((rdA0 s 1 : Nat) : Int) + ((1 : Nat) : Int)) (i := rdA0 s 1 + 1) (w := id) (by omega) ⟨by omega, by unfold bkL; omega⟩ B3 (Or.inr hid) (fun e => by omega)
    have k2 := k1.write (a := ((rdA0 s 1 : Nat) : Int) + ((2 : Nat) : Int)) (i := rdA0 s 1 + 2) (w := d.size) (by omega) ⟨by omega, by unfold bkL; omega⟩ B3 (Or.inr (by omega)) (fun e => by omega)
    have k3 := k2.write (a := ((rdA0 s 1 : Nat) : Int) + ((3 : Nat) : Int)) (i := rdA0 s 1 + 3) (w := crcN 0 d) (by omega) ⟨by omega, by unfold bkL; omega⟩ B3 (Or.inr (crcN_lt (by decide) _)) (fun e => by omega)
    have k4 := k3.write (a := ((rdA0 s 1 : Nat) : Int) + ((4 : Nat) : Int)) (i := rdA0 s 1 + 4) (w := sealN (genN s (ld4 s m d) 1) ((id : Nat) : Int) ((d.size : Nat) : Int) ((crcN 0 d : Nat) : Int)) (by omega) ⟨by omega, by unfold bkL; omega⟩ B3 (Or.inr (crcN_lt (by decide) _)) (fun e => by omega)
    exact ⟨_, k4.write (a := ((rdA0 s 1 : Nat) : Int) + ((0 : Nat) : Int)) (i := rdA0 s 1) (w := (genN s (ld4 s m d) 1).toNat) (by omega) ⟨by omega, by unfold bkL; omega⟩ B3 (Or.inl (by omega)) (fun _ => Or.inr (by omega))⟩
  · unfold ldF
    split
    · exact ⟨_, w5⟩
    · exact ⟨_, w4⟩
end Go.Am.Pat
