/-
  Hamming: the code, as plain mathematics. Own work.
-/
import Derived.Test.YtjbagcmcpmhfnaaDoorHamP
namespace Go.Am.Ham
open Go Go.Am
set_option maxRecDepth 100000

theorem syn_of {n : Nat} (hn : n < 2 ^ 39) : onesX n = synB n.testBit 39 := by
  rw [onesX_syn n (by omega), show 64 = 39 + 25 from rfl, synB_cut _ 39 (fun i hi => testBit_big hn hi)]
theorem par_of {n : Nat} (hn : n < 2 ^ 39) : pcN n % 2 = parB n.testBit 39 := by
  rw [pcN_par n (by omega), parB_cnt, show 64 = 39 + 25 from rfl, cnt_cut _ 39 (fun i hi => testBit_big hn hi)]
theorem enc_eq (w : Nat) : encN w = encR w := by
  unfold encN encR
  have hA := encA_lt w 32
  rw [syn_of hA, par_of (encB_lt _ hA 6 (by omega))]
theorem dec_eq (c : Nat) : decN c = decR c := by
  unfold decN decR
  by_cases h : 2 ^ 39 ≤ c
  · rw [if_pos h, if_pos h]
  · have hc : c < 2 ^ 39 := by omega
    rw [if_neg h, if_neg h, syn_of hc, par_of hc]
    have := parB_le c.testBit 39
    by_cases h1 : synB c.testBit 39 = 0 ∧ parB c.testBit 39 = 0
    · rw [if_neg (by omega), if_pos (by omega), if_pos h1]
    · rw [if_neg h1]
      by_cases h2 : parB c.testBit 39 = 1 ∧ synB c.testBit 39 < 39
      · rw [if_pos h2, if_pos h2]
      · rw [if_neg h2, if_neg h2, if_neg (by omega)]

/-! ### bits -/
theorem bit_mul (b k p : Nat) (hb : b < 2) : (b * 2 ^ k).testBit p = (decide (b = 1) && decide (k = p)) := by
  rcases (by omega : b = 0 ∨ b = 1) with rfl | rfl
  · rw [Nat.zero_mul, Nat.zero_testBit]; rfl
  · rw [Nat.one_mul, Nat.testBit_two_pow]; rfl
theorem encA_bit (w p : Nat) : ∀ n, (encA w n).testBit p = true ↔ ∃ i, i < n ∧ plN i = p ∧ w.testBit i = true
  | 0 => by simp [encA]
  | n + 1 => by
    unfold encA
    rw [Nat.testBit_or, bit_mul _ _ _ (Nat.mod_lt _ (by omega)), Bool.or_eq_true, encA_bit w p n, Bool.and_eq_true, ← Nat.testBit_eq_decide_div_mod_eq, decide_eq_true_eq]
    constructor
    · rintro (⟨i, h1, h2, h3⟩ | ⟨h1, h2⟩)
      · exact ⟨i, by omega, h2, h3⟩
      · exact ⟨n, by omega, h2, h1⟩
    · rintro ⟨i, h1, h2, h3⟩
      by_cases h : i = n
      · subst h; exact .inr ⟨h3, h2⟩
      · exact .inl ⟨i, by omega, h2, h3⟩
theorem plN_inj : ∀ i j : Fin 32, plN i.val = plN j.val → i = j := by decide
theorem plN_chk : ∀ i : Fin 32, isChk (plN i.val) = false := by decide
theorem plN_onto : ∀ p : Fin 39, isChk p.val = false → ∃ i : Fin 32, plN i.val = p.val := by decide
theorem encA_at (w : Nat) {i : Nat} (hi : i < 32) : (encA w 32).testBit (plN i) = w.testBit i := by
  rw [Bool.eq_iff_iff, encA_bit]
  constructor
  · rintro ⟨j, h1, h2, h3⟩
    have := plN_inj ⟨j, h1⟩ ⟨i, hi⟩ h2
    have : j = i := congrArg Fin.val this
    subst this; exact h3
  · exact fun h => ⟨i, hi, rfl, h⟩
theorem encA_chk (w : Nat) {p : Nat} (hp : isChk p = true) : (encA w 32).testBit p = false := by
  rw [← Bool.not_eq_true, encA_bit]
  rintro ⟨i, h1, rfl, _⟩
  rw [plN_chk ⟨i, h1⟩] at hp; cases hp

theorem and_pow_ne (s j : Nat) : (s &&& 2 ^ j ≠ 0) ↔ s.testBit j = true := by
  constructor
  · intro h
    cases hb : s.testBit j with
    | true => rfl
    | false =>
      exfalso; apply h
      apply Nat.eq_of_testBit_eq
      intro i
      rw [Nat.testBit_and, Nat.testBit_two_pow, Nat.zero_testBit]
      by_cases e : j = i
      · subst e; rw [hb]; rfl
      · rw [decide_eq_false e, Bool.and_false]
  · intro hb h
    have : (s &&& 2 ^ j).testBit j = true := by rw [Nat.testBit_and, Nat.testBit_two_pow_self, hb]; rfl
    rw [h, Nat.zero_testBit] at this; cases this
theorem encB_step (s x p j : Nat) : (encB s x (j + 1)).testBit p = ((encB s x j).testBit p || (s.testBit j && decide (2 ^ j = p))) := by
  unfold encB
  by_cases h : s &&& 2 ^ j ≠ 0
  · rw [if_pos h, Nat.testBit_or, Nat.testBit_two_pow, (and_pow_ne s j).1 h, Bool.true_and]
    cases j <;> rfl
  · rw [if_neg h]
    have : s.testBit j = false := by rw [← Bool.not_eq_true]; exact fun hb => h ((and_pow_ne s j).2 hb)
    rw [this, Bool.false_and, Bool.or_false]
    cases j <;> rfl
/-- The check bits. -/
def chkF (s p : Nat) : Bool := (((((s.testBit 0 && decide (1 = p)) || (s.testBit 1 && decide (2 = p))) || (s.testBit 2 && decide (4 = p))) || (s.testBit 3 && decide (8 = p))) || (s.testBit 4 && decide (16 = p))) || (s.testBit 5 && decide (32 = p))
theorem encB_bit (s x p : Nat) : (encB s x 6).testBit p = (x.testBit p || chkF s p) := by
  rw [encB_step, encB_step, encB_step, encB_step, encB_step, encB_step]
  unfold chkF
  simp only [Bool.or_assoc]
  rfl
theorem chkF_not (s : Nat) {p : Nat} (hp : isChk p = false) : chkF s p = false := by
  unfold chkF
  unfold isChk at hp
  simp only [Bool.or_eq_false_iff, beq_eq_false_iff_ne] at hp
  rw [decide_eq_false (by omega), decide_eq_false (by omega), decide_eq_false (by omega), decide_eq_false (by omega), decide_eq_false (by omega), decide_eq_false (by omega)]
  simp
theorem chkF_zero (s : Nat) : chkF s 0 = false := by simp [chkF]
theorem chkF_syn : ∀ s : Fin 64, synB (chkF s.val) 39 = s.val := by decide
theorem encB_xor (s w p : Nat) : (encB s (encA w 32) 6).testBit p = ((encA w 32).testBit p ^^ chkF s p) := by
  rw [encB_bit]
  cases hp : isChk p with
  | true => rw [encA_chk w hp]; simp
  | false => rw [chkF_not s hp]; simp
theorem bit01 {q : Nat} (h : q < 2) (p : Nat) : q.testBit p = (decide (q = 1) && decide (0 = p)) := by
  have := bit_mul q 0 p h
  rwa [Nat.pow_zero, Nat.mul_one] at this

/-! ### the code -/
theorem enc_bits (w : Nat) : ∃ s q, s < 64 ∧ q < 2 ∧ s = synB (encA w 32).testBit 39 ∧ q = cnt (fun p => (encA w 32).testBit p ^^ chkF s p) 39 % 2 ∧
    ∀ p, (encR w).testBit p = (((encA w 32).testBit p ^^ chkF s p) ^^ (decide (q = 1) && decide (0 = p))) := by
  refine ⟨_, parB (encB (synB (encA w 32).testBit 39) (encA w 32) 6).testBit 39, synB_lt _ 39 (by omega), by have := parB_le (encB (synB (encA w 32).testBit 39) (encA w 32) 6).testBit 39; omega, rfl, ?_, fun p => ?_⟩
  · rw [parB_cnt, cnt_congr 39 (fun i _ => encB_xor _ w i)]
  · have hq := parB_le (encB (synB (encA w 32).testBit 39) (encA w 32) 6).testBit 39
    unfold encR
    rw [Nat.testBit_or, encB_xor, bit01 (q := parB (encB (synB (encA w 32).testBit 39) (encA w 32) 6).testBit 39) (by omega) p]
    by_cases h : 0 = p
    · subst h; rw [encA_chk w rfl, chkF_zero]; simp
    · rw [decide_eq_false h, Bool.and_false, Bool.or_false, Bool.xor_false]
theorem encR_lt (w : Nat) : encR w < 2 ^ 39 := by
  unfold encR
  have hq := parB_le (encB (synB (encA w 32).testBit 39) (encA w 32) 6).testBit 39
  exact Nat.or_lt_two_pow (encB_lt _ (encA_lt w 32) 6 (by omega)) (by omega)
theorem encR_syn (w : Nat) : synB (encR w).testBit 39 = 0 := by
  obtain ⟨s, q, hs, hq, es, eq, hb⟩ := enc_bits w
  rw [synB_congr 39 (fun i _ => hb i), synB_xor (fun p => (encA w 32).testBit p ^^ chkF s p), synB_xor, ← es, show synB (fun i => chkF s i) 39 = s from chkF_syn ⟨s, hs⟩, Nat.xor_self, Nat.zero_xor]
  cases hd : decide (q = 1) with
  | false => simp only [Bool.false_and]; exact synB_false 39
  | true => simp only [Bool.true_and]; rw [synB_one]; rfl
theorem encR_cnt (w : Nat) : cnt (encR w).testBit 39 % 2 = 0 := by
  obtain ⟨s, q, hs, hq, es, eq, hb⟩ := enc_bits w
  rw [cnt_congr 39 (fun i _ => hb i), cnt_xor (fun p => (encA w 32).testBit p ^^ chkF s p)]
  have : cnt (fun i => decide (q = 1) && decide (0 = i)) 39 = q := by
    rcases (by omega : q = 0 ∨ q = 1) with rfl | rfl
    · exact cnt_false 39
    · exact cnt_one 0 39
  rw [this]; omega
theorem wordN_bit (c i : Nat) : ∀ n, (wordN c n).testBit i = (decide (i < n) && c.testBit (plN i))
  | 0 => by simp [wordN]
  | n + 1 => by
    unfold wordN
    rw [← add_or (wordN_lt c n), Nat.testBit_or, wordN_bit c i n, bit_mul _ _ _ (Nat.mod_lt _ (by omega)), ← Nat.testBit_eq_decide_div_mod_eq]
    by_cases h : n = i
    · subst h; rw [decide_eq_false (by omega), decide_eq_true rfl, decide_eq_true (by omega)]; simp
    · rw [decide_eq_false h, Bool.and_false, Bool.or_false]
      congr 1
      rw [decide_eq_decide]; omega
theorem encR_data (w : Nat) {i : Nat} (hi : i < 32) : (encR w).testBit (plN i) = w.testBit i := by
  obtain ⟨s, q, _, _, _, _, hb⟩ := enc_bits w
  have hc := plN_chk ⟨i, hi⟩
  have h0 : ¬ 0 = plN i := fun e => by rw [← e] at hc; cases hc
  rw [hb, encA_at w hi, chkF_not s hc, decide_eq_false h0, Bool.and_false, Bool.xor_false, Bool.xor_false]
theorem word_enc {w : Nat} (hw : w < 2 ^ 32) : wordN (encR w) 32 = w := by
  apply Nat.eq_of_testBit_eq
  intro i
  rw [wordN_bit]
  by_cases hi : i < 32
  · rw [decide_eq_true hi, Bool.true_and, encR_data w hi]
  · rw [decide_eq_false hi, Bool.false_and, testBit_big hw (by omega)]
def only (b0 b1 b2 b4 b8 b16 b32 : Bool) (p : Nat) : Bool := match p with | 0 => b0 | 1 => b1 | 2 => b2 | 4 => b4 | 8 => b8 | 16 => b16 | 32 => b32 | _ => false
theorem only_zero : ∀ b0 b1 b2 b4 b8 b16 b32 : Bool, synB (only b0 b1 b2 b4 b8 b16 b32) 39 = 0 → cnt (only b0 b1 b2 b4 b8 b16 b32) 39 % 2 = 0 → b0 = false ∧ b1 = false ∧ b2 = false ∧ b4 = false ∧ b8 = false ∧ b16 = false ∧ b32 = false := by
  intro b0 b1 b2 b4 b8 b16 b32
  cases b0 <;> cases b1 <;> cases b2 <;> cases b4 <;> cases b8 <;> cases b16 <;> cases b32 <;> decide
theorem only_eq (d : Nat → Bool) : ∀ p : Fin 39, isChk p.val = true → d p.val = only (d 0) (d 1) (d 2) (d 4) (d 8) (d 16) (d 32) p.val := by
  intro p hp
  obtain ⟨p, hlt⟩ := p
  unfold isChk at hp
  simp only [Bool.or_eq_true, beq_iff_eq] at hp
  simp only at hp ⊢
  rcases hp with (((((rfl | rfl) | rfl) | rfl) | rfl) | rfl) | rfl <;> rfl
theorem only_not : ∀ p : Fin 39, isChk p.val = false → ∀ b0 b1 b2 b4 b8 b16 b32 : Bool, only b0 b1 b2 b4 b8 b16 b32 p.val = false := by
  intro p hp
  obtain ⟨p, hlt⟩ := p
  unfold isChk at hp
  simp only [Bool.or_eq_false_iff, beq_eq_false_iff_ne] at hp
  intro b0 b1 b2 b4 b8 b16 b32
  unfold only
  split <;> first | rfl | (rename_i heq; simp only at heq; omega)
theorem support_zero (d : Nat → Bool) (hd : ∀ p, p < 39 → isChk p = false → d p = false) (h1 : synB d 39 = 0) (h2 : cnt d 39 % 2 = 0) : ∀ p, p < 39 → d p = false := by
  have e : ∀ p, p < 39 → d p = only (d 0) (d 1) (d 2) (d 4) (d 8) (d 16) (d 32) p := fun p hp => by
    cases hc : isChk p with
    | true => exact only_eq d ⟨p, hp⟩ hc
    | false => rw [hd p hp hc]; exact (only_not ⟨p, hp⟩ hc _ _ _ _ _ _ _).symm
  rw [synB_congr 39 e] at h1
  rw [cnt_congr 39 e] at h2
  obtain ⟨z0, z1, z2, z4, z8, z16, z32⟩ := only_zero _ _ _ _ _ _ _ h1 h2
  intro p hp
  cases hc : isChk p with
  | false => exact hd p hp hc
  | true =>
    rw [e p hp, z0, z1, z2, z4, z8, z16, z32]
    unfold only; split <;> rfl
/-- A word is clean. -/
def Valid (c : Nat) : Prop := c < 2 ^ 39 ∧ synB c.testBit 39 = 0 ∧ cnt c.testBit 39 % 2 = 0
theorem encR_valid (w : Nat) : Valid (encR w) := ⟨encR_lt w, encR_syn w, encR_cnt w⟩
theorem Valid.xor {a b : Nat} (ha : Valid a) (hb : Valid b) : Valid (a ^^^ b) := by
  refine ⟨Nat.xor_lt_two_pow ha.1 hb.1, ?_, ?_⟩
  · rw [synB_congr 39 (fun i _ => Nat.testBit_xor ..), synB_xor, ha.2.1, hb.2.1]; rfl
  · rw [cnt_congr 39 (fun i _ => Nat.testBit_xor ..), cnt_xor]
    have := ha.2.2; have := hb.2.2; omega
theorem valid_enc {c : Nat} (h : Valid c) : c = encR (wordN c 32) := by
  have hx := h.xor (encR_valid (wordN c 32))
  have e : (c ^^^ encR (wordN c 32)).testBit = fun i => c.testBit i ^^ (encR (wordN c 32)).testBit i := funext fun i => Nat.testBit_xor ..
  have hz := support_zero (c ^^^ encR (wordN c 32)).testBit (fun p hp hc => by
    obtain ⟨i, hi⟩ := plN_onto ⟨p, hp⟩ hc
    have hi : plN i.val = p := hi
    rw [e, ← hi]
    show (c.testBit (plN i.val) ^^ (encR (wordN c 32)).testBit (plN i.val)) = false
    rw [encR_data _ i.isLt, wordN_bit, decide_eq_true i.isLt, Bool.true_and, Bool.xor_self]) hx.2.1 hx.2.2
  apply Nat.eq_of_testBit_eq
  intro i
  by_cases hi : i < 39
  · have := hz i hi
    rw [e] at this
    have this : (c.testBit i ^^ (encR (wordN c 32)).testBit i) = false := this
    revert this
    generalize c.testBit i = x
    generalize (encR (wordN c 32)).testBit i = y
    cases x <;> cases y <;> simp
  · rw [testBit_big h.1 (by omega), testBit_big (encR_lt _) (by omega)]
theorem wordN_xor (a b : Nat) : wordN (a ^^^ b) 32 = wordN a 32 ^^^ wordN b 32 := by
  apply Nat.eq_of_testBit_eq
  intro i
  rw [wordN_bit, Nat.testBit_xor, Nat.testBit_xor, wordN_bit, wordN_bit]
  cases decide (i < 32) <;> simp
theorem encR_xor {v w : Nat} (hv : v < 2 ^ 32) (hw : w < 2 ^ 32) : encR v ^^^ encR w = encR (v ^^^ w) := by
  have := valid_enc ((encR_valid v).xor (encR_valid w))
  rw [wordN_xor, word_enc hv, word_enc hw] at this
  exact this
theorem flip_syn (c i : Nat) (hi : i < 39) : synB (c ^^^ 2 ^ i).testBit 39 = synB c.testBit 39 ^^^ i ∧ cnt (c ^^^ 2 ^ i).testBit 39 % 2 = (cnt c.testBit 39 + 1) % 2 := by
  have e : (c ^^^ 2 ^ i).testBit = fun p => c.testBit p ^^ decide (i = p) := funext fun p => by rw [Nat.testBit_xor, Nat.testBit_two_pow]
  rw [e]
  refine ⟨?_, ?_⟩
  · rw [synB_xor, synB_one, if_pos hi]
  · rw [cnt_xor, cnt_one, if_pos hi]
theorem flip_lt {c i : Nat} (hc : c < 2 ^ 39) (hi : i < 39) : c ^^^ 2 ^ i < 2 ^ 39 := Nat.xor_lt_two_pow hc (Nat.pow_lt_pow_right (by omega) hi)
theorem decR_clean {c : Nat} (h : Valid c) : decR c = (wordN c 32, 0, 0) := by
  unfold decR
  have h1 := h.1
  rw [if_neg (by omega), parB_cnt, h.2.1, h.2.2, if_pos ⟨rfl, rfl⟩]
theorem decR_one {c i : Nat} (h : Valid c) (hi : i < 39) : decR (c ^^^ 2 ^ i) = (wordN c 32, 1, 0) := by
  unfold decR
  have h1 := flip_lt h.1 hi
  obtain ⟨f1, f2⟩ := flip_syn c i hi
  rw [h.2.1, Nat.zero_xor] at f1
  have f3 : (cnt c.testBit 39 + 1) % 2 = 1 := by have := h.2.2; omega
  rw [if_neg (by omega), parB_cnt, f1, f2, f3, if_neg (by omega), if_pos ⟨rfl, hi⟩, Nat.xor_assoc, Nat.xor_self, Nat.xor_zero]
theorem xor_ne {i j : Nat} (h : i ≠ j) : i ^^^ j ≠ 0 := fun e => h (by
  have : i ^^^ j ^^^ j = 0 ^^^ j := by rw [e]
  rwa [Nat.xor_assoc, Nat.xor_self, Nat.xor_zero, Nat.zero_xor] at this)
theorem decR_two {c i j : Nat} (h : Valid c) (hi : i < 39) (hj : j < 39) (hne : i ≠ j) : decR (c ^^^ 2 ^ i ^^^ 2 ^ j) = (0, 2, 0) := by
  unfold decR
  have h1 := flip_lt (flip_lt h.1 hi) hj
  obtain ⟨f1, f2⟩ := flip_syn c i hi
  obtain ⟨g1, g2⟩ := flip_syn (c ^^^ 2 ^ i) j hj
  rw [f1, h.2.1, Nat.zero_xor] at g1
  have g3 : cnt (c ^^^ 2 ^ i ^^^ 2 ^ j).testBit 39 % 2 = 0 := by have := h.2.2; omega
  rw [if_neg (by omega), parB_cnt, g1, g3, if_neg (fun e => xor_ne hne e.1), if_neg (by omega)]
/-- What Decode says of a word, the other way round. -/
theorem decR_cases {c : Nat} (hc : c < 2 ^ 39) : (Valid c ∧ decR c = (wordN c 32, 0, 0)) ∨ (∃ i, i < 39 ∧ Valid (c ^^^ 2 ^ i) ∧ decR c = (wordN (c ^^^ 2 ^ i) 32, 1, 0)) ∨ ((∀ i, i < 39 → ¬ Valid (c ^^^ 2 ^ i)) ∧ decR c = (0, 2, 0)) := by
  by_cases h1 : synB c.testBit 39 = 0 ∧ parB c.testBit 39 = 0
  · have : Valid c := ⟨hc, h1.1, by rw [← parB_cnt]; exact h1.2⟩
    exact .inl ⟨this, decR_clean this⟩
  · have hp := parB_cnt c.testBit 39
    by_cases h2 : parB c.testBit 39 = 1 ∧ synB c.testBit 39 < 39
    · right; left
      obtain ⟨f1, f2⟩ := flip_syn c (synB c.testBit 39) h2.2
      refine ⟨synB c.testBit 39, h2.2, ⟨flip_lt hc h2.2, by rw [f1, Nat.xor_self], by omega⟩, ?_⟩
      unfold decR
      rw [if_neg (by omega), if_neg h1, if_pos h2]
    · right; right
      refine ⟨fun i hi hv => h2 ?_, by unfold decR; rw [if_neg (by omega), if_neg h1, if_neg h2]⟩
      obtain ⟨f1, f2⟩ := flip_syn c i hi
      have hv1 := hv.2.1
      have hv2 := hv.2.2
      rw [f1] at hv1
      refine ⟨by omega, ?_⟩
      have : synB c.testBit 39 = i := Classical.byContradiction fun h => xor_ne h hv1
      omega

/-! ### the distance -/
theorem cnt0 (b : Nat → Bool) : ∀ n, cnt b n = 0 → ∀ i, i < n → b i = false
  | 0, _, i, hi => by omega
  | n + 1, h, i, hi => by
    rw [cnt_succ] at h
    by_cases e : i = n
    · subst e
      cases hb : b i with
      | false => rfl
      | true => rw [hb, if_pos rfl] at h; omega
    · exact cnt0 b n (by omega) i (by omega)
theorem synB0 (b : Nat → Bool) (n : Nat) (h : cnt b n = 0) : synB b n = 0 := by
  rw [synB_congr (b := fun _ => false) n (cnt0 b n h), synB_false]
theorem cnt1 (b : Nat → Bool) : ∀ n, cnt b n = 1 → ∃ i, i < n ∧ synB b n = i
  | 0, h => by cases h
  | n + 1, h => by
    rw [cnt_succ] at h
    unfold synB
    cases hb : b n with
    | true =>
      rw [hb, if_pos rfl] at h
      rw [if_pos rfl, synB0 b n (by omega), Nat.zero_xor]
      exact ⟨n, by omega, rfl⟩
    | false =>
      rw [hb, if_neg (by simp)] at h
      obtain ⟨i, h1, h2⟩ := cnt1 b n (by omega)
      rw [if_neg (by simp)]
      exact ⟨i, by omega, h2⟩
theorem cnt2 (b : Nat → Bool) : ∀ n, cnt b n = 2 → synB b n ≠ 0
  | 0, h => by cases h
  | n + 1, h => by
    rw [cnt_succ] at h
    unfold synB
    cases hb : b n with
    | true =>
      rw [hb, if_pos rfl] at h
      rw [if_pos rfl]
      obtain ⟨i, h1, h2⟩ := cnt1 b n (by omega)
      rw [h2]; exact xor_ne (by omega)
    | false =>
      rw [hb, if_neg (by simp)] at h
      rw [if_neg (by simp)]
      exact cnt2 b n (by omega)
theorem cnt64 {c : Nat} (h : c < 2 ^ 39) : cnt c.testBit 64 = cnt c.testBit 39 := by
  rw [show 64 = 39 + 25 from rfl, cnt_cut _ 39 (fun i hi => testBit_big h hi)]
theorem zero_of_cnt {c : Nat} (h : c < 2 ^ 39) (h0 : cnt c.testBit 39 = 0) : c = 0 := by
  apply Nat.eq_of_testBit_eq
  intro i
  rw [Nat.zero_testBit]
  by_cases hi : i < 39
  · exact cnt0 _ 39 h0 i hi
  · exact testBit_big h (by omega)
theorem enc_far {u : Nat} (hu : u < 2 ^ 32) (h : u ≠ 0) : 4 ≤ cnt (encR u).testBit 64 := by
  obtain ⟨h1, h2, h3⟩ := encR_valid u
  rw [cnt64 h1]
  have n0 : cnt (encR u).testBit 39 ≠ 0 := fun e => h (by
    have := word_enc hu
    rw [zero_of_cnt h1 e, show wordN 0 32 = 0 from by decide] at this
    exact this.symm)
  have n2 : cnt (encR u).testBit 39 ≠ 2 := fun e => cnt2 _ 39 e h2
  omega
theorem encR_zero : encR 0 = 0 := by decide
end Go.Am.Ham
