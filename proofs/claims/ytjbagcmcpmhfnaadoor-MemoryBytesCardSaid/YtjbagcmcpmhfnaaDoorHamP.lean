/-
  Hamming: plain facts on bits: syndromes, parities, the lowest bit. Own work.
-/
import Derived.Test.YtjbagcmcpmhfnaaDoorHamN
namespace Go.Am.Ham
open Go Go.Am
set_option maxRecDepth 100000

/-! ### sums over bits -/
def cnt (b : Nat → Bool) : Nat → Nat
  | 0 => 0
  | n + 1 => cnt b n + (if b n then 1 else 0)
theorem cnt_succ (b : Nat → Bool) (n : Nat) : cnt b (n + 1) = cnt b n + (if b n then 1 else 0) := rfl
theorem parB_cnt (b : Nat → Bool) : ∀ n, parB b n = cnt b n % 2
  | 0 => rfl
  | n + 1 => by
    have := parB_cnt b n
    unfold parB cnt
    split <;> omega
theorem cnt_congr {a b : Nat → Bool} : ∀ n, (∀ i, i < n → a i = b i) → cnt a n = cnt b n
  | 0, _ => rfl
  | n + 1, h => by
    unfold cnt
    rw [cnt_congr n (fun i hi => h i (by omega)), h n (by omega)]
theorem synB_congr {a b : Nat → Bool} : ∀ n, (∀ i, i < n → a i = b i) → synB a n = synB b n
  | 0, _ => rfl
  | n + 1, h => by
    unfold synB
    rw [synB_congr n (fun i hi => h i (by omega)), h n (by omega)]
theorem cnt_split (b : Nat → Bool) (k : Nat) : ∀ m, cnt b (k + m) = cnt b k + cnt (fun i => b (k + i)) m
  | 0 => rfl
  | m + 1 => by
    rw [← Nat.add_assoc, cnt_succ, cnt_succ, cnt_split b k m]; omega
theorem cnt_le (b : Nat → Bool) : ∀ n, cnt b n ≤ n
  | 0 => Nat.le_refl _
  | n + 1 => by
    have := cnt_le b n
    unfold cnt
    split <;> omega
theorem synB_xor (a b : Nat → Bool) : ∀ n, synB (fun i => a i ^^ b i) n = synB a n ^^^ synB b n
  | 0 => by simp [synB]
  | n + 1 => by
    unfold synB
    rw [synB_xor a b n]
    cases ha : a n <;> cases hb : b n <;> simp only [Bool.xor_false, Bool.xor_true, Bool.not_true, Bool.not_false, if_true, if_false, Bool.false_eq_true]
    · rw [Nat.xor_assoc]
    · rw [Nat.xor_assoc, Nat.xor_assoc, Nat.xor_comm n]
    · rw [Nat.xor_assoc, Nat.xor_comm (synB b n) n, ← Nat.xor_assoc n n, Nat.xor_self, Nat.zero_xor]
theorem cnt_xor (a b : Nat → Bool) : ∀ n, cnt (fun i => a i ^^ b i) n % 2 = (cnt a n + cnt b n) % 2
  | 0 => rfl
  | n + 1 => by
    have := cnt_xor a b n
    unfold cnt
    cases ha : a n <;> cases hb : b n <;> simp only [Bool.xor_false, Bool.xor_true, Bool.not_true, Bool.not_false, if_true, if_false, Bool.false_eq_true] <;> omega
theorem synB_false : ∀ n, synB (fun _ => false) n = 0
  | 0 => rfl
  | n + 1 => by unfold synB; rw [synB_false n]; rfl
theorem cnt_false : ∀ n, cnt (fun _ => false) n = 0
  | 0 => rfl
  | n + 1 => by unfold cnt; rw [cnt_false n]; rfl
theorem synB_one (t : Nat) : ∀ n, synB (fun i => decide (t = i)) n = if t < n then t else 0
  | 0 => rfl
  | n + 1 => by
    unfold synB
    rw [synB_one t n]
    by_cases h : t = n
    · subst h; simp
    · simp only [decide_eq_true_eq, h, if_false]
      by_cases h2 : t < n
      · rw [if_pos h2, if_pos (by omega)]
      · rw [if_neg h2, if_neg (by omega)]
theorem cnt_one (t : Nat) : ∀ n, cnt (fun i => decide (t = i)) n = if t < n then 1 else 0
  | 0 => rfl
  | n + 1 => by
    unfold cnt
    rw [cnt_one t n]
    by_cases h : t = n
    · subst h; simp
    · simp only [decide_eq_true_eq, h, if_false]
      by_cases h2 : t < n
      · rw [if_pos h2, if_pos (by omega)]
      · rw [if_neg h2, if_neg (by omega)]

/-! ### the lowest bit -/
theorem low_split : ∀ n : Nat, n ≠ 0 → ∃ t m, n = 2 ^ t * (2 * m + 1) := by
  intro n
  induction n using Nat.strongRecOn with
  | ind n ih =>
    intro h
    by_cases h2 : n % 2 = 1
    · exact ⟨0, n / 2, by rw [Nat.pow_zero, Nat.one_mul]; omega⟩
    · obtain ⟨t, m, e⟩ := ih (n / 2) (by omega) (by omega)
      refine ⟨t + 1, m, ?_⟩
      rw [Nat.pow_succ, Nat.mul_comm (2 ^ t) 2, Nat.mul_assoc, ← e]; omega
theorem and_shift (t a b : Nat) : (2 ^ t * a) &&& (2 ^ t * b) = 2 ^ t * (a &&& b) := by
  apply Nat.eq_of_testBit_eq
  intro i
  rw [Nat.testBit_and, Nat.testBit_two_pow_mul, Nat.testBit_two_pow_mul, Nat.testBit_two_pow_mul, Nat.testBit_and]
  cases decide (i ≥ t) <;> simp
theorem and_odd (a b : Nat) : (2 * a + 1) &&& (2 * b + 1) = 2 * (a &&& b) + 1 := by
  apply Nat.eq_of_testBit_eq
  intro i
  cases i with
  | zero => rw [Nat.testBit_and]; simp [Nat.testBit_zero]
  | succ i =>
    rw [Nat.testBit_and, Nat.testBit_succ, Nat.testBit_succ, Nat.testBit_succ, show (2 * a + 1) / 2 = a by omega, show (2 * b + 1) / 2 = b by omega, show (2 * (a &&& b) + 1) / 2 = (a &&& b) by omega, Nat.testBit_and]
theorem and_compl {j m : Nat} (h : m < 2 ^ j) : m &&& (2 ^ j - (m + 1)) = 0 := by
  apply Nat.eq_of_testBit_eq
  intro i
  rw [Nat.testBit_and, Nat.testBit_two_pow_sub_succ h, Nat.zero_testBit]
  cases m.testBit i <;> simp
theorem low_lt {n t m : Nat} (hn : n < 2 ^ 64) (e : n = 2 ^ t * (2 * m + 1)) : t < 64 := by
  rcases Nat.lt_or_ge t 64 with h | h
  · exact h
  · have h1 : 2 ^ 64 ≤ 2 ^ t := Nat.pow_le_pow_right (by omega) h
    have h2 : 2 ^ t * 1 ≤ 2 ^ t * (2 * m + 1) := Nat.mul_le_mul_left _ (by omega)
    omega
theorem neg_and {n t m : Nat} (hn : n < 2 ^ 64) (e : n = 2 ^ t * (2 * m + 1)) : n &&& (2 ^ 64 - n) = 2 ^ t := by
  have ht := low_lt hn e
  have hp : 2 ^ 64 = 2 ^ t * (2 * 2 ^ (63 - t)) := by
    rw [show 2 * 2 ^ (63 - t) = 2 ^ (64 - t) by rw [show 64 - t = (63 - t) + 1 by omega, Nat.pow_succ, Nat.mul_comm], ← Nat.pow_add]
    congr 1; omega
  have h0 : 0 < 2 ^ t := Nat.two_pow_pos t
  have hm : m < 2 ^ (63 - t) := by
    rw [e, hp] at hn
    have := Nat.lt_of_mul_lt_mul_left hn
    omega
  have e2 : 2 ^ 64 - n = 2 ^ t * (2 * (2 ^ (63 - t) - (m + 1)) + 1) := by
    rw [e, hp, ← Nat.mul_sub]; congr 1; omega
  rw [e2, e, and_shift, and_odd, and_compl hm, Nat.mul_zero, Nat.zero_add, Nat.mul_one]
theorem tz_tab : ∀ t : Fin 64, tzTab.getD ((2 ^ t.val * 285870213051353865 % 2 ^ 64) / 2 ^ 58) 0 = t.val := by decide
theorem tzR_low {n t m : Nat} (hn : n < 2 ^ 64) (e : n = 2 ^ t * (2 * m + 1)) : tzR n = t := by
  unfold tzR tzI
  rw [neg_and hn e]
  exact tz_tab ⟨t, low_lt hn e⟩
theorem pred_and {n t m : Nat} (e : n = 2 ^ t * (2 * m + 1)) : n &&& (n - 1) = 2 ^ t * (2 * m) := by
  have h0 : 0 < 2 ^ t := Nat.two_pow_pos t
  have e1 : n - 1 = 2 ^ t * (2 * m) + (2 ^ t - 1) := by rw [e, Nat.mul_add, Nat.mul_one]; omega
  apply Nat.eq_of_testBit_eq
  intro i
  rw [e1, Nat.testBit_and, e, Nat.testBit_two_pow_mul, Nat.testBit_two_pow_mul_add _ (by omega), Nat.testBit_two_pow_mul]
  by_cases hi : i < t
  · rw [decide_eq_false (by omega)]; rfl
  · rw [if_neg hi, decide_eq_true (by omega), Bool.true_and, Bool.true_and]
    cases hj : i - t with
    | zero => simp [Nat.testBit_zero]
    | succ j => rw [Nat.testBit_succ, Nat.testBit_succ, show (2 * m + 1) / 2 = m by omega, show 2 * m / 2 = m by omega, Bool.and_self]
theorem low_bits {n t m : Nat} (e : n = 2 ^ t * (2 * m + 1)) (i : Nat) : n.testBit i = ((2 ^ t * (2 * m)).testBit i ^^ decide (t = i)) := by
  rw [e, Nat.testBit_two_pow_mul, Nat.testBit_two_pow_mul]
  by_cases hi : t = i
  · subst hi
    rw [decide_eq_true rfl, decide_eq_true (show t ≥ t from Nat.le_refl _), Nat.sub_self, Nat.testBit_zero, Nat.testBit_zero]
    simp
  · rw [decide_eq_false hi, Bool.xor_false]
    by_cases h2 : i ≥ t
    · rw [decide_eq_true h2, Bool.true_and, Bool.true_and]
      obtain ⟨j, hj⟩ : ∃ j, i - t = j + 1 := ⟨i - t - 1, by omega⟩
      rw [hj, Nat.testBit_succ, Nat.testBit_succ]
      congr 1; omega
    · rw [decide_eq_false h2]; rfl
theorem onesX_syn : ∀ n, n < 2 ^ 64 → onesX n = synB n.testBit 64 := by
  intro n
  induction n using Nat.strongRecOn with
  | ind n ih =>
    intro hn
    by_cases h : n = 0
    · subst h
      rw [onesX_zero, synB_congr (b := fun _ => false) 64 (fun i _ => Nat.zero_testBit i), synB_false]
    · obtain ⟨t, m, e⟩ := low_split n h
      have hlt := and_pred_lt h
      rw [onesX_pos h, tzR_low hn e, ih _ hlt (by omega), pred_and e]
      have e2 : n.testBit = fun i => ((2 ^ t * (2 * m)).testBit i ^^ decide (t = i)) := funext fun i => low_bits e i
      rw [e2, synB_xor, synB_one, if_pos (low_lt hn e), Nat.xor_comm]
theorem testBit_big {n N i : Nat} (hn : n < 2 ^ N) (hi : N ≤ i) : n.testBit i = false :=
  Nat.testBit_lt_two_pow (Nat.lt_of_lt_of_le hn (Nat.pow_le_pow_right (by omega) hi))
theorem synB_cut (b : Nat → Bool) (N : Nat) (h : ∀ i, N ≤ i → b i = false) : ∀ m, synB b (N + m) = synB b N
  | 0 => rfl
  | m + 1 => by
    rw [← Nat.add_assoc]
    unfold synB
    rw [h (N + m) (by omega), synB_cut b N h m]
    cases N <;> rfl
theorem cnt_cut (b : Nat → Bool) (N : Nat) (h : ∀ i, N ≤ i → b i = false) (m : Nat) : cnt b (N + m) = cnt b N := by
  rw [cnt_split, cnt_congr (b := fun _ => false) m (fun i _ => h _ (by omega)), cnt_false]; rfl

/-! ### the count of the bits, eight at a time -/
theorem and_byte {a b c d : Nat} (hb : b < 256) (hd : d < 256) : (256 * a + b) &&& (256 * c + d) = 256 * (a &&& c) + (b &&& d) := by
  apply Nat.eq_of_testBit_eq
  intro i
  have hbd : b &&& d < 2 ^ 8 := Nat.and_lt_two_pow b hd
  rw [Nat.testBit_and, show (256 : Nat) = 2 ^ 8 from rfl, Nat.testBit_two_pow_mul_add _ hb, Nat.testBit_two_pow_mul_add _ hd, Nat.testBit_two_pow_mul_add _ hbd, Nat.testBit_and, Nat.testBit_and]
  split <;> rfl
def rep (d : Nat) : Nat → Nat
  | 0 => 0
  | k + 1 => 256 * rep d k + d
theorem rep_succ (d k : Nat) : rep d (k + 1) = 256 * rep d k + d := rfl
def g1 (M n : Nat) : Nat := (n / 2 &&& M) + (n &&& M)
def g2 (M n : Nat) : Nat := (n / 4 &&& M) + (n &&& M)
def g3 (M n : Nat) : Nat := (n / 16 + n) &&& M
def b1 (r : Nat) : Nat := (r / 2 &&& 85) + (r &&& 85)
def b2 (r : Nat) : Nat := (r / 4 &&& 51) + (r &&& 51)
def b3 (r : Nat) : Nat := (r / 16 + r) &&& 15
theorem f1 : ∀ r : Fin 256, (128 + r.val / 2) &&& 85 = r.val / 2 &&& 85 := by decide
theorem f2 : ∀ r : Fin 256, ∀ x : Fin 4, (64 * x.val + r.val / 4) &&& 51 = r.val / 4 &&& 51 := by decide
theorem fc : ∀ r : Fin 256, b2 (b1 r.val) ≤ 68 ∧ b2 (b1 r.val) % 16 ≤ 4 ∧ b3 (b2 (b1 r.val)) = cnt r.val.testBit 8 := by decide
theorem and15 (x y : Nat) : (16 * x + y) &&& 15 = y &&& 15 := by
  have h (n : Nat) : n &&& 15 = n % 16 := by simpa using Nat.and_two_pow_sub_one_eq_mod n 4
  rw [h, h]; omega
theorem g1_byte (M n r : Nat) (hr : r < 256) : g1 (256 * M + 85) (256 * n + r) = 256 * g1 M n + b1 r := by
  unfold g1 b1
  have e1 : (256 * n + r) / 2 = 256 * (n / 2) + (128 * (n % 2) + r / 2) := by omega
  have e2 : 128 * (n % 2) + r / 2 < 256 := by omega
  have e3 : (128 * (n % 2) + r / 2) &&& 85 = r / 2 &&& 85 := by
    rcases Nat.mod_two_eq_zero_or_one n with h | h
    · rw [h]; simp
    · rw [h]; exact f1 ⟨r, hr⟩
  rw [e1, and_byte e2 (by omega), and_byte hr (by omega), e3]; omega
theorem b1_lt (r : Nat) : b1 r < 256 := by
  unfold b1
  have h1 : r / 2 &&& 85 ≤ 85 := Nat.and_le_right
  have h2 : r &&& 85 ≤ 85 := Nat.and_le_right
  omega
theorem g2_byte (M n r : Nat) (hr : r < 256) : g2 (256 * M + 51) (256 * n + r) = 256 * g2 M n + b2 r := by
  unfold g2 b2
  have e1 : (256 * n + r) / 4 = 256 * (n / 4) + (64 * (n % 4) + r / 4) := by omega
  have e2 : 64 * (n % 4) + r / 4 < 256 := by omega
  have e3 : (64 * (n % 4) + r / 4) &&& 51 = r / 4 &&& 51 := f2 ⟨r, hr⟩ ⟨n % 4, Nat.mod_lt _ (by omega)⟩
  rw [e1, and_byte e2 (by omega), and_byte hr (by omega), e3]; omega
theorem g3_byte (M n r : Nat) (hr : r ≤ 68) (hn : n % 16 ≤ 4) : g3 (256 * M + 15) (256 * n + r) = 256 * g3 M n + b3 r := by
  unfold g3 b3
  have e1 : (256 * n + r) / 16 + (256 * n + r) = 256 * (n / 16 + n) + (16 * (n % 16) + (r / 16 + r)) := by omega
  rw [e1, and_byte (by omega) (by omega), and15]
/-- the bytes' counts, one byte each -/
def cb (n : Nat) : Nat → Nat
  | 0 => 0
  | k + 1 => 256 * cb (n / 256) k + cnt (n % 256).testBit 8
theorem g21_low (n k : Nat) : n < 256 ^ k → g2 (rep 51 k) (g1 (rep 85 k) n) % 16 ≤ 4 := by
  intro h
  cases k with
  | zero => rw [Nat.pow_zero] at h; have : n = 0 := by omega
            subst this; decide
  | succ k =>
    have hr : n % 256 < 256 := Nat.mod_lt _ (by omega)
    have e : n = 256 * (n / 256) + n % 256 := by omega
    rw [e]
    unfold rep
    rw [g1_byte _ _ _ hr, g2_byte _ _ _ (b1_lt _)]
    have := (fc ⟨n % 256, hr⟩).2.1
    simp only at this
    omega
theorem g321 : ∀ (k n : Nat), n < 256 ^ k → g3 (rep 15 k) (g2 (rep 51 k) (g1 (rep 85 k) n)) = cb n k
  | 0, n, h => by rw [Nat.pow_zero] at h; have : n = 0 := by omega
                  subst this; decide
  | k + 1, n, h => by
    have hr : n % 256 < 256 := Nat.mod_lt _ (by omega)
    have e : n = 256 * (n / 256) + n % 256 := by omega
    have hq : n / 256 < 256 ^ k := by rw [Nat.pow_succ] at h; exact (Nat.div_lt_iff_lt_mul (by omega)).2 h
    have ih := g321 k (n / 256) hq
    have hl := g21_low (n / 256) k hq
    obtain ⟨h1, _, h3⟩ := fc ⟨n % 256, hr⟩
    simp only at h1 h3
    have e2 : g3 (rep 15 (k + 1)) (g2 (rep 51 (k + 1)) (g1 (rep 85 (k + 1)) (256 * (n / 256) + n % 256))) = 256 * g3 (rep 15 k) (g2 (rep 51 k) (g1 (rep 85 k) (n / 256))) + b3 (b2 (b1 (n % 256))) := by
      rw [rep_succ, rep_succ, rep_succ, g1_byte _ _ _ hr, g2_byte _ _ _ (b1_lt _), g3_byte _ _ _ h1 hl]
    rw [← e] at e2
    rw [e2, ih, h3]
    rfl
theorem cnt_bytes (n k : Nat) : cnt n.testBit (8 * (k + 1)) = cnt (n % 256).testBit 8 + cnt (n / 256).testBit (8 * k) := by
  rw [show 8 * (k + 1) = 8 + 8 * k by omega, cnt_split]
  congr 1
  · apply cnt_congr
    intro i hi
    rw [show (256 : Nat) = 2 ^ 8 from rfl, Nat.testBit_mod_two_pow, decide_eq_true hi, Bool.true_and]
  · apply cnt_congr
    intro i _
    rw [show (256 : Nat) = 2 ^ 8 from rfl, Nat.testBit_div_two_pow, Nat.add_comm]
theorem fold_par (a0 a1 a2 a3 a4 a5 a6 a7 : Nat) (h0 : a0 ≤ 8) (h1 : a1 ≤ 8) (h2 : a2 ≤ 8) (h3 : a3 ≤ 8) (h4 : a4 ≤ 8) (h5 : a5 ≤ 8) (h6 : a6 ≤ 8) (h7 : a7 ≤ 8) (S B A : Nat)
    (eS : S = 256 * (256 * (256 * (256 * (256 * (256 * (256 * a7 + a6) + a5) + a4) + a3) + a2) + a1) + a0) (eB : B = S + S / 256) (eA : A = B + B / 65536) :
    (A + A / 4294967296) % 2 = (a0 + a1 + a2 + a3 + a4 + a5 + a6 + a7) % 2 := by
  have hB : B = 256 * (256 * (256 * (256 * (256 * (256 * (256 * a7 + (a6 + a7)) + (a5 + a6)) + (a4 + a5)) + (a3 + a4)) + (a2 + a3)) + (a1 + a2)) + (a0 + a1) := by omega
  have hA : A = 256 * (256 * (256 * (256 * (256 * (256 * (256 * a7 + (a6 + a7)) + (a5 + a6 + a7)) + (a4 + a5 + a6 + a7)) + (a3 + a4 + a5 + a6)) + (a2 + a3 + a4 + a5)) + (a1 + a2 + a3 + a4)) + (a0 + a1 + a2 + a3) := by omega
  clear eS eB hB
  have hd : A / 4294967296 = 256 * (256 * (256 * a7 + (a6 + a7)) + (a5 + a6 + a7)) + (a4 + a5 + a6 + a7) := by omega
  have hl : A % 2 = (a0 + a1 + a2 + a3) % 2 := by omega
  rw [Nat.add_mod, hl, hd]; clear hl hd hA
  omega
theorem pcN_par (n : Nat) (hn : n < 2 ^ 64) : pcN n % 2 = cnt n.testBit 64 % 2 := by
  have e0 : q3 (q2 (q1 n)) = cb n 8 := g321 8 n (by rw [show 256 ^ 8 = 2 ^ 64 from rfl]; exact hn)
  have e1 : ∀ x, (x &&& 127) % 2 = x % 2 := fun x => by
    rw [show x &&& 127 = x % 128 by simpa using Nat.and_two_pow_sub_one_eq_mod x 7]; omega
  unfold pcN
  rw [e0, e1]
  have c (x : Nat) : cnt (x % 256).testBit 8 ≤ 8 := cnt_le _ 8
  have := fold_par _ _ _ _ _ _ _ _ (c n) (c (n / 256)) (c (n / 256 / 256)) (c (n / 256 / 256 / 256)) (c (n / 256 / 256 / 256 / 256)) (c (n / 256 / 256 / 256 / 256 / 256)) (c (n / 256 / 256 / 256 / 256 / 256 / 256))
    (c (n / 256 / 256 / 256 / 256 / 256 / 256 / 256)) (cb n 8) _ _ (by simp only [cb]; omega) rfl rfl
  unfold q4
  rw [this]
  have z : cnt (n / 256 / 256 / 256 / 256 / 256 / 256 / 256 / 256).testBit (8 * 0) = 0 := rfl
  rw [show 64 = 8 * (7 + 1) from rfl, cnt_bytes n 7, show 8 * 7 = 8 * (6 + 1) from rfl, cnt_bytes _ 6, show 8 * 6 = 8 * (5 + 1) from rfl, cnt_bytes _ 5, show 8 * 5 = 8 * (4 + 1) from rfl, cnt_bytes _ 4, show 8 * 4 = 8 * (3 + 1) from rfl, cnt_bytes _ 3,
    show 8 * 3 = 8 * (2 + 1) from rfl, cnt_bytes _ 2, show 8 * 2 = 8 * (1 + 1) from rfl, cnt_bytes _ 1, cnt_bytes (n / 256 / 256 / 256 / 256 / 256 / 256 / 256) 0, z]
  congr 1; omega
end Go.Am.Ham
