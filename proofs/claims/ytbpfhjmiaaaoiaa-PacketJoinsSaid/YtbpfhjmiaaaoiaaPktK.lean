/-
  Packet: Split, Idle: the summaries; PacketSplits answers true. Own work.
-/
import Derived.Test.YtbpfhjmiaaaoiaaPktI2
import Derived.Test.YtbpfhjmiaaaoiaaPktJ
namespace Go.Am.Pkt
open Go Go.Am Go.Proofs
set_option maxRecDepth 100000

section
variable (c : Bool) (a n : Nat) (s : ByteArray) (m : Nat)
theorem rows_getD (fl : Nat → Nat) : ∀ {k i q : Nat}, i < k → q < 5 → (rowsP c a n s m fl k).getD (5 * i + q) undef = (rowP c a n s m fl i).getD q undef
  | 0, i, q, h, _ => by omega
  | k + 1, i, q, h, hq => by
    rw [rowsP, List.getD_eq_getElem?_getD, List.getD_eq_getElem?_getD]
    by_cases e : i = k
    · subst e
      rw [List.getElem?_append_right (by rw [rows_len]; omega), rows_len, show 5 * i + q - 5 * i = q by omega]
    · rw [List.getElem?_append_left (by rw [rows_len]; omega), ← List.getD_eq_getElem?_getD, rows_getD fl (by omega) hq, List.getD_eq_getElem?_getD]
theorem rows_congr {fl fl' : Nat → Nat} : ∀ {k : Nat}, (∀ i, i < k → fl i = fl' i) → rowsP c a n s m fl k = rowsP c a n s m fl' k
  | 0, _ => rfl
  | k + 1, h => by
    rw [rowsP, rowsP, rows_congr fun i hi => h i (by omega)]
    unfold rowP
    rw [h k (by omega)]
theorem rows_set (fl : Nat → Nat) (v : Nat) : ∀ {k i : Nat}, i < k → (rowsP c a n s m fl k).set (5 * i + 2) (.int .i64 ((v : Nat) : Int)) = rowsP c a n s m (fun x => if x = i then v else fl x) k
  | 0, i, h => by omega
  | k + 1, i, h => by
    rw [rowsP, rowsP]
    by_cases e : i = k
    · subst e
      rw [List.set_append_right _ _ (by rw [rows_len]; omega), rows_len, show 5 * i + 2 - 5 * i = 2 by omega]
      rw [rows_congr c a n s m (fl := fl) (fl' := fun x => if x = i then v else fl x) fun j hj => by rw [if_neg (by omega)]]
      congr 1
      unfold rowP
      dsimp only
      rw [if_pos rfl]
      rfl
    · rw [List.set_append_left _ _ (by rw [rows_len]; omega), rows_set fl v (by omega)]
      congr 1
      unfold rowP
      dsimp only
      rw [if_neg (show ¬ k = i from fun z => e (Eq.symm z))]
end
theorem strE {s : ByteArray} : strEq s ⟨⟨[]⟩⟩ = decide (s.size = 0) := by
  have := suf_empty (s := s) (i := 0)
  rw [suf_zero] at this
  rw [this]
  by_cases h : s.size = 0
  · rw [decide_eq_true h, decide_eq_true (by omega)]
  · rw [decide_eq_false h, decide_eq_false (by omega)]
theorem many_pos {s : ByteArray} {m : Nat} (hm : 1 ≤ m) (hs : 1 ≤ s.size) : 0 < manyP s m := Nat.div_pos (by omega) hm
theorem bad_cases {a n m : Int} {s : ByteArray} {A B : Prop} (hk : cond (badS a n m s) A B) :
    (¬ (a < 0 ∨ a ≥ 2047 ∨ n < 0 ∨ n > 16383 ∨ m < 1 ∨ m > 1024 ∨ s.size = 0) → B) ∧ ((a < 0 ∨ a ≥ 2047 ∨ n < 0 ∨ n > 16383 ∨ m < 1 ∨ m > 1024 ∨ s.size = 0) → A) := by
  unfold badS at hk
  constructor
  · intro h; rw [decide_eq_false h] at hk; exact hk
  · intro h; rw [decide_eq_true h] at hk; exact hk
theorem tSplit_ok : AllOk Try.prog G0 tSplit := ⟨okClone, trivial⟩
theorem okSplit : SpecOk Try.prog G0 20 sSplit :=
  spec2 mixed tSplit_ok Try.func20 (by kernel_rfl : Try.f20.body = some (codeOf Try.f20)) cSplit rfl rfl rfl (by kernel_rfl) (ids := [6]) (by kernel_rfl) ⟨loopSplit, trivial⟩ (by
    intro args h K hk
    unfold sSplit at hk
    split at hk
    · rename_i c a n s m
      obtain ⟨hB, hA⟩ := bad_cases hk
      show bSplit c a n s m K
      rw [bSplit_eq]
      by_cases h1 : a < 0
      · rw [dT h1]; exact hA (by omega)
      rw [dF h1]
      by_cases h2 : a ≥ 2047
      · rw [dT h2]; exact hA (by omega)
      rw [dF h2]
      by_cases h3 : n < 0
      · rw [dT h3]; exact hA (by omega)
      rw [dF h3]
      by_cases h4 : n > 16383
      · rw [dT h4]; exact hA (by omega)
      rw [dF h4]
      by_cases h5 : m < 1
      · rw [dT h5]; exact hA (by omega)
      rw [dF h5]
      by_cases h6 : m > 1024
      · rw [dT h6]; exact hA (by omega)
      rw [dF h6, strE]
      by_cases h7 : s.size = 0
      · rw [dT h7]; exact hA (by omega)
      rw [dF h7]
      have hk := hB (by omega)
      rintro _ rfl
      by_cases h8 : ((s.size : Nat) : Int) > 16384
      · rw [dT (by omega)] at hk
        rw [dT h8]; exact hk
      rw [dF (by omega)] at hk
      rw [dF h8]
      refine ⟨by omega, by omega, by omega, by omega, by omega, by omega, by omega, ?_⟩
      intro mv
      have hk := hk mv
      obtain ⟨a, rfl⟩ := nat_of (show (0 : Int) ≤ a by omega)
      obtain ⟨n, rfl⟩ := nat_of (show (0 : Int) ≤ n by omega)
      obtain ⟨m, rfl⟩ := nat_of (show (0 : Int) ≤ m by omega)
      simp only [Int.toNat_natCast] at hk ⊢
      have hpos := many_pos (s := s) (m := m) (by omega) (by omega)
      have hbnd : manyP s m ≤ s.size + m - 1 := Nat.div_le_self _ _
      obtain ⟨q, hq⟩ : ∃ q, manyP s m = q + 1 := ⟨manyP s m - 1, by omega⟩
      have g2 : (rowsP c a n s m fl0 (manyP s m)).getD 2 undef = .int .i64 ((0 : Nat) : Int) := rows_getD c a n s m fl0 (k := manyP s m) (i := 0) (q := 2) (by omega) (by omega)
      rw [dT (by omega), dT (by rw [rows_len]; omega)]
      simp only [g2]
      rw [show isInt .i64 (.int .i64 ((0 : Nat) : Int)) = true from rfl, cond_true]
      rintro x3 e3
      have e3 : x3 = ((1 : Nat) : Int) := by rw [e3]; rfl
      rw [dT (by omega), dT (by rw [rows_len]; omega)]
      rintro x4 e4 x5 e5
      have e5 : x5 = ((q : Nat) : Int) := by
        rw [e5, e4, show (1 : Int) = ((1 : Nat) : Int) from rfl, iSub_cast .i64 (by omega) (by rw [cap64]; omega)]
        congr 1
        omega
      rw [dT2 (by omega) (by omega)]
      have eidx : (cond (Nat.beq (x5.toNat * 5) 0) 2 (x5.toNat * 5 + 2) : Nat) = 5 * q + 2 := by
        rw [e5, Int.toNat_natCast]
        cases q with
        | zero => rfl
        | succ q =>
          have : Nat.beq ((q + 1) * 5) 0 = false := beq_ne (by omega)
          rw [this, cond_false]; omega
      have s1 : (rowsP c a n s m fl0 (manyP s m)).set 2 (.int .i64 ((1 : Nat) : Int)) = rowsP c a n s m (fun x => if x = 0 then 1 else fl0 x) (manyP s m) := rows_set c a n s m fl0 1 (k := manyP s m) (i := 0) (by omega)
      simp only [eidx, e3, s1]
      rw [dT (by rw [rows_len]; omega)]
      have gv : (rowsP c a n s m (fun x => if x = 0 then 1 else fl0 x) (manyP s m)).getD (5 * q + 2) undef = .int .i64 (((if q = 0 then 1 else 0 : Nat) : Nat) : Int) := by
        rw [rows_getD c a n s m _ (by omega) (by omega)]
        rfl
      simp only [gv]
      rw [show isInt .i64 (.int .i64 (((if q = 0 then 1 else 0 : Nat) : Nat) : Int)) = true from rfl, cond_true]
      rintro x6 e6
      have e6 : x6 = (((if q = 0 then 3 else 2 : Nat) : Nat) : Int) := by
        rw [e6]
        by_cases z : q = 0
        · rw [if_pos z, if_pos z]; rfl
        · rw [if_neg z, if_neg z]; rfl
      rw [dT2 (by omega) (by omega), dT (by rw [rows_len]; omega), e6, rows_set c a n s m _ _ (by omega)]
      rw [rows_congr c a n s m (fl' := flP (manyP s m)) (fun i hi => by
        unfold flP fl0
        by_cases z : i = q
        · rw [if_pos z, if_pos (show i + 1 = manyP s m by omega)]
          by_cases y : q = 0
          · rw [if_pos y, if_pos (by omega)]
          · rw [if_neg y, if_neg (by omega)]
        · rw [if_neg z, if_neg (show ¬ i + 1 = manyP s m by omega)]
          rfl)]
      exact hk
    · exact hk.elim)
theorem okRSplit : SpecOk Try.prog G0 24 sSplit :=
  spec2 mixed none_ok Try.func24 (by kernel_rfl : Try.f24.body = some (codeOf Try.f24)) cRSplit rfl rfl rfl (by kernel_rfl) (ids := [7]) (by kernel_rfl) ⟨loopRSplit, trivial⟩ (by
    intro args h K hk
    unfold sSplit at hk
    split at hk
    · rename_i c a n s m
      obtain ⟨hB, hA⟩ := bad_cases hk
      show bRSplit c a n s m K
      rw [bRSplit_eq]
      by_cases h1 : a < 0
      · rw [dT h1]; exact hA (by omega)
      rw [dF h1]
      by_cases h2 : a > 2046
      · rw [dT h2]; exact hA (by omega)
      rw [dF h2]
      by_cases h3 : n < 0
      · rw [dT h3]; exact hA (by omega)
      rw [dF h3]
      by_cases h4 : n > 16383
      · rw [dT h4]; exact hA (by omega)
      rw [dF h4]
      by_cases h5 : m < 1
      · rw [dT h5]; exact hA (by omega)
      rw [dF h5]
      by_cases h6 : m > 1024
      · rw [dT h6]; exact hA (by omega)
      rw [dF h6, strE]
      by_cases h7 : s.size = 0
      · rw [dT h7]; exact hA (by omega)
      rw [dF h7]
      have hk := hB (by omega)
      rintro _ rfl
      by_cases h8 : ((s.size : Nat) : Int) > 16384
      · rw [dT (by omega)] at hk
        rw [dT h8]; exact hk
      rw [dF (by omega)] at hk
      rw [dF h8]
      exact ⟨by omega, by omega, by omega, by omega, by omega, by omega, by omega, hk⟩
    · exact hk.elim)

/-! ### Idle -/
theorem zeros (k : Nat) : bytesOf (List.take (k * 1) (List.drop 0 (List.replicate k (Value.int .u8 0)))) = ⟨⟨List.replicate k 0⟩⟩ := by
  rw [List.drop_zero, List.take_of_length_le (by rw [List.length_replicate]; omega)]
  unfold bytesOf
  rw [List.map_replicate]
  rfl
theorem zeros_all (k : Nat) : List.all (List.take (k * 1) (List.drop 0 (List.replicate k (Value.int .u8 0)))) (isInt .u8) = true := by
  rw [List.drop_zero, List.take_of_length_le (by rw [List.length_replicate]; omega), List.all_eq_true]
  intro v hv
  rw [List.eq_of_mem_replicate hv]
  rfl
theorem tIdle_ok : AllOk Try.prog G0 tIdle := ⟨okEnc, okCode, trivial⟩
theorem idle_key {n : Int} {K : Value → AHeap → Prop} (h1 : ¬ n ≤ 6) (h2 : ¬ n > 1030) (hk : K (.tuple ⟨[.string (idleS n), .int .i64 (idleE n)]⟩) []) : (∀ x1 : Int, ((x1 = (iSub IntKind.i64 n (6 : Int))) → (cond (((((((decide (((0 : Int) ≤ x1))) && (decide ((x1 ≤ x1)))) && (decide ((x1 ≤ (9223372036854775807 : Int))))) && (decide ((((1 : Int) * x1 : Int) ≤ (281474976710656 : Int))))) && Bool.true) && Bool.true) && Bool.true) (cond (decide (((0 + ((Int.toNat x1) * (1 : Nat) : Nat) : Nat) ≤ (List.length (List.replicate (Int.toNat x1) (Value.int IntKind.u8 (0 : Int))))))) (cond (List.all (List.take ((Int.toNat x1) * (1 : Nat) : Nat) (List.drop 0 (List.replicate (Int.toNat x1) (Value.int IntKind.u8 (0 : Int))))) (isInt IntKind.u8)) (∀ x2 : ByteArray, ((x2 = (bytesOf (List.take ((Int.toNat x1) * (1 : Nat) : Nat) (List.drop 0 (List.replicate (Int.toNat x1) (Value.int IntKind.u8 (0 : Int))))))) → (((validB (2047 : Int) (3 : Int) (0 : Int) x2) = Bool.true) ∧ (∀ x3 : ByteArray, ((x3 = (encS Bool.false (2047 : Nat) (3 : Nat) 0 x2)) → (K (Value.tuple (Array.mk [(Value.string x3), (Value.int IntKind.i64 (0 : Int))])) [])))))) False) False) False))) := by
  rintro x1 e1
  rw [iSub_i64 (by omega) (by omega)] at e1
  rw [decide_eq_true (show (0 : Int) ≤ x1 by omega), decide_eq_true (show x1 ≤ x1 by omega), decide_eq_true (show x1 ≤ 9223372036854775807 by omega), decide_eq_true (show 1 * x1 ≤ 281474976710656 by omega)]
  simp only [Bool.and_self, cond_true]
  rw [List.length_replicate, dT (by omega), zeros_all, cond_true]
  rintro x2 e2
  rw [zeros] at e2
  have hsz : x2.size = x1.toNat := by rw [e2]; show (List.replicate x1.toNat (0 : UInt8)).length = _; rw [List.length_replicate]
  refine ⟨validB_iff.2 (by omega), ?_⟩
  rintro x3 e3
  unfold idleS idleE at hk
  rw [if_neg (by omega), if_neg (by omega)] at hk
  have : x1.toNat = n.toNat - 6 := by omega
  rw [e3, e2, this]
  exact hk
theorem okIdle : SpecOk Try.prog G0 25 sIdle :=
  spec2 mixed tIdle_ok Try.func25 (by kernel_rfl : Try.f25.body = some (codeOf Try.f25)) cIdle rfl rfl rfl (by kernel_rfl) (ids := []) (by kernel_rfl) trivial (by
    intro args h K hk
    unfold sIdle at hk
    split at hk
    · rename_i n
      show bIdle n K
      rw [bIdle_eq]
      by_cases h1 : n ≤ 6
      · unfold idleS idleE at hk
        rw [if_pos (.inl h1), if_pos (.inl h1)] at hk
        rw [dT h1]; exact hk
      rw [dF h1]
      by_cases h2 : n > 1030
      · unfold idleS idleE at hk
        rw [if_pos (.inr h2), if_pos (.inr h2)] at hk
        rw [dT h2]; exact hk
      rw [dF h2]
      exact idle_key h1 h2 hk
    · exact hk.elim)
theorem okRIdle : SpecOk Try.prog G0 26 sIdle :=
  spec2 mixed tIdle_ok Try.func26 (by kernel_rfl : Try.f26.body = some (codeOf Try.f26)) cRIdle rfl rfl rfl (by kernel_rfl) (ids := []) (by kernel_rfl) trivial (by
    intro args h K hk
    unfold sIdle at hk
    split at hk
    · rename_i n
      show bRIdle n K
      rw [bRIdle_eq]
      by_cases h1 : n < 7
      · unfold idleS idleE at hk
        rw [if_pos (.inl (by omega)), if_pos (.inl (by omega))] at hk
        rw [dT h1]; exact hk
      rw [dF h1]
      by_cases h2 : n > 1030
      · unfold idleS idleE at hk
        rw [if_pos (.inr h2), if_pos (.inr h2)] at hk
        rw [dT h2]; exact hk
      rw [dF h2]
      exact idle_key (by omega) h2 hk
    · exact hk.elim)

/-! ### same -/
theorem loopSame : ∀ e h k, TSame e h k → ∃ m, loopN cSame (codeOf Try.f27) 0 4 m e h k := by
  intro e h k hT
  unfold TSame at hT
  split at hT
  · rename_i L L2 R mv R2 mv2
    obtain ⟨⟨rfl, rfl, hL, c, a, n, s, m, fl, rfl⟩, hk⟩ := hT
    have key : ∀ (q j : Nat), j + q = L → loopN cSame (codeOf Try.f27) 0 4 (q + 1) [(0, outV L), (1, outW L), (5, .int .i64 ((j : Nat) : Int))] (two2 (rowsP c a n s m fl L) mv mv2) k := by
      intro q
      induction q with
      | zero =>
        intro j hj
        rw [loopN_succ]
        show tSm L _ _ mv mv2 _
        rw [tSm_eq]
        rintro x1 rfl
        rw [dF (by omega)]
        exact hk
      | succ q ih =>
        intro j hj
        rw [loopN_succ]
        show tSm L _ _ mv mv2 _
        rw [tSm_eq]
        rintro x1 rfl
        have g0 := rows_getD c a n s m fl (k := L) (i := j) (q := 0) (by omega) (by omega)
        have g1 := rows_getD c a n s m fl (k := L) (i := j) (q := 1) (by omega) (by omega)
        have g2 := rows_getD c a n s m fl (k := L) (i := j) (q := 2) (by omega) (by omega)
        have g3 := rows_getD c a n s m fl (k := L) (i := j) (q := 3) (by omega) (by omega)
        have g4 := rows_getD c a n s m fl (k := L) (i := j) (q := 4) (by omega) (by omega)
        have hj5 : ((j : Nat) : Int).toNat * 5 = 5 * j := by rw [Int.toNat_natCast]; omega
        rw [hj5, rows_len]
        rw [show 5 * j = 5 * j + 0 from rfl, g0, show 5 * j + 0 + 1 = 5 * j + 1 from rfl, g1, show 5 * j + 1 + 1 = 5 * j + 2 from rfl, g2, show 5 * j + 2 + 1 = 5 * j + 3 from rfl, g3, show 5 * j + 3 + 1 = 5 * j + 4 from rfl, g4]
        rw [dT (by omega), dT2 (by omega) (by omega), dT (by omega)]
        show cond true (cond true (cond true (cond true (cond true _ False) False) False) False) False
        simp only [cond_true]
        rw [dT2 (by omega) (by omega), dT (by omega)]
        show cond true (cond true (cond true (cond true (cond true _ False) False) False) False) False
        simp only [cond_true, strEq_self, decide_true, Bool.and_self, Bool.not_true, cond_false]
        rintro x2 e2
        rw [iAdd_i64 (by omega) (by omega)] at e2
        obtain rfl : x2 = ((j + 1 : Nat) : Int) := by omega
        exact ih (j + 1) (by omega)
    exact ⟨_, key L 0 (by omega)⟩
  · exact hT.elim
theorem okSameA : SpecOk Try.prog G0 27 (fun args h K => args = [.slice none 0 0, .slice none 0 0] ∧ h = [] ∧ K (.bool true) []) :=
  spec2 mixed none_ok Try.func27 (by kernel_rfl : Try.f27.body = some (codeOf Try.f27)) cSame0 rfl rfl rfl (by kernel_rfl) rfl (eachNone (fun _ => rfl) _ 0) (by
    rintro args h K ⟨rfl, rfl, hk⟩
    show bSame0 K
    rw [bSame0_eq]
    exact hk)
theorem okSameB : SpecOk Try.prog G0 27 (fun args h K => ∃ L R mv mv2, args = [outV L, outW L] ∧ h = two2 R mv mv2 ∧ isRows L R ∧ K (.bool true) (two2 R mv mv2)) :=
  spec2 mixed none_ok Try.func27 (by kernel_rfl : Try.f27.body = some (codeOf Try.f27)) cSame rfl rfl rfl (by kernel_rfl) (ids := [4]) (by kernel_rfl) ⟨loopSame, trivial⟩ (by
    rintro args h K ⟨L, R, mv, mv2, rfl, rfl, hr, hk⟩
    show bSame L R mv mv2 K
    rw [bSame_eq]
    rintro x1 rfl x2 rfl
    rw [dnT rfl]
    exact ⟨⟨rfl, rfl, hr⟩, hk⟩)
theorem okSame : SpecOk Try.prog G0 27 sSame := ok_or okSameA okSameB (by
  intro args h K hk
  unfold sSame at hk
  split at hk
  · exact .inl ⟨rfl, rfl, hk⟩
  · obtain ⟨⟨rfl, rfl, hr⟩, hk⟩ := hk
    exact .inr ⟨_, _, _, _, rfl, rfl, hr, hk⟩
  · exact hk.elim)
theorem tSpls_ok : AllOk Try.prog G0 tSpls := ⟨okShown, okSplit, okRSplit, okIdle, okRIdle, okSame, trivial⟩
def sSpls : Spec := fun args h K => match args, h with
  | [.agg ⟨[.bool _, .int .i64 _, .int .i64 _, .int .i64 _, .string _]⟩, .int .i64 _], [] => K (.bool true) []
  | _, _ => False
theorem okSpls : SpecOk Try.prog G0 7 sSpls :=
  spec2 mixed tSpls_ok Try.func7 (by kernel_rfl : Try.f7.body = some (codeOf Try.f7)) cSpls rfl rfl rfl (by kernel_rfl) (ids := []) (by kernel_rfl) trivial (by
    intro args h K hk
    unfold sSpls at hk
    split at hk
    · rename_i c a n m s z
      show bSpls c a n m s z K
      rw [bSpls_eq]
      simp only [forall_eq, strEq_self, cond_true, decide_true]
      by_cases h : ((s.size : Nat) : Int) > 20000
      · rw [dT h]; exact hk
      rw [dF h]
      cases hb : badS a n m s with
      | true =>
        simp only [cond_true]
        exact hk
      | false =>
        simp only [cond_false]
        by_cases hl : s.size > 16384
        · rw [dT hl, dT hl]
          exact hk
        rw [dF hl]
        intro mv
        rw [dF hl]
        intro mv2
        have hm : manyP s m.toNat ≤ 20000 := by
          have h1 : manyP s m.toNat ≤ s.size + m.toNat - 1 := Nat.div_le_self _ _
          unfold badS at hb
          have := of_decide_eq_false hb
          omega
        refine ⟨⟨trivial, trivial, hm, c, a.toNat, n.toNat, s, m.toNat, _, rfl⟩, ?_⟩
        exact hk
    · exact hk.elim)
end Go.Am.Pkt
