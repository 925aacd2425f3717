/-
  Cltu: the division as the reference does it. Own work; plain mathematics.
-/
import Derived.Test.YtoeepogoogcbiaaDoorCltB
namespace Go.Am.Clt
open Go Go.Am Go.Am.Lib Go.Proofs
set_option maxRecDepth 100000

def bits7 (r : Nat) : List Nat := [r / 64 % 2, r / 32 % 2, r / 16 % 2, r / 8 % 2, r / 4 % 2, r / 2 % 2, r % 2]
theorem bits7_ok (r : Nat) : Bits (bits7 r) := fun x hx => by
  unfold bits7 at hx
  simp only [List.mem_cons, List.not_mem_nil, or_false] at hx
  rcases hx with rfl | rfl | rfl | rfl | rfl | rfl | rfl <;> omega
theorem bitV_bits7 (r : Nat) : bitV (bits7 r) = restV r := rfl
theorem winG_app (pre : List Nat) : ∀ n k (t : List Nat), winG pre.length n k (pre ++ t) = pre ++ winG 0 n k t
  | 0, _, _ => rfl
  | n + 1, k, t => by
    rw [winG, winG, List.set_append_right _ _ (by omega), Nat.zero_add, show pre.length + k - pre.length = k by omega]
    have : (pre ++ t).getD (pre.length + k) 0 = t.getD k 0 := by
      rw [List.getD_eq_getElem?_getD, List.getD_eq_getElem?_getD, List.getElem?_append_right (by omega), show pre.length + k - pre.length = k by omega]
    rw [this, winG_app pre n (k + 1)]
theorem getD_app (pre t : List Nat) : (pre ++ t).getD pre.length 0 = t.getD 0 0 := by
  rw [List.getD_eq_getElem?_getD, List.getD_eq_getElem?_getD, List.getElem?_append_right (by omega), Nat.sub_self]
/-- Eight coefficients of which the first seven are the register: the divisor's added, if the first is one. -/
theorem win8 : ∀ (r : Fin 128) (b : Fin 2), (if (bits7 r.val).getD 0 0 = 1 then winG 0 8 0 (bits7 r.val ++ [b.val]) else bits7 r.val ++ [b.val]) = 0 :: bits7 (step r.val b.val) := by decide +kernel
theorem winG8_app (a b c d e f g h : Nat) (t : List Nat) : winG 0 8 0 (a :: b :: c :: d :: e :: f :: g :: h :: t) = winG 0 8 0 [a, b, c, d, e, f, g, h] ++ t := rfl
theorem red1_at (pre : List Nat) {r b : Nat} (hr : r < 128) (hb : b < 2) (t : List Nat) : red1 pre.length (pre ++ (bits7 r ++ b :: t)) = (pre ++ [0]) ++ (bits7 (step r b) ++ t) := by
  have hw := win8 ⟨r, hr⟩ ⟨b, hb⟩
  dsimp only at hw
  unfold red1
  rw [getD_app]
  have h0 : (bits7 r ++ b :: t).getD 0 0 = (bits7 r).getD 0 0 := rfl
  rw [h0]
  split
  · next h =>
    rw [if_pos h] at hw
    rw [winG_app]
    show pre ++ winG 0 8 0 (r / 64 % 2 :: r / 32 % 2 :: r / 16 % 2 :: r / 8 % 2 :: r / 4 % 2 :: r / 2 % 2 :: r % 2 :: b :: t) = _
    rw [winG8_app]
    show pre ++ (winG 0 8 0 (bits7 r ++ [b]) ++ t) = _
    rw [hw, List.append_assoc]
    rfl
  · next h =>
    rw [if_neg h] at hw
    rw [show bits7 r ++ b :: t = (bits7 r ++ [b]) ++ t from by rw [List.append_assoc]; rfl, hw, List.append_assoc]
    rfl
theorem redG_at : ∀ (t : List Nat) (pre : List Nat) {r : Nat}, r < 128 → Bits t → redG t.length pre.length (pre ++ (bits7 r ++ t)) = (pre ++ List.replicate t.length 0) ++ bits7 (fold t r)
  | [], pre, r, _, _ => by show pre ++ (bits7 r ++ []) = (pre ++ []) ++ bits7 r; rw [List.append_nil, List.append_nil]
  | b :: t, pre, r, hr, ht => by
    have hb := ht b List.mem_cons_self
    rw [List.length_cons, redG, red1_at pre hr hb, show pre.length + 1 = (pre ++ [0]).length from by rw [List.length_append]; rfl,
      redG_at t (pre ++ [0]) (step_lt' hr hb) (fun x hx => ht x (List.mem_cons_of_mem _ hx)), fold_cons, List.replicate_succ, List.append_assoc pre [0]]
    rfl
theorem seven_fold : ∀ a b c d e f g : Fin 2, bits7 (fold [a.val, b.val, c.val, d.val, e.val, f.val, g.val] 0) = [a.val, b.val, c.val, d.val, e.val, f.val, g.val] := by decide +kernel
/-- What the reference's division leaves. -/
theorem redG_rest {l : List Nat} (hl : l.length = 63) (hb : Bits l) : redG 56 0 l = List.replicate 56 0 ++ bits7 (fold l 0) := by
  match l, hl with
  | a :: b :: c :: d :: e :: f :: g :: t, hl =>
    have ht : t.length = 56 := by simpa using hl
    have hm : ∀ x, x ∈ [a, b, c, d, e, f, g] → x < 2 := fun x hx => hb x (by
      rw [show a :: b :: c :: d :: e :: f :: g :: t = [a, b, c, d, e, f, g] ++ t from rfl]; exact List.mem_append_left _ hx)
    have h7 := seven_fold ⟨a, hm a (by simp)⟩ ⟨b, hm b (by simp)⟩ ⟨c, hm c (by simp)⟩ ⟨d, hm d (by simp)⟩ ⟨e, hm e (by simp)⟩ ⟨f, hm f (by simp)⟩ ⟨g, hm g (by simp)⟩
    dsimp only at h7
    have hlt : fold [a, b, c, d, e, f, g] 0 < 128 := fold_lt _ hm (by omega)
    have h := redG_at t [] hlt (fun x hx => hb x (by simp [hx]))
    rw [h7, ht] at h
    rw [show fold (a :: b :: c :: d :: e :: f :: g :: t) 0 = fold t (fold [a, b, c, d, e, f, g] 0) from rfl]
    exact h
theorem rest_getD (l : List Nat) (r j : Nat) (hj : j < 7) (hl : l = List.replicate 56 0 ++ bits7 r) : l.getD (56 + j) 0 = (bits7 r).getD j 0 := by
  rw [hl, List.getD_eq_getElem?_getD, List.getElem?_append_right (by rw [List.length_replicate]; omega), List.length_replicate, List.getD_eq_getElem?_getD, show 56 + j - 56 = j by omega]
theorem winG_len (i : Nat) : ∀ n k (l : List Nat), (winG i n k l).length = l.length
  | 0, _, _ => rfl
  | n + 1, k, l => by rw [winG, winG_len i n, List.length_set]
theorem winG_bits (i : Nat) : ∀ n k (l : List Nat), Bits l → Bits (winG i n k l)
  | 0, _, _, h => h
  | n + 1, k, l, h => by
    rw [winG]
    refine winG_bits i n _ _ fun x hx => ?_
    rcases List.mem_or_eq_of_mem_set hx with h1 | h1
    · exact h x h1
    · rw [h1]; exact Nat.mod_lt _ (by omega)
theorem red1_len (i : Nat) (l : List Nat) : (red1 i l).length = l.length := by unfold red1; split; exact winG_len _ _ _ _; rfl
theorem red1_bits (i : Nat) {l : List Nat} (h : Bits l) : Bits (red1 i l) := by unfold red1; split; exact winG_bits _ _ _ _ h; exact h
theorem getD_bit {l : List Nat} (h : Bits l) (i : Nat) : l.getD i 0 < 2 := by
  rw [List.getD_eq_getElem?_getD]
  cases e : l[i]? with
  | none => decide
  | some x => exact h x (List.mem_of_getElem? e)

/-! ### the reference's Rest -/
theorem gL_at : ∀ i : Fin 8, gL.getD i.val 0 < 2 := by decide +kernel
theorem gV_at : ∀ i : Fin 8, gV.getD i.val undef = .int .i64 ((gL.getD i.val 0 : Nat) : Int) ∧ gL.getD i.val 0 < 2 := fun i => ⟨match i with
  | ⟨0, _⟩ => rfl | ⟨1, _⟩ => rfl | ⟨2, _⟩ => rfl | ⟨3, _⟩ => rfl
  | ⟨4, _⟩ => rfl | ⟨5, _⟩ => rfl | ⟨6, _⟩ => rfl | ⟨7, _⟩ => rfl
  | ⟨_ + 8, h⟩ => absurd h (by omega), gL_at i⟩
theorem loopR8 : ∀ e h k, TR8 e h k → ∃ m, loopN cRst (codeOf Tryd.f27) 1 8 m e h k := by
  intro e h k hT
  unfold TR8 at hT
  split at hT
  · rename_i n c i j L0 ty0 mv0 M ty mv Z ty2 mv2 G ty3 mv3
    obtain ⟨rfl, rfl, ⟨hM0, hM1, hM2⟩, i0, i1, rfl, hk⟩ := hT
    obtain ⟨m, rfl⟩ := nat_of i0
    rw [Int.toNat_natCast] at hk
    refine ⟨9, ?_⟩
    have key : ∀ n j : Nat, ∀ l : List Nat, j + n = 8 → l.length = 63 → Bits l → k (.exit 2) [(0, .slice (some ⟨1, 0, some 0⟩) 63 c), (2, .pointer (some ⟨2, 0, some 0⟩)), (3, .pointer (some ⟨3, 0, some 0⟩)), (4, .int .i64 ((m : Nat) : Int))] [.cells true L0 ty0 mv0, .cells true (bitV (winG m n j l)) ty mv, .cells true Z ty2 mv2, .cells true gV ty3 mv3] →
        loopN cRst (codeOf Tryd.f27) 1 8 (n + 1) [(0, .slice (some ⟨1, 0, some 0⟩) 63 c), (2, .pointer (some ⟨2, 0, some 0⟩)), (3, .pointer (some ⟨3, 0, some 0⟩)), (4, .int .i64 ((m : Nat) : Int)), (5, .int .i64 ((j : Nat) : Int))] [.cells true L0 ty0 mv0, .cells true (bitV l) ty mv, .cells true Z ty2 mv2, .cells true gV ty3 mv3] k := by
      intro n
      induction n with
      | zero =>
        intro j l hj hl hb hk
        rw [loopN_succ]
        show tR8 L0 (bitV l) Z gV c ty0 ty ty2 ty3 mv0 mv mv2 mv3 (m : Nat) (j : Nat) _
        rw [tR8_eq, dF (by omega)]
        exact hk
      | succ n ih =>
        intro j l hj hl hb hk
        rw [loopN_succ]
        show tR8 L0 (bitV l) Z gV c ty0 ty ty2 ty3 mv0 mv mv2 mv3 (m : Nat) (j : Nat) _
        have hg := gV_at ⟨j, by omega⟩
        dsimp only at hg
        have h2 := getD_bit hb (m + j)
        rw [tR8_eq, dT (by omega)]
        intro x1 h1 x2 h2'
        rw [iAdd_i64 (by omega) (by omega)] at h1 h2'
        obtain rfl : x1 = ((m + j : Nat) : Int) := by omega
        obtain rfl : x2 = ((m + j : Nat) : Int) := by omega
        rw [dT2 (by omega) (by omega), dT2 (by omega) (by omega), Int.toNat_natCast, Int.toNat_natCast, bitV_len, bitV_getD l (by omega), hg.1]
        have step : ∀ x : Int, x = iAdd .i64 ((l.getD (m + j) 0 : Nat) : Int) ((gL.getD j 0 : Nat) : Int) → ∀ y : Int, y = Int.tmod x 2 → ∀ z : Int, z = iAdd .i64 (j : Nat) 1 →
            loopN cRst (codeOf Tryd.f27) 1 8 (n + 1) [(0, .slice (some ⟨1, 0, some 0⟩) 63 c), (2, .pointer (some ⟨2, 0, some 0⟩)), (3, .pointer (some ⟨3, 0, some 0⟩)), (4, .int .i64 ((m : Nat) : Int)), (5, .int .i64 z)] [.cells true L0 ty0 mv0, .cells true (List.set (bitV l) (m + j) (.int .i64 y)) ty mv, .cells true Z ty2 mv2, .cells true gV ty3 mv3] k := by
          intro x hx y hy z hz
          rw [iAdd_i64 (by omega) (by omega)] at hx hz
          obtain rfl : x = ((l.getD (m + j) 0 + gL.getD j 0 : Nat) : Int) := by omega
          rw [show (2 : Int) = ((2 : Nat) : Int) from rfl, tmod_cast] at hy
          obtain rfl : z = ((j + 1 : Nat) : Int) := by omega
          rw [hy, bitV_set]
          refine ih (j + 1) _ (by omega) (by rw [List.length_set]; exact hl) (fun x hx => ?_) hk
          rcases List.mem_or_eq_of_mem_set hx with h1 | h1
          · exact hb x h1
          · rw [h1]; exact Nat.mod_lt _ (by omega)
        constructor
        · rw [dT (by omega), isInt_int, cond_true, dT (by show j + 1 ≤ 8; omega), isInt_int, cond_true]
          intro x3 h3 x4 h4
          rw [dT2 (by omega) (by omega), dT (by omega)]
          intro x5 h5
          exact step x3 h3 x4 h4 x5 h5
        · rw [dT (by show j + 1 ≤ 8; omega), isInt_int, cond_true, dT (by omega), isInt_int, cond_true]
          intro x3 h3 x4 h4
          rw [dT2 (by omega) (by omega), dT (by omega)]
          intro x5 h5
          exact step x3 h3 x4 h4 x5 h5
    rw [hM1]
    exact key 8 0 (bitsOf M) (by omega) (by rw [← hM0]; unfold bitsOf; rw [List.length_map]) hM2 hk
  · exact hT.elim
theorem loopR4 : ∀ e h k, TR4 e h k → ∃ m, loopN cRst (codeOf Tryd.f27) 0 4 m e h k := by
  intro e h k hT
  unfold TR4 at hT
  split at hT
  · rename_i n c i L0 ty0 mv0 M ty mv Z ty2 mv2 G ty3 mv3
    obtain ⟨rfl, rfl, ⟨hM0, hM1, hM2⟩, rfl, hk⟩ := hT
    refine ⟨57, ?_⟩
    have key : ∀ n i : Nat, ∀ l : List Nat, i + n = 56 → l.length = 63 → Bits l → k (.exit 0) [(0, .slice (some ⟨1, 0, some 0⟩) 63 c), (2, .pointer (some ⟨2, 0, some 0⟩))] [.cells true L0 ty0 mv0, .cells true (bitV (redG n i l)) ty mv, .cells true Z ty2 mv2] →
        loopN cRst (codeOf Tryd.f27) 0 4 (n + 1) [(0, .slice (some ⟨1, 0, some 0⟩) 63 c), (2, .pointer (some ⟨2, 0, some 0⟩)), (3, .pointer (some ⟨3, 0, some 0⟩)), (4, .int .i64 ((i : Nat) : Int))] [.cells true L0 ty0 mv0, .cells true (bitV l) ty mv, .cells true Z ty2 mv2, .cells true gV ty3 mv3] k := by
      intro n
      induction n with
      | zero =>
        intro i l hi hl hb hk
        rw [loopN_succ]
        show tR4 L0 (bitV l) Z gV c ty0 ty ty2 ty3 mv0 mv mv2 mv3 (i : Nat) _
        rw [tR4_eq]
        intro x1 h1 x2 h2
        rw [iAdd_i64 (by omega) (by omega)] at h1
        rw [dF (by omega)]
        exact hk
      | succ n ih =>
        intro i l hi hl hb hk
        rw [loopN_succ]
        show tR4 L0 (bitV l) Z gV c ty0 ty ty2 ty3 mv0 mv mv2 mv3 (i : Nat) _
        rw [tR4_eq]
        intro x1 h1 x2 h2
        rw [iAdd_i64 (by omega) (by omega)] at h1
        rw [dT (by omega), dT2 (by omega) (by omega), Int.toNat_natCast, bitV_len, dT (by omega), bitV_getD l (by omega), isInt_int, cond_true, intOf_int]
        rw [redG] at hk
        by_cases h1 : l.getD i 0 = 1
        · rw [dT (by omega)]
          refine ⟨rfl, rfl, goodL hl hb, by omega, by omega, rfl, ?_⟩
          intro x4 h4
          rw [iAdd_i64 (by omega) (by omega)] at h4
          obtain rfl : x4 = ((i + 1 : Nat) : Int) := by omega
          rw [bitsOf_bitV]
          unfold red1 at hk
          rw [if_pos h1] at hk
          exact ih (i + 1) _ (by omega) (by rw [winG_len]; exact hl) (winG_bits _ _ _ _ hb) hk
        · rw [dF (by omega)]
          intro x4 h4
          rw [iAdd_i64 (by omega) (by omega)] at h4
          obtain rfl : x4 = ((i + 1 : Nat) : Int) := by omega
          unfold red1 at hk
          rw [if_neg h1] at hk
          exact ih (i + 1) _ (by omega) hl hb hk
    rw [hM1]
    exact key 56 0 (bitsOf M) (by omega) (by rw [← hM0]; unfold bitsOf; rw [List.length_map]) hM2 hk
  · exact hT.elim
theorem cellsAt_all (L : List Value) (h : L.length = 63) : List.append (cellsAt [] 0 0) (cellsAt L 0 63) = L := by
  show List.take 63 (List.drop 0 L) = L
  rw [List.drop_zero, List.take_of_length_le (Nat.le_of_eq h)]
theorem okRst : SpecOk Tryd.prog G0 27 sRst :=
  spec2 mixed none_ok Tryd.func27 (by kernel_rfl : Tryd.f27.body = some (codeOf Tryd.f27)) cRst rfl rfl rfl (by kernel_rfl) (ids := [4, 8, 13]) (by kernel_rfl) ⟨by intro e h k hT; exact loopR4 e h k hT, by intro e h k hT; exact loopR8 e h k hT, trivial, trivial⟩ (by
    intro args h K hk
    unfold sRst at hk
    split at hk
    · rename_i n c L ty mv
      obtain ⟨rfl, hL, hk⟩ := hk
      show bRst L c ty mv K
      rw [bRst_eq]
      have hL' := hL
      obtain ⟨h0, h1, h2⟩ := hL'
      rw [cellsAt_all L h0, dT (by omega)]
      refine ⟨rfl, rfl, hL, rfl, ?_⟩
      have hl : (bitsOf L).length = 63 := by rw [← h0]; unfold bitsOf; rw [List.length_map]
      have hr := redG_rest hl h2
      have hlen : (redG 56 0 (bitsOf L)).length = 63 := by rw [hr, List.length_append, List.length_replicate]; rfl
      rw [bitV_len, hlen]
      rw [bitV_getD _ (show 62 < _ by omega), bitV_getD _ (show 61 < _ by omega), bitV_getD _ (show 60 < _ by omega), bitV_getD _ (show 59 < _ by omega), bitV_getD _ (show 58 < _ by omega), bitV_getD _ (show 57 < _ by omega), bitV_getD _ (show 56 < _ by omega)]
      simp only [isInt_int, intOf_int, cond_true]
      rw [dT (by omega), dT (by omega), dT (by omega), dT (by omega), dT (by omega), dT (by omega), dT (by omega)]
      rw [rest_getD _ _ 0 (by omega) hr, rest_getD _ _ 1 (by omega) hr, rest_getD _ _ 2 (by omega) hr, rest_getD _ _ 3 (by omega) hr, rest_getD _ _ 4 (by omega) hr, rest_getD _ _ 5 (by omega) hr, rest_getD _ _ 6 (by omega) hr]
      exact hk
    · exact hk.elim)
end Go.Am.Clt
