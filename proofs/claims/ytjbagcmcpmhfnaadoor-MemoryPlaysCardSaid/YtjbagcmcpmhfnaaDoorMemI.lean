/-
  Memory: Reset, Scrub proved, of the program and of the reference. Own work.
-/
import Derived.Test.YtjbagcmcpmhfnaaDoorMemH
namespace Go.Am.Mem
open Go Go.Am Go.Am.Ham Go.Proofs
set_option maxRecDepth 100000

theorem setCells_eq : ∀ (l vs : List Value) (off : Nat), off + l.length ≤ vs.length → setCells vs off l = vs.take off ++ (l ++ vs.drop (off + l.length))
  | [], vs, off, _ => by simp [setCells]
  | x :: r, vs, off, h => by
    rw [List.length_cons] at h
    have hlt : off < vs.length := by omega
    rw [setCells, setCells_eq r _ (off + 1) (by rw [List.length_set]; omega), List.set_eq_take_append_cons_drop, if_pos hlt]
    have e1 : (List.take off vs ++ x :: List.drop (off + 1) vs).take (off + 1) = List.take off vs ++ [x] := by
      rw [List.take_append, List.take_of_length_le (by rw [List.length_take]; omega), List.length_take, Nat.min_eq_left (by omega), Nat.add_sub_cancel_left]
      rfl
    have e2 : (List.take off vs ++ x :: List.drop (off + 1) vs).drop (off + 1 + r.length) = vs.drop (off + (r.length + 1)) := by
      rw [List.drop_append, List.drop_eq_nil_of_le (by rw [List.length_take]; omega), List.length_take, Nat.min_eq_left (by omega), List.nil_append, show off + 1 + r.length - off = r.length + 1 by omega, List.drop_succ_cons, List.drop_drop]
      congr 1; omega
    rw [e1, e2, List.length_cons, List.append_assoc, List.cons_append, List.nil_append, List.cons_append]

theorem zero_all {m : Mem} (h : m.W.length = m.n) : zeroFrom m m.n = m := by
  unfold zeroFrom
  rw [Nat.sub_self, List.replicate_zero, List.append_nil, List.take_of_length_le (by omega)]
theorem zero_step {m : Mem} {i : Nat} (h : m.W.length = m.n) (hi : i < m.n) : zeroFrom (setW m i 0) (i + 1) = zeroFrom m i := by
  unfold zeroFrom setW
  have : (m.W.set i (.int .u64 ((0 : Nat) : Int))).take (i + 1) ++ List.replicate (m.n - (i + 1)) (Value.int .u64 0) = m.W.take i ++ List.replicate (m.n - i) (.int .u64 0) := by
    rw [List.set_eq_take_append_cons_drop, if_pos (by omega), List.take_append, List.take_of_length_le (by rw [List.length_take]; omega), List.length_take, Nat.min_eq_left (by omega), Nat.add_sub_cancel_left,
      show m.n - i = (m.n - (i + 1)) + 1 by omega, List.replicate_succ, List.append_assoc]
    rfl
  dsimp only
  rw [this]
theorem ok_zero {m : Mem} (h : OkM m) (i : Nat) : OkM (zeroFrom m i) where
  len := by
    show (m.W.take i ++ List.replicate (m.n - i) _).length = m.n
    rw [List.length_append, List.length_take, List.length_replicate, h.len]; omega
  word := fun j hj => by
    have hj : j < m.n := hj
    show (m.W.take i ++ List.replicate (m.n - i) _).getD j undef = .int .u64 (((intOf ((m.W.take i ++ List.replicate (m.n - i) _).getD j undef)).toNat : Nat) : Int)
    rw [List.getD_eq_getElem?_getD]
    by_cases e : j < i
    · rw [List.getElem?_append_left (by rw [List.length_take, h.len]; omega), List.getElem?_take_of_lt e, ← List.getD_eq_getElem?_getD]; exact h.word j hj
    · rw [List.getElem?_append_right (by rw [List.length_take, h.len]; omega), List.length_take, h.len, List.getElem?_replicate, if_pos (by omega)]; rfl
  lt := fun j hj => by
    have hj : j < m.n := hj
    show (intOf ((m.W.take i ++ List.replicate (m.n - i) _).getD j undef)).toNat < 2 ^ 39
    rw [List.getD_eq_getElem?_getD]
    by_cases e : j < i
    · rw [List.getElem?_append_left (by rw [List.length_take, h.len]; omega), List.getElem?_take_of_lt e, ← List.getD_eq_getElem?_getD]; exact h.lt j hj
    · rw [List.getElem?_append_right (by rw [List.length_take, h.len]; omega), List.length_take, h.len, List.getElem?_replicate, if_pos (by omega)]; decide
  pos := h.pos
  le := h.le
  safe0 := h.safe0
  safe1 := h.safe1
  scrub0 := h.scrub0
  scrub1 := h.scrub1
theorem zero_at {m : Mem} (h : OkM m) {i j : Nat} (hj : j < m.n) : wordAt (zeroFrom m i) j = if j < i then wordAt m j else 0 := by
  show (intOf ((m.W.take i ++ List.replicate (m.n - i) _).getD j undef)).toNat = _
  rw [List.getD_eq_getElem?_getD]
  by_cases e : j < i
  · rw [List.getElem?_append_left (by rw [List.length_take, h.len]; omega), List.getElem?_take_of_lt e, ← List.getD_eq_getElem?_getD, if_pos e]; rfl
  · rw [List.getElem?_append_right (by rw [List.length_take, h.len]; omega), List.length_take, h.len, List.getElem?_replicate, if_pos (by omega), if_neg e]; rfl
theorem ok_reset {m : Mem} (h : OkM m) : OkM (resetM m) := by
  have g := ok_zero h m.safe.toNat
  exact ⟨g.len, g.word, g.lt, g.pos, g.le, g.safe0, g.safe1, Int.le_refl 0, by show (0 : Int) < m.n; have := h.pos; omega⟩

theorem okReset : SpecOk Tryd.prog G0 32 sReset :=
  spec2 mixed tC_ok Tryd.func32 (by kernel_rfl : Tryd.f32.body = some (codeOf Tryd.f32)) cReset rfl rfl rfl (by kernel_rfl) (ids := []) (by kernel_rfl) trivial (by
    intro args h K hk
    unfold sReset at hk
    split at hk
    · replace hk := asMem_elim hk
      obtain ⟨m, ty, ty2, mv, mv2, rfl, ho, hk⟩ := hk
      show bReset m ty ty2 mv mv2 K
      rw [bReset_eq]
      refine ⟨ho.le, ?_⟩
      rintro x1 h1
      have hp := ho.pos
      have hs0 := ho.safe0
      have hs1 := ho.safe1
      have hl := ho.len
      rw [dnT (by rw [h1, chkM_in (by omega)]; rfl)]
      have e : setCells m.W m.safe.toNat (List.replicate (m.n - m.safe.toNat) (Value.int .u64 0)) = (resetM m).W := by
        rw [setCells_eq _ _ _ (by rw [List.length_replicate]; omega), List.length_replicate, List.drop_eq_nil_of_le (by omega), List.append_nil]; rfl
      rw [e, dT2 hs0 hs1, Bool.and_true, Bool.and_true, Bool.and_true, dT (by omega)]
      exact ⟨hk _ rfl, hk _ rfl⟩
    · exact hk.elim)
theorem loopRReset : ∀ e h k, TRReset e h k → ∃ m, loopN cRReset (codeOf Tryd.f86) 0 1 m e h k := by
  intro e h k hT
  unfold TRReset at hT
  split at hT
  · rename_i i
    replace hT := asMem_elim hT
    obtain ⟨m, ty, ty2, mv, mv2, rfl, ho, i0, i1, hk⟩ := hT
    have key : ∀ (c i : Nat) (m : Mem), OkM m → i + c = m.n → (∀ m', m' = zeroFrom m i → k (.exit 0) [(0, ptr0)] (memH m' ty ty2 mv mv2)) →
        loopN cRReset (codeOf Tryd.f86) 0 1 (c + 1) [(0, .pointer (some ⟨0, 0, some 0⟩)), (2, .int .i64 (i : Nat))] (memH m ty ty2 mv mv2) k := by
      intro c
      induction c with
      | zero =>
        intro i m ho hi hk
        rw [loopN_succ]
        show tRReset m ty ty2 mv mv2 i _
        rw [tRReset_eq]
        rintro x1 rfl
        rw [dF (by omega)]
        show k (.exit 0) [(0, ptr0)] (memH m ty ty2 mv mv2)
        exact hk m (by rw [show i = m.n by omega, zero_all ho.len])
      | succ c ih =>
        intro i m ho hi hk
        have hl := ho.len
        have hle := ho.le
        rw [loopN_succ]
        show tRReset m ty ty2 mv mv2 i _
        rw [tRReset_eq]
        rintro x1 rfl
        rw [dT (by omega), dT2 (by omega) (by omega), dT (by omega)]
        rintro x2 h2
        rw [iAdd_i64 (by omega) (by omega)] at h2
        obtain rfl : x2 = ((i + 1 : Nat) : Int) := by omega
        rw [Int.toNat_natCast]
        show loopN cRReset (codeOf Tryd.f86) 0 1 (c + 1) [(0, .pointer (some ⟨0, 0, some 0⟩)), (2, .int .i64 (i + 1 : Nat))] (memH (setW m i 0) ty ty2 mv mv2) k
        exact ih (i + 1) (setW m i 0) (ok_setW ho (by decide)) (by show i + 1 + c = m.n; omega) (fun m' hm => hk m' (by rw [hm, zero_step hl (by omega)]))
    have := key (m.n - i.toNat) i.toNat m ho (by omega) hk
    rw [show ((i.toNat : Nat) : Int) = i by omega] at this
    exact ⟨_, this⟩
  · exact hT.elim
theorem okRReset : SpecOk Tryd.prog G0 86 sReset :=
  spec2 mixed tC_ok Tryd.func86 (by kernel_rfl : Tryd.f86.body = some (codeOf Tryd.f86)) cRReset rfl rfl rfl (by kernel_rfl) (ids := [1]) (by kernel_rfl) ⟨loopRReset, trivial⟩ (by
    intro args h K hk
    unfold sReset at hk
    split at hk
    · replace hk := asMem_elim hk
      obtain ⟨m, ty, ty2, mv, mv2, rfl, ho, hk⟩ := hk
      show bRReset m ty ty2 mv mv2 K
      rw [bRReset_eq]
      refine ⟨ho, ho.safe0, ho.safe1, ?_⟩
      rintro _ rfl
      exact hk _ rfl
    · exact hk.elim)

/-! ### Scrub -/
theorem store_scrub (m : Mem) (i c : Nat) : (storeM m i c).scrub = m.scrub := by unfold storeM; split <;> rfl
theorem count_scrub (m : Mem) (k : Int) : (countM m k).scrub = m.scrub := by unfold countM; split <;> (try split) <;> rfl
theorem readF_scrub (m : Mem) (i : Nat) : (readF m i).scrub = m.scrub := by unfold readF; split <;> (try rw [store_scrub]) <;> exact count_scrub _ _
theorem readF_n (m : Mem) (i : Nat) : (readF m i).n = m.n := by unfold readF; split <;> (try rw [store_n]) <;> exact countM_n _ _
theorem ok_step {m : Mem} (h : OkM m) : OkM (stepM m) := by
  have g := ok_readF h m.scrub.toNat
  have hp := h.pos
  refine ⟨g.len, g.word, g.lt, g.pos, g.le, g.safe0, g.safe1, ?_, ?_⟩
  · show 0 ≤ (m.scrub + 1) % m.n
    exact Int.emod_nonneg _ (by omega)
  · show (m.scrub + 1) % m.n < (readF m m.scrub.toNat).n
    rw [readF_n]; exact Int.emod_lt_of_pos _ (by omega)
theorem step_n (m : Mem) : (stepM m).n = m.n := readF_n m _
theorem wrap64 (n : Int) : IntKind.i64.wrap n = if n % 18446744073709551616 ≥ 9223372036854775808 then n % 18446744073709551616 - 18446744073709551616 else n % 18446744073709551616 := by
  unfold IntKind.wrap; simp [IntKind.bits, IntKind.signed]
/-- The counts are numbers of the machine. -/
structure CntM (m : Mem) : Prop where
  fx0 : -9223372036854775808 ≤ m.fx
  fx1 : m.fx ≤ 9223372036854775807
  lo0 : -9223372036854775808 ≤ m.lo
  lo1 : m.lo ≤ 9223372036854775807
theorem store_fx (m : Mem) (i c : Nat) : (storeM m i c).fx = m.fx ∧ (storeM m i c).lo = m.lo := by unfold storeM; split <;> exact ⟨rfl, rfl⟩
theorem read_cnt (m : Mem) (i : Nat) : (readF m i).fx = (if kindAt m i = 1 then iAdd .i64 m.fx 1 else m.fx) ∧ (readF m i).lo = (if kindAt m i = 2 then iAdd .i64 m.lo 1 else m.lo) := by
  have key : (readF m i).fx = (countM m ((kindAt m i : Nat) : Int)).fx ∧ (readF m i).lo = (countM m ((kindAt m i : Nat) : Int)).lo := by
    unfold readF kindAt
    split
    · exact store_fx _ _ _
    · exact ⟨rfl, rfl⟩
  have e : ∀ k : Nat, (countM m (k : Int)).fx = (if k = 1 then iAdd .i64 m.fx 1 else m.fx) ∧ (countM m (k : Int)).lo = (if k = 2 then iAdd .i64 m.lo 1 else m.lo) := by
    intro k
    unfold countM
    by_cases h1 : k = 1
    · subst h1; exact ⟨rfl, rfl⟩
    · rw [if_neg (by omega)]
      by_cases h2 : k = 2
      · subst h2; exact ⟨rfl, rfl⟩
      · rw [if_neg (by omega), if_neg h1, if_neg h2]; exact ⟨rfl, rfl⟩
  rw [key.1, key.2]; exact e _
theorem cnt_step {m : Mem} (h : CntM m) : CntM (stepM m) ∧ (stepM m).fx = IntKind.i64.wrap (m.fx + (if kindAt m m.scrub.toNat = 1 then 1 else 0)) ∧ (stepM m).lo = IntKind.i64.wrap (m.lo + (if kindAt m m.scrub.toNat = 2 then 1 else 0)) := by
  obtain ⟨e1, e2⟩ := read_cnt m m.scrub.toNat
  have f1 : (stepM m).fx = IntKind.i64.wrap (m.fx + (if kindAt m m.scrub.toNat = 1 then 1 else 0)) := by
    show (readF m _).fx = _
    rw [e1]
    have := h.fx0; have := h.fx1
    split
    · rfl
    · rw [wrap64]; split <;> omega
  have f2 : (stepM m).lo = IntKind.i64.wrap (m.lo + (if kindAt m m.scrub.toNat = 2 then 1 else 0)) := by
    show (readF m _).lo = _
    rw [e2]
    have := h.lo0; have := h.lo1
    split
    · rfl
    · rw [wrap64]; split <;> omega
  refine ⟨⟨?_, ?_, ?_, ?_⟩, f1, f2⟩
  · rw [f1, wrap64]; split <;> omega
  · rw [f1, wrap64]; split <;> omega
  · rw [f2, wrap64]; split <;> omega
  · rw [f2, wrap64]; split <;> omega
theorem scrub_cnt : ∀ (k : Nat) {m : Mem}, CntM m → CntM (scrubM k m) ∧ (scrubM k m).fx = IntKind.i64.wrap (m.fx + scrubN 1 k m) ∧ (scrubM k m).lo = IntKind.i64.wrap (m.lo + scrubN 2 k m)
  | 0, m, h => by
    have := h.fx0; have := h.fx1; have := h.lo0; have := h.lo1
    refine ⟨h, ?_, ?_⟩
    · show m.fx = IntKind.i64.wrap (m.fx + 0); rw [wrap64]; split <;> omega
    · show m.lo = IntKind.i64.wrap (m.lo + 0); rw [wrap64]; split <;> omega
  | k + 1, m, h => by
    obtain ⟨g, f1, f2⟩ := cnt_step h
    obtain ⟨g2, f3, f4⟩ := scrub_cnt k g
    refine ⟨g2, ?_, ?_⟩
    · show (scrubM k (stepM m)).fx = IntKind.i64.wrap (m.fx + (((if kindAt m m.scrub.toNat = 1 then 1 else 0) + scrubN 1 k (stepM m) : Nat) : Int))
      rw [f3, f1, wrap64, wrap64, wrap64]
      generalize scrubN 1 k (stepM m) = N
      split <;> split <;> split <;> split <;> omega
    · show (scrubM k (stepM m)).lo = IntKind.i64.wrap (m.lo + (((if kindAt m m.scrub.toNat = 2 then 1 else 0) + scrubN 2 k (stepM m) : Nat) : Int))
      rw [f4, f2, wrap64, wrap64, wrap64]
      generalize scrubN 2 k (stepM m) = N
      split <;> split <;> split <;> split <;> omega
theorem scrubN_le (c : Nat) : ∀ (k : Nat) (m : Mem), scrubN c k m ≤ k
  | 0, _ => Nat.le_refl 0
  | k + 1, m => by
    have := scrubN_le c k (stepM m)
    unfold scrubN
    split <;> omega
theorem scrub_ok : ∀ (k : Nat) {m : Mem}, OkM m → OkM (scrubM k m) ∧ (scrubM k m).n = m.n
  | 0, _, h => ⟨h, rfl⟩
  | k + 1, m, h => by
    obtain ⟨g, e⟩ := scrub_ok k (ok_step h)
    exact ⟨g, e.trans (step_n m)⟩
theorem scrub_mod {m : Mem} (h : OkM m) {x1 x3 : Int} {s : Int} (hs : s = m.scrub) (h1 : x1 = iAdd .i64 s 1) (h3 : x3 = Int.tmod x1 ((m.n : Nat) : Int)) : x3 = (m.scrub + 1) % m.n := by
  have := h.scrub0; have := h.scrub1; have := h.le
  subst hs
  rw [iAdd_i64 (by omega) (by omega)] at h1
  rw [h3, h1, Int.tmod_eq_emod_of_nonneg (by omega)]
theorem okPacked : SpecOk Tryd.prog G0 78 sPacked :=
  spec2 mixed tE_ok Tryd.func78 (by kernel_rfl : Tryd.f78.body = some (codeOf Tryd.f78)) cPacked rfl rfl rfl (by kernel_rfl) (ids := [3]) (by kernel_rfl) ⟨trivial, trivial⟩ (by
    intro args h K hk
    unfold sPacked at hk
    split at hk
    · rename_i a b c d
      obtain ⟨a0, a1, b0, b1, c0, c1, d0, d1, hk⟩ := hk
      show bPacked a b c d K
      rw [bPacked_eq]
      obtain ⟨a, rfl⟩ := nat_of a0
      obtain ⟨b, rfl⟩ := nat_of b0
      obtain ⟨c, rfl⟩ := nat_of c0
      obtain ⟨d, rfl⟩ := nat_of d0
      have cap32 : cap .u32 = 4294967296 := by decide
      have stp : ∀ (x y : Nat) {X p q r : Int}, X = (x : Nat) → x < 16777216 → y < 256 → p = iMul .u32 X 256 → q = IntKind.wrap .u32 (y : Nat) → r = iOr .u32 p q → r = ((x * 256 + y : Nat) : Int) := by
        intro x y X p q r hX hx hy h1 h2 h3
        rw [hX, show (256 : Int) = ((256 : Nat) : Int) from rfl, iMul_cast .u32 (by rw [cap32]; omega)] at h1
        rw [wrap_cast .u32 (by rw [cap32]; omega)] at h2
        rw [h3, h1, h2, iOr_cast .u32 (by rw [cap32]; omega) (by rw [cap32]; omega)]
        congr 1
        have := Nat.two_pow_add_eq_or_of_lt (i := 8) (b := y) (by omega) x
        rw [Nat.mul_comm x 256]
        exact this.symm
      rintro x1 rfl x2 h2 x3 h3 x4 h4
      have e4 : x4 = ((a : Nat) : Int) := by
        rw [wrap_cast .u32 (by rw [cap32]; omega)] at h3
        rw [h4, h3, h2, show (0 : Int) = ((0 : Nat) : Int) from rfl, iOr_cast .u32 (by rw [cap32]; omega) (by rw [cap32]; omega), Nat.zero_or]
      rintro x5 rfl x6 h6 x7 h7 x8 h8
      have e8 := stp a b e4 (by omega) (by omega) h6 h7 h8
      rintro x9 rfl x10 h10 x11 h11 x12 h12
      have e12 := stp _ c e8 (by omega) (by omega) h10 h11 h12
      rintro x13 rfl x14 h14 x15 h15 x16 h16
      have e16 := stp _ d e12 (by omega) (by omega) h14 h15 h16
      rw [e16]
      unfold pk at hk
      rw [Int.toNat_natCast, Int.toNat_natCast, Int.toNat_natCast, Int.toNat_natCast] at hk
      exact hk
    · exact hk.elim)
theorem tI_ok : AllOk Tryd.prog G0 tI := ⟨okReadI, weaken okRRead iRead, weaken okRWrite iWrite, okPacked, tC_ok⟩
def scrubR (m : Mem) (n : Int) : Nat × Nat × Nat := if n < 0 ∨ n > 16384 then (0, 0, 2) else (scrubN 1 n.toNat m, scrubN 2 n.toNat m, 0)
def scrubS (m : Mem) (n : Int) : Mem := if n < 0 ∨ n > 16384 then m else scrubM n.toNat m
def sScrub : Spec := fun args h K => match args with
  | [.pointer (some ⟨0, 0, some 0⟩), .int .i64 n] => asMem h fun m ty ty2 mv mv2 => OkM m ∧ CntM m ∧ ∀ m', m' = scrubS m n → K (.tuple #[.int .i64 (((scrubR m n).1 : Nat) : Int), .int .i64 (((scrubR m n).2.1 : Nat) : Int), .int .i64 (((scrubR m n).2.2 : Nat) : Int)]) (memH m' ty ty2 mv mv2)
  | _ => False
theorem loopScrub : ∀ e h k, TScrub e h k → ∃ m, loopN cScrub (codeOf Tryd.f28) 0 8 m e h k := by
  intro e h k hT
  unfold TScrub at hT
  split at hT
  · rename_i n i
    unfold asMem3 at hT
    split at hT
    · rename_i hx hy vs ty3 mv3
      replace hT := asMem_elim hT
      obtain ⟨m, ty, ty2, mv, mv2, hh, ho, n0, n1, rfl, hk⟩ := hT
      obtain ⟨rfl, rfl⟩ : hx = .cells false (memC m) ty mv ∧ hy = .cells true m.W ty2 mv2 := by
        unfold memH at hh
        injection hh with h1 h2
        injection h2 with h2 h3
        exact ⟨h1, h2⟩
      have key : ∀ (c i : Nat) (m : Mem), OkM m → ((i : Nat) : Int) + c = n → (∀ m', m' = scrubM c m → k (.exit 0) [(0, ptr0), (8, .pointer (some ⟨2, 0, some 0⟩))] (cntH m' ty ty2 mv mv2 vs ty3 mv3)) →
          loopN cScrub (codeOf Tryd.f28) 0 8 (c + 1) [(0, .pointer (some ⟨0, 0, some 0⟩)), (8, .pointer (some ⟨2, 0, some 0⟩)), (24, .int .i64 n), (25, .int .i64 (i : Nat))] (cntH m ty ty2 mv mv2 vs ty3 mv3) k := by
        intro c
        induction c with
        | zero =>
          intro i m ho hi hk
          rw [loopN_succ]
          show tScrub m ty ty2 mv mv2 vs ty3 mv3 n i _
          rw [tScrub_eq, dF (by omega)]
          show k (.exit 0) [(0, ptr0), (8, .pointer (some ⟨2, 0, some 0⟩))] (cntH m ty ty2 mv mv2 vs ty3 mv3)
          exact hk m rfl
        | succ c ih =>
          intro i m ho hi hk
          rw [loopN_succ]
          show tScrub m ty ty2 mv mv2 vs ty3 mv3 n i _
          rw [tScrub_eq, dT (by omega)]
          have hp := ho.pos
          have next : ∀ x3 x4 : Int, x3 = (m.scrub + 1) % m.n → x4 = iAdd .i64 (i : Nat) 1 →
              loopN cScrub (codeOf Tryd.f28) 0 8 (c + 1) [(0, .pointer (some ⟨0, 0, some 0⟩)), (8, .pointer (some ⟨2, 0, some 0⟩)), (24, .int .i64 n), (25, .int .i64 x4)] (cntH { readF m m.scrub.toNat with scrub := x3 } ty ty2 mv mv2 vs ty3 mv3) k := by
            intro x3 x4 h3 h4
            rw [iAdd_i64 (by omega) (by omega)] at h4
            obtain rfl : x4 = ((i + 1 : Nat) : Int) := by omega
            subst h3
            exact ih (i + 1) (stepM m) (ok_step ho) (by omega) (fun m' hm => hk m' hm)
          have hn : ((Mem.n (readF m m.scrub.toNat) : Nat) : Int) = ((m.n : Nat) : Int) := by rw [readF_n]
          refine ⟨ho, ho.scrub0, ho.scrub1, ?_, ?_, ?_⟩
          · rintro x1 h1 x2 h2 
            rw [hn] at h2
            rw [dnF (by omega)]
            rintro x3 h3 x4 h4
            exact next x3 x4 (scrub_mod ho (readF_scrub m _) h1 (by rw [h3, h2])) h4
          · rintro x1 h1 x2 h2 
            rw [hn] at h2
            rw [dnF (by omega)]
            rintro x3 h3 x4 h4
            exact next x3 x4 (scrub_mod ho (readF_scrub m _) h1 (by rw [h3, h2])) h4
          · rintro x2 h2 x1 h1
            rw [hn] at h2
            rw [dnF (by omega)]
            rintro x3 h3 x4 h4
            exact next x3 x4 (scrub_mod ho (readF_scrub m _) h1 (by rw [h3, h2])) h4
      have := key n.toNat 0 m ho (by omega) hk
      exact ⟨_, this⟩
    · exact hT.elim
  · exact hT.elim
theorem okScrub : SpecOk Tryd.prog G0 28 sScrub :=
  spec2 mixed tI_ok Tryd.func28 (by kernel_rfl : Tryd.f28.body = some (codeOf Tryd.f28)) cScrub rfl rfl rfl (by kernel_rfl) (ids := [8]) (by kernel_rfl) ⟨loopScrub, trivial⟩ (by
    intro args h K hk
    unfold sScrub at hk
    split at hk
    · rename_i n
      replace hk := asMem_elim hk
      obtain ⟨m, ty, ty2, mv, mv2, rfl, ho, hc, hk⟩ := hk
      show bScrub m ty ty2 mv mv2 n K
      rw [bScrub_eq]
      have hp := ho.pos
      unfold scrubR scrubS at hk
      refine ⟨ho.le, ?_⟩
      rintro x1 h1
      rw [dnT (by rw [h1, chkM_in (by omega)]; rfl)]
      by_cases h2 : n < 0
      · rw [if_pos (.inl h2), if_pos (.inl h2)] at hk
        rw [dT h2]; exact hk _ rfl
      · rw [dF h2]
        by_cases h3 : n > 16384
        · rw [if_pos (.inr h3), if_pos (.inr h3)] at hk
          rw [dT h3]; exact hk _ rfl
        · rw [if_neg (by omega), if_neg (by omega)] at hk
          rw [dF h3]
          refine ⟨ho, by omega, by omega, rfl, ?_⟩
          rintro x2 h4 x3 h5 x4 h6
          obtain ⟨_, f1, f2⟩ := scrub_cnt n.toNat hc
          have l1 := scrubN_le 1 n.toNat m
          have l2 := scrubN_le 2 n.toNat m
          have a1 := hc.fx0; have a2 := hc.fx1; have a3 := hc.lo0; have a4 := hc.lo1
          have e3 : x3 = ((scrubN 1 n.toNat m : Nat) : Int) := by
            rw [h5, h4, f1]
            unfold iSub
            rw [wrap64, wrap64]
            generalize scrubN 1 n.toNat m = N at *
            split <;> split <;> omega
          have e4 : x4 = ((scrubN 2 n.toNat m : Nat) : Int) := by
            rw [h6, h4, f2]
            unfold iSub
            rw [wrap64, wrap64]
            generalize scrubN 2 n.toNat m = N at *
            split <;> split <;> omega
          rw [e3, e4]
          exact hk _ h4
    · exact hk.elim)
theorem loopRScrub : ∀ e h k, TRScrub e h k → ∃ m, loopN cRScrub (codeOf Tryd.f84) 0 5 m e h k := by
  intro e h k hT
  unfold TRScrub at hT
  split at hT
  · rename_i n f l i
    replace hT := asMem_elim hT
    obtain ⟨m, ty, ty2, mv, mv2, rfl, ho, n0, n1, rfl, rfl, rfl, hk⟩ := hT
    have key : ∀ (c i F L : Nat) (m : Mem), OkM m → ((i : Nat) : Int) + c = n → F ≤ i → L ≤ i → (∀ m', m' = scrubM c m → k (.exit 0) [(7, .int .i64 ((F + scrubN 1 c m : Nat) : Int)), (8, .int .i64 ((L + scrubN 2 c m : Nat) : Int))] (memH m' ty ty2 mv mv2)) →
        loopN cRScrub (codeOf Tryd.f84) 0 5 (c + 1) [(0, .pointer (some ⟨0, 0, some 0⟩)), (1, .int .i64 n), (7, .int .i64 (F : Nat)), (8, .int .i64 (L : Nat)), (9, .int .i64 (i : Nat))] (memH m ty ty2 mv mv2) k := by
      intro c
      induction c with
      | zero =>
        intro i F L m ho hi hF hL hk
        rw [loopN_succ]
        show tRScrub m ty ty2 mv mv2 n F L i _
        rw [tRScrub_eq, dF (by omega)]
        show k (.exit 0) [(7, .int .i64 (F : Nat)), (8, .int .i64 (L : Nat))] (memH m ty ty2 mv mv2)
        exact hk m rfl
      | succ c ih =>
        intro i F L m ho hi hF hL hk
        rw [loopN_succ]
        show tRScrub m ty ty2 mv mv2 n F L i _
        rw [tRScrub_eq, dT (by omega)]
        have hp := ho.pos
        have hin : inM m m.scrub = true := inM_iff.2 ⟨ho.scrub0, ho.scrub1⟩
        have er : readS m m.scrub = readF m m.scrub.toNat := by unfold readS; rw [if_pos hin]
        have ek : (((readR m m.scrub).2.1 : Nat) : Int) = ((kindAt m m.scrub.toNat : Nat) : Int) := by
          unfold readR kindAt
          rw [if_pos hin]
          split
          · rename_i e; rw [e]
          · rfl
        have hk2 : kindAt m m.scrub.toNat ≤ 2 := (decN_lt _).2
        refine ⟨ho, ?_⟩
        rw [er, ek]
        rintro x1 h1 x2 _ x3 h3 x4 _
        have next : ∀ x46 x47 x7 x8 : Int, x46 = (m.scrub + 1) % m.n → x47 = iAdd .i64 (i : Nat) 1 → x7 = ((F + (if kindAt m m.scrub.toNat = 1 then 1 else 0) : Nat) : Int) → x8 = ((L + (if kindAt m m.scrub.toNat = 2 then 1 else 0) : Nat) : Int) →
            loopN cRScrub (codeOf Tryd.f84) 0 5 (c + 1) [(0, .pointer (some ⟨0, 0, some 0⟩)), (1, .int .i64 n), (7, .int .i64 x7), (8, .int .i64 x8), (9, .int .i64 x47)] (memH { x1 with scrub := x46 } ty ty2 mv mv2) k := by
          intro x46 x47 x7 x8 g1 g2 g3 g4
          rw [iAdd_i64 (by omega) (by omega)] at g2
          obtain rfl : x47 = ((i + 1 : Nat) : Int) := by omega
          subst g1 h1 g3 g4
          refine ih (i + 1) _ _ (stepM m) (ok_step ho) (by omega) (by split <;> omega) (by split <;> omega) (fun m' hm => ?_)
          have := hk m' hm
          rw [scrubN, scrubN] at this
          rw [Nat.add_assoc, Nat.add_assoc]
          exact this
        have hn : ((Mem.n x1 : Nat) : Int) = ((m.n : Nat) : Int) := by rw [h1, readF_n]
        have hs : x1.scrub = m.scrub := by rw [h1, readF_scrub]
        have fin : ∀ x7 x8 : Int, x7 = ((F + (if kindAt m m.scrub.toNat = 1 then 1 else 0) : Nat) : Int) → x8 = ((L + (if kindAt m m.scrub.toNat = 2 then 1 else 0) : Nat) : Int) →
            (∀ x44 x45 x46 x47 : Int, x44 = iAdd .i64 x1.scrub 1 → x45 = ((x1.n : Nat) : Int) → x46 = Int.tmod x44 x45 → x47 = iAdd .i64 (i : Nat) 1 →
              loopN cRScrub (codeOf Tryd.f84) 0 5 (c + 1) [(0, .pointer (some ⟨0, 0, some 0⟩)), (1, .int .i64 n), (7, .int .i64 x7), (8, .int .i64 x8), (9, .int .i64 x47)] (memH { x1 with scrub := x46 } ty ty2 mv mv2) k) := by
          intro x7 x8 g3 g4 x44 x45 x46 x47 a1 a2 a3 a4
          exact next x46 x47 x7 x8 (scrub_mod ho hs a1 (by rw [a3, a2, hn])) a4 g3 g4
        by_cases c1 : kindAt m m.scrub.toNat = 1
        · rw [dT (by omega)]
          rintro x5 h5
          rw [iAdd_i64 (by omega) (by omega)] at h5
          rw [dF (by omega)]
          have q := fin x5 L (by rw [if_pos c1, h5]; omega) (by rw [if_neg (by omega)]; rfl)
          refine ⟨?_, ?_, ?_⟩
          · rintro a h6 b h7; rw [dnF (by omega)]; rintro cc h8 d h9; exact q a b cc d h6 h7 h8 h9
          · rintro a h6 b h7; rw [dnF (by omega)]; rintro cc h8 d h9; exact q a b cc d h6 h7 h8 h9
          · rintro b h7 a h6; rw [dnF (by omega)]; rintro cc h8 d h9; exact q a b cc d h6 h7 h8 h9
        · rw [dF (by omega)]
          by_cases c2 : kindAt m m.scrub.toNat = 2
          · rw [dT (by omega)]
            rintro x5 h5
            rw [iAdd_i64 (by omega) (by omega)] at h5
            have q := fin F x5 (by rw [if_neg c1]; rfl) (by rw [if_pos c2, h5]; omega)
            refine ⟨?_, ?_, ?_⟩
            · rintro a h6 b h7; rw [dnF (by omega)]; rintro cc h8 d h9; exact q a b cc d h6 h7 h8 h9
            · rintro a h6 b h7; rw [dnF (by omega)]; rintro cc h8 d h9; exact q a b cc d h6 h7 h8 h9
            · rintro b h7 a h6; rw [dnF (by omega)]; rintro cc h8 d h9; exact q a b cc d h6 h7 h8 h9
          · rw [dF (by omega)]
            have q := fin F L (by rw [if_neg c1]; rfl) (by rw [if_neg c2]; rfl)
            refine ⟨?_, ?_, ?_⟩
            · rintro a h6 b h7; rw [dnF (by omega)]; rintro cc h8 d h9; exact q a b cc d h6 h7 h8 h9
            · rintro a h6 b h7; rw [dnF (by omega)]; rintro cc h8 d h9; exact q a b cc d h6 h7 h8 h9
            · rintro b h7 a h6; rw [dnF (by omega)]; rintro cc h8 d h9; exact q a b cc d h6 h7 h8 h9
    have := key n.toNat 0 0 0 m ho (by omega) (Nat.le_refl 0) (Nat.le_refl 0) (fun m' hm => by rw [Nat.zero_add, Nat.zero_add]; exact hk m' hm)
    exact ⟨_, this⟩
  · exact hT.elim
theorem okRScrub : SpecOk Tryd.prog G0 84 sScrub :=
  spec2 mixed tI_ok Tryd.func84 (by kernel_rfl : Tryd.f84.body = some (codeOf Tryd.f84)) cRScrub rfl rfl rfl (by kernel_rfl) (ids := [5]) (by kernel_rfl) ⟨loopRScrub, trivial⟩ (by
    intro args h K hk
    unfold sScrub at hk
    split at hk
    · rename_i n
      replace hk := asMem_elim hk
      obtain ⟨m, ty, ty2, mv, mv2, rfl, ho, hc, hk⟩ := hk
      show bRScrub m ty ty2 mv mv2 n K
      rw [bRScrub_eq]
      unfold scrubR scrubS at hk
      by_cases h2 : n < 0
      · rw [if_pos (.inl h2), if_pos (.inl h2)] at hk
        rw [dT h2]; exact hk _ rfl
      · rw [dF h2]
        by_cases h3 : n > 16384
        · rw [if_pos (.inr h3), if_pos (.inr h3)] at hk
          rw [dT h3]; exact hk _ rfl
        · rw [if_neg (by omega), if_neg (by omega)] at hk
          rw [dF h3]
          refine ⟨ho, by omega, by omega, rfl, rfl, rfl, ?_⟩
          rintro x2 h4
          exact hk _ h4
    · exact hk.elim)
end Go.Am.Mem
