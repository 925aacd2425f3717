/-
  Memory: a memory stays one; the public Read; what the first example's and MemoryCodes's texts compute. Own work.
-/
import Derived.Test.YtjbagcmcpmhfnaaDoorMemD
namespace Go.Am.Mem
open Go Go.Am Go.Am.Ham Go.Proofs
set_option maxRecDepth 100000

/-! ### a memory stays a memory -/
theorem enc39 (w : Nat) : encN w < 2 ^ 39 := by rw [enc_eq]; exact encR_lt w
theorem ok_same {m m' : Mem} (h : OkM m) (hW : m'.W = m.W) (hn : m'.n = m.n) (hs : m'.safe = m.safe) (hc : m'.scrub = m.scrub) : OkM m' := by
  cases m; cases m'
  dsimp only at hW hn hs hc
  subst hW hn hs hc
  exact ⟨h.len, h.word, h.lt, h.pos, h.le, h.safe0, h.safe1, h.scrub0, h.scrub1⟩
theorem getD_set (l : List Value) (i j : Nat) (v : Value) (h : j < l.length) : (l.set i v).getD j undef = if i = j then v else l.getD j undef := by
  rw [List.getD_eq_getElem?_getD, List.getD_eq_getElem?_getD, List.getElem?_set]
  by_cases e : i = j
  · subst e; rw [if_pos rfl, if_pos rfl, if_pos h]; rfl
  · rw [if_neg e, if_neg e]
theorem setW_at {m : Mem} (h : OkM m) {i j c : Nat} (hj : j < m.n) : wordAt (setW m i c) j = if i = j then c else wordAt m j := by
  show (intOf ((m.W.set i _).getD j undef)).toNat = _
  rw [getD_set _ _ _ _ (by have := h.len; omega)]
  by_cases e : i = j
  · rw [if_pos e, if_pos e]; exact Int.toNat_natCast c
  · rw [if_neg e, if_neg e]; rfl
theorem ok_setW {m : Mem} (h : OkM m) {i c : Nat} (hc : c < 2 ^ 39) : OkM (setW m i c) where
  len := by show (m.W.set i _).length = _; rw [List.length_set]; exact h.len
  word := fun j hj => by
    rw [setW_at h hj]
    show (m.W.set i _).getD j undef = _
    rw [getD_set _ _ _ _ (by have := h.len; have : j < m.n := hj; omega)]
    by_cases e : i = j
    · rw [if_pos e, if_pos e]
    · rw [if_neg e, if_neg e]; exact h.word j hj
  lt := fun j hj => by
    rw [setW_at h hj]
    by_cases e : i = j
    · rw [if_pos e]; exact hc
    · rw [if_neg e]; exact h.lt j hj
  pos := h.pos
  le := h.le
  safe0 := h.safe0
  safe1 := h.safe1
  scrub0 := h.scrub0
  scrub1 := h.scrub1
theorem ok_store {m : Mem} (h : OkM m) {i c : Nat} (hc : c < 2 ^ 39) : OkM (storeM m i c) := by
  unfold storeM
  split
  · exact ok_same h rfl rfl rfl rfl
  · exact ok_same (ok_setW h (i := i) hc) rfl rfl rfl rfl
theorem ok_count {m : Mem} (h : OkM m) (k : Int) : OkM (countM m k) := by
  unfold countM
  split
  · exact ok_same h rfl rfl rfl rfl
  · split
    · exact ok_same h rfl rfl rfl rfl
    · exact h
theorem ok_readF {m : Mem} (h : OkM m) (i : Nat) : OkM (readF m i) := by
  unfold readF
  split
  · exact ok_store (ok_count h _) (enc39 _)
  · exact ok_count h _
theorem ok_readS {m : Mem} (h : OkM m) (a : Int) : OkM (readS m a) := by
  unfold readS; split
  · exact ok_readF h _
  · exact h
theorem ok_writeS {m : Mem} (h : OkM m) (a : Int) (w : Nat) : OkM (writeS m a w) := by
  unfold writeS; split
  · exact ok_store h (enc39 _)
  · exact h
theorem ok_upsS {m : Mem} (h : OkM m) (a b : Int) : OkM (upsS m a b) := by
  unfold upsS
  split
  · rename_i hc
    have h1 := inM_iff.1 hc.1
    exact ok_setW h (Nat.xor_lt_two_pow (h.lt _ (by omega)) (Nat.pow_lt_pow_right (by omega) (by omega)))
  · exact h
theorem ok_fuseS {m : Mem} (h : OkM m) (n : Int) : OkM (fuseS m n) := by
  unfold fuseS; split
  · exact h
  · exact ok_same h rfl rfl rfl rfl
theorem ok_newM {n : Nat} {s : Int} (h1 : 1 ≤ n) (h2 : n ≤ 16384) (h3 : 0 ≤ s) (h4 : s ≤ n) : OkM (newM n s) where
  len := List.length_replicate
  word := fun i hi => by
    have hi : i < n := hi
    show (List.replicate n (Value.int .u64 0)).getD i undef = .int .u64 ((((intOf ((List.replicate n (Value.int .u64 0)).getD i undef)).toNat : Nat)) : Int)
    rw [List.getD_eq_getElem?_getD, List.getElem?_replicate, if_pos hi]; rfl
  lt := fun i hi => by
    have hi : i < n := hi
    show (intOf ((List.replicate n (Value.int .u64 0)).getD i undef)).toNat < 2 ^ 39
    rw [List.getD_eq_getElem?_getD, List.getElem?_replicate, if_pos hi]; decide
  pos := h1
  le := h2
  safe0 := h3
  safe1 := h4
  scrub0 := Int.le_refl 0
  scrub1 := by show (0 : Int) < n; omega

/-! ### the equations -/
def tF : List (Nat × Spec) := [(71, sChk), (75, sReadI)]
theorem tF_ok : AllOk Tryd.prog G0 tF := ⟨okChk, okReadI, trivial⟩
noncomputable def cRead : FCfg := mkG Tryd.prog G0 tF 29 [(0, [0, 1]), (1, [0, 1, 7]), (2, [0, 1, 7, 14]), (3, [4, 5, 6]), (4, [8, 9]), (5, [8, 9, 25]), (6, [4, 5, 6]), (7, [4, 5, 6])] [] [] [] [] [] 40 2
noncomputable def bRead (m : Mem) (ty ty2 : TypeId) (mv mv2 : Bool) (a : Int) (K : Value → AHeap → Prop) : Prop := bodyK cRead (codeOf Tryd.f26) Tryd.f26.results.toList [.pointer (some ⟨0, 0, some 0⟩), .int .i64 a] (memH m ty ty2 mv mv2) K
theorem bRead_eq (m : Mem) (ty ty2 : TypeId) (mv mv2 : Bool) (a : Int) (K : Value → AHeap → Prop) : bRead m ty ty2 mv mv2 a K = (((Mem.n m) ≤ (16384 : Nat)) ∧ (∀ x1 : Int, ((x1 = (((chkM m a) : Nat) : Int)) → (cond (!(decide ((x1 = (0 : Int))))) (K (Value.tuple (Array.mk [(Value.int IntKind.u32 (0 : Int)), (Value.int IntKind.i64 (0 : Int)), (Value.int IntKind.i64 x1)])) (memH m ty ty2 mv mv2)) ((OkM m) ∧ (((0 : Int) ≤ a) ∧ ((a < (((Mem.n m) : Nat) : Int)) ∧ (∀ x2 : Int, ((x2 = ((((Ham.decN (wordAt m (Int.toNat a)))).fst : Nat) : Int)) → (∀ x3 : Int, ((x3 = (((((Ham.decN (wordAt m (Int.toNat a)))).snd).fst : Nat) : Int)) → (cond (decide ((x3 = (2 : Int)))) (K (Value.tuple (Array.mk [(Value.int IntKind.u32 (0 : Int)), (Value.int IntKind.i64 x3), (Value.int IntKind.i64 (300 : Int))])) (memH (readF m (Int.toNat a)) ty ty2 mv mv2)) (K (Value.tuple (Array.mk [(Value.int IntKind.u32 x2), (Value.int IntKind.i64 x3), (Value.int IntKind.i64 (0 : Int))])) (memH (readF m (Int.toNat a)) ty ty2 mv mv2)))))))))))))) := by
  kernel_rfl
theorem okRead : SpecOk Tryd.prog G0 26 sRead :=
  spec2 mixed tF_ok Tryd.func26 (by kernel_rfl : Tryd.f26.body = some (codeOf Tryd.f26)) cRead rfl rfl rfl (by kernel_rfl) (ids := []) (by kernel_rfl) trivial (by
    intro args h K hk
    unfold sRead at hk
    split at hk
    · rename_i a
      replace hk := asMem_elim hk
      obtain ⟨m, ty, ty2, mv, mv2, rfl, ho, hk⟩ := hk
      show bRead m ty ty2 mv mv2 a K
      rw [bRead_eq]
      refine ⟨ho.le, ?_⟩
      unfold readR readS at hk
      by_cases h1 : 0 ≤ a ∧ a < m.n
      · rw [if_pos (inM_iff.2 h1), if_pos (inM_iff.2 h1)] at hk
        rintro _ rfl
        rw [chkM_in h1, dnT (show ((0 : Nat) : Int) = 0 from rfl)]
        refine ⟨ho, h1.1, h1.2, ?_⟩
        rintro _ rfl x3 hx3
        by_cases h2 : (decN (wordAt m a.toNat)).2.1 = 2
        · rw [if_pos h2] at hk
          rw [hx3, h2, dT (show ((2 : Nat) : Int) = 2 from rfl)]; exact hk
        · rw [if_neg h2] at hk
          rw [hx3, dF (show ¬ (((decN (wordAt m a.toNat)).2.1 : Nat) : Int) = 2 by omega)]; exact hk
      · rw [inM_false h1] at hk
        rintro _ rfl
        rw [chkM_out h1, dnF (show ¬ ((2 : Nat) : Int) = 0 by omega)]; exact hk
    · exact hk.elim)
/-! ### the same summaries, each new memory under a name -/
def sWriteX : Spec := fun args h K => match args with
  | [.pointer (some ⟨0, 0, some 0⟩), .int .i64 a, .int .u32 w] => asMem h fun m ty ty2 mv mv2 => OkM m ∧ 0 ≤ w ∧ w < 2 ^ 32 ∧ ∀ m', m' = writeS m a w.toNat → K (.int .i64 ((chkM m a : Nat) : Int)) (memH m' ty ty2 mv mv2)
  | _ => False
def sReadX : Spec := fun args h K => match args with
  | [.pointer (some ⟨0, 0, some 0⟩), .int .i64 a] => asMem h fun m ty ty2 mv mv2 => OkM m ∧ ∀ m', m' = readS m a → K (.tuple #[.int .u32 (((readR m a).1 : Nat) : Int), .int .i64 (((readR m a).2.1 : Nat) : Int), .int .i64 (((readR m a).2.2 : Nat) : Int)]) (memH m' ty ty2 mv mv2)
  | _ => False
def sUpsX : Spec := fun args h K => match args with
  | [.pointer (some ⟨0, 0, some 0⟩), .int .i64 a, .int .i64 b] => asMem h fun m ty ty2 mv mv2 => OkM m ∧ ∀ m', m' = upsS m a b → K (.int .i64 ((upsR m a b : Nat) : Int)) (memH m' ty ty2 mv mv2)
  | _ => False
def sFuseX : Spec := fun args h K => match args with
  | [.pointer (some ⟨0, 0, some 0⟩), .int .i64 n] => asMem h fun m ty ty2 mv mv2 => OkM m ∧ ∀ m', m' = fuseS m n → K (.int .i64 ((fuseR n : Nat) : Int)) (memH m' ty ty2 mv mv2)
  | _ => False
def sNewX (ty : TypeId) : Spec := fun args h K => match args, h with
  | [.int .i64 n, .int .i64 s], [] => (newB n s = true → ∀ m', m' = newM n.toNat s → K (.tuple #[.pointer (some ⟨0, 0, some 0⟩), .int .i64 0]) (memH m' ty 28 false false)) ∧ (newB n s = false → K (.tuple #[.pointer none, .int .i64 2]) [])
  | _, _ => False
theorem weaken {fid : Nat} {s s' : Spec} (h : SpecOk Tryd.prog G0 fid s) (hi : ∀ args h K, s' args h K → s args h K) : SpecOk Tryd.prog G0 fid s' :=
  fun W hG args hp K hk => h W hG args hp K (hi args hp K hk)
theorem iWrite (args h K) (hk : sWriteX args h K) : sWrite args h K := by
  unfold sWriteX at hk
  split at hk
  · replace hk := asMem_elim hk
    obtain ⟨m, ty, ty2, mv, mv2, rfl, ho, h1, h2, hk⟩ := hk
    exact ⟨ho, h1, h2, hk _ rfl⟩
  · exact hk.elim
theorem iRead (args h K) (hk : sReadX args h K) : sRead args h K := by
  unfold sReadX at hk
  split at hk
  · replace hk := asMem_elim hk
    obtain ⟨m, ty, ty2, mv, mv2, rfl, ho, hk⟩ := hk
    exact ⟨ho, hk _ rfl⟩
  · exact hk.elim
theorem iUps (args h K) (hk : sUpsX args h K) : sUps args h K := by
  unfold sUpsX at hk
  split at hk
  · replace hk := asMem_elim hk
    obtain ⟨m, ty, ty2, mv, mv2, rfl, ho, hk⟩ := hk
    exact ⟨ho, hk _ rfl⟩
  · exact hk.elim
theorem iFuse (args h K) (hk : sFuseX args h K) : sFuse args h K := by
  unfold sFuseX at hk
  split at hk
  · replace hk := asMem_elim hk
    obtain ⟨m, ty, ty2, mv, mv2, rfl, ho, hk⟩ := hk
    exact ⟨ho, hk _ rfl⟩
  · exact hk.elim
theorem iNew (ty : TypeId) (args h K) (hk : sNewX ty args h K) : sNew ty args h K := by
  unfold sNewX at hk
  split at hk
  · exact ⟨fun hb => hk.1 hb _ rfl, hk.2⟩
  · exact hk.elim
end Go.Am.Mem
