/-
  Memory: the chapter's first example, and MemoryCodes. Own work.
-/
import Derived.Test.YtjbagcmcpmhfnaaDoorMemE
namespace Go.Am.Mem
open Go Go.Am Go.Am.Ham Go.Proofs
set_option maxRecDepth 100000

def tG : List (Nat × Spec) := [(21, sNewX 70), (22, sWriteX), (26, sReadX), (25, sUpsX), (23, sRaw), (39, sSize), (29, sCounts), (24, s13)]
theorem tG_ok : AllOk Tryd.prog G0 tG := ⟨weaken okNew (iNew _), weaken okWrite iWrite, weaken okRead iRead, weaken okUps iUps, okRaw, okSize, okCounts, okRE, trivial⟩
noncomputable def cAwake : FCfg := mkG Tryd.prog G0 tG 79 [(0, []), (1, [1, 2]), (2, [1, 25]), (3, [0]), (4, [1, 2, 3, 4]), (5, [1, 2, 3, 4, 5, 6, 7]), (6, [1, 2, 3, 4, 5, 6, 7, 8, 9]), (7, [0])] [] [] [] [] [] 40 0
noncomputable def bAwake (K : Value → AHeap → Prop) : Prop := bodyK cAwake (codeOf Tryd.f27) Tryd.f27.results.toList [] [] K
def sAwake : Spec := fun args h K => match args, h with
  | [], [] => K (.bool true) []
  | _, _ => False
def tH : List (Nat × Spec) := (27, sAwake) :: tG
noncomputable def cCodes : FCfg := mkG Tryd.prog G0 tH 101 [(0, [0, 1]), (1, [0, 1, 5, 6]), (2, [0, 1, 5, 26]), (3, [4]), (4, [0, 1, 5, 6, 7]), (5, [0, 1, 5, 7, 47]), (6, [4]), (7, [0, 1, 5, 7, 8, 9]), (8, [0, 1, 5, 7, 8, 9, 10, 11, 12]), (9, [0, 1, 7, 8, 9, 10, 11, 12, 13, 14]), (10, [4])] [] [] [] [] [] 40 0
noncomputable def bCodes (w b : Int) (K : Value → AHeap → Prop) : Prop := bodyK cCodes (codeOf Tryd.f3) Tryd.f3.results.toList [.int .u32 w, .int .u8 b] [] K
theorem bAwake_eq (K : Value → AHeap → Prop) : bAwake K = (((Bool.true = Bool.true) → (∀ x1 : Mem, ((x1 = (newM (4 : Nat) (2 : Int))) → (∀ x2 : Int, ((x2 = (0 : Int)) → (cond (!(decide ((x2 = (0 : Int))))) (K (Value.bool Bool.false) []) ((OkM x1) ∧ (((0 : Int) ≤ (7 : Int)) ∧ (((7 : Int) < (4294967296 : Int)) ∧ (∀ x3 : Mem, ((x3 = (writeS x1 (1 : Int) (7 : Nat))) → (∀ x4 : Int, ((x4 = (((chkM x1 (1 : Int)) : Nat) : Int)) → (cond (!(decide ((x4 = (0 : Int))))) (K (Value.bool Bool.false) []) ((OkM x3) ∧ (∀ x5 : Mem, ((x5 = (upsS x3 (1 : Int) (3 : Int))) → (∀ x6 : Int, ((x6 = (((upsR x3 (1 : Int) (3 : Int)) : Nat) : Int)) → (cond (!(decide ((x6 = (0 : Int))))) (K (Value.bool Bool.false) []) ((OkM x5) ∧ (∀ x7 : Mem, ((x7 = (readS x5 (1 : Int))) → (∀ x8 : Int, ((x8 = ((((readR x5 (1 : Int))).fst : Nat) : Int)) → (∀ x9 : Int, ((x9 = (((((readR x5 (1 : Int))).snd).fst : Nat) : Int)) → (∀ x10 : Int, ((x10 = (((((readR x5 (1 : Int))).snd).snd : Nat) : Int)) → ((OkM x7) ∧ (∀ x11 : Mem, ((x11 = (readS x7 (1 : Int))) → (∀ x12 : Int, ((x12 = ((((readR x7 (1 : Int))).fst : Nat) : Int)) → (∀ x13 : Int, ((x13 = (((((readR x7 (1 : Int))).snd).fst : Nat) : Int)) → (∀ x14 : Int, ((x14 = (((((readR x7 (1 : Int))).snd).snd : Nat) : Int)) → (∀ x15 : Int, ((x15 = (((Mem.n x11) : Nat) : Int)) → (∀ x16 : Int, ((x16 = (Mem.safe x11)) → (cond (decide ((x8 = (7 : Int)))) (cond (decide ((x9 = (1 : Int)))) (cond (decide ((x10 = (0 : Int)))) (cond (decide ((x12 = (7 : Int)))) (cond (decide ((x13 = (0 : Int)))) (cond (decide ((x14 = (0 : Int)))) (cond ((decide (((Mem.fx x11) = (1 : Int)))) && ((decide (((Mem.lo x11) = (0 : Int)))) && ((decide (((Mem.st x11) = (2 : Int)))) && Bool.true))) (cond (decide ((x15 = (4 : Int)))) (K (Value.bool (decide ((x16 = (2 : Int))))) []) (K (Value.bool Bool.false) [])) (K (Value.bool Bool.false) [])) (K (Value.bool Bool.false) [])) (K (Value.bool Bool.false) [])) (K (Value.bool Bool.false) [])) (K (Value.bool Bool.false) [])) (K (Value.bool Bool.false) [])) (K (Value.bool Bool.false) [])))))))))))))))))))))))))))))))))))))))))))) ∧ ((Bool.true = Bool.false) → (∀ x17 : Int, ((x17 = (2 : Int)) → (cond (!(decide ((x17 = (0 : Int))))) (K (Value.bool Bool.false) []) False))))) := by
  kernel_rfl
theorem bCodes_eq (w b : Int) (K : Value → AHeap → Prop) : bCodes w b K = (((Bool.true = Bool.true) → (∀ x1 : Mem, ((x1 = (newM (2 : Nat) (1 : Int))) → (∀ x2 : Int, ((x2 = (0 : Int)) → (cond (!(decide ((x2 = (0 : Int))))) (K (Value.bool Bool.false) []) ((OkM x1) ∧ (((0 : Int) ≤ w) ∧ ((w < (4294967296 : Int)) ∧ (∀ x3 : Mem, ((x3 = (writeS x1 (1 : Int) (Int.toNat w))) → (∀ x4 : Int, ((x4 = (((chkM x1 (1 : Int)) : Nat) : Int)) → (cond (!(decide ((x4 = (0 : Int))))) (K (Value.bool Bool.false) []) ((OkM x3) ∧ (∀ x5 : Int, ((x5 = ((((rawR x3 (1 : Int))).fst : Nat) : Int)) → (∀ x6 : Int, ((x6 = ((((rawR x3 (1 : Int))).snd : Nat) : Int)) → (cond (!(decide ((x6 = (0 : Int))))) (K (Value.bool Bool.false) []) (((0 : Int) ≤ w) ∧ ((w < (4294967296 : Int)) ∧ (∀ x7 : Int, ((x7 = (((Ham.encN (Int.toNat w)) : Nat) : Int)) → (cond (!(decide ((x5 = x7)))) (K (Value.bool Bool.false) []) (∀ x8 : Int, ((x8 = (Int.tmod b (39 : Int))) → (∀ x9 : Int, ((x9 = (IntKind.wrap IntKind.i64 x8)) → ((OkM x3) ∧ (∀ x10 : Mem, ((x10 = (upsS x3 (1 : Int) x9)) → (∀ x11 : Int, ((x11 = (((upsR x3 (1 : Int) x9) : Nat) : Int)) → (cond (!(decide ((x11 = (0 : Int))))) (K (Value.bool Bool.false) []) ((OkM x10) ∧ (∀ x12 : Int, ((x12 = ((((rawR x10 (1 : Int))).fst : Nat) : Int)) → (∀ x13 : Int, ((x13 = ((((rawR x10 (1 : Int))).snd : Nat) : Int)) → ((OkM x10) ∧ (∀ x14 : Mem, ((x14 = (readS x10 (1 : Int))) → (∀ x15 : Int, ((x15 = ((((readR x10 (1 : Int))).fst : Nat) : Int)) → (∀ x16 : Int, ((x16 = (((((readR x10 (1 : Int))).snd).fst : Nat) : Int)) → (∀ x17 : Int, ((x17 = (((((readR x10 (1 : Int))).snd).snd : Nat) : Int)) → ((OkM x14) ∧ (∀ x18 : Int, ((x18 = ((((rawR x14 (1 : Int))).fst : Nat) : Int)) → (∀ x19 : Int, ((x19 = ((((rawR x14 (1 : Int))).snd : Nat) : Int)) → (∀ x20 : Int, ((x20 = (Int.tmod b (39 : Int))) → (∀ x21 : Int, ((x21 = (IntKind.wrap IntKind.u64 x20)) → (cond (decide (((0 : Int) ≤ x21))) (∀ x22 : Int, ((x22 = (iMul IntKind.u64 (1 : Int) ((2 : Int) ^ (ite ((Int.toNat x21) ≤ (64 : Nat)) (Int.toNat x21) (64 : Nat)) : Int))) → (∀ x23 : Int, ((x23 = (iXor IntKind.u64 x5 x22)) → (cond (decide ((x12 = x23))) (cond (decide ((x13 = (0 : Int)))) (cond (decide ((x15 = w))) (cond (decide ((x16 = (1 : Int)))) (cond (decide ((x17 = (0 : Int)))) (cond (decide ((x18 = x5))) (cond (decide ((x19 = (0 : Int)))) (K (Value.bool Bool.true) []) (K (Value.bool Bool.false) [])) (K (Value.bool Bool.false) [])) (K (Value.bool Bool.false) [])) (K (Value.bool Bool.false) [])) (K (Value.bool Bool.false) [])) (K (Value.bool Bool.false) [])) (K (Value.bool Bool.false) [])))))) False))))))))))))))))))))))))))))))))))))))))))))))))))))))))))) ∧ ((Bool.true = Bool.false) → (∀ x24 : Int, ((x24 = (2 : Int)) → (cond (!(decide ((x24 = (0 : Int))))) (K (Value.bool Bool.false) []) False))))) := by
  kernel_rfl

/-! ### what a memory answers -/
theorem store_n (m : Mem) (i c : Nat) : (storeM m i c).n = m.n := by unfold storeM; split <;> rfl
theorem store_fuse {m : Mem} (h : m.fuse < 0) (i c : Nat) : (storeM m i c).fuse = m.fuse := by
  unfold storeM
  rw [if_neg (by omega)]
  show (if m.fuse > 0 then _ else _) = _
  rw [if_neg (by omega)]
theorem store_at {m : Mem} (h : OkM m) {i c j : Nat} (hj : j < m.n) (hf : m.fuse ≠ 0) : wordAt (storeM m i c) j = if i = j then c else wordAt m j := by
  unfold storeM
  rw [if_neg hf]
  exact setW_at h hj
theorem count_at (m : Mem) (k : Int) (j : Nat) : wordAt (countM m k) j = wordAt m j := by unfold wordAt; rw [countM_W]
theorem count_fuse (m : Mem) (k : Int) : (countM m k).fuse = m.fuse := by unfold countM; split <;> (try split) <;> rfl
theorem dec_enc {w : Nat} (h : w < 2 ^ 32) : decN (encN w) = (w, 0, 0) := by
  rw [dec_eq, enc_eq, decR_clean (encR_valid w), word_enc h]
theorem dec_flip {w i : Nat} (h : w < 2 ^ 32) (hi : i < 39) : decN (encN w ^^^ 2 ^ i) = (w, 1, 0) := by
  rw [dec_eq, enc_eq, decR_one (encR_valid w) hi, word_enc h]
theorem dec_two {w i j : Nat} (hi : i < 39) (hj : j < 39) (hne : i ≠ j) : decN (encN w ^^^ 2 ^ i ^^^ 2 ^ j) = (0, 2, 0) := by
  rw [dec_eq, enc_eq, decR_two (encR_valid w) hi hj hne]

/-- A memory of n words whose fuse is out. -/
structure Good (m : Mem) (n : Nat) : Prop where
  ok : OkM m
  n : m.n = n
  fuse : m.fuse < 0
theorem good_new {n : Nat} {s : Int} (h1 : 1 ≤ n) (h2 : n ≤ 16384) (h3 : 0 ≤ s) (h4 : s ≤ n) : Good (newM n s) n := ⟨ok_newM h1 h2 h3 h4, rfl, by show (-1 : Int) < 0; omega⟩
theorem new_at {n j : Nat} {s : Int} (hj : j < n) : wordAt (newM n s) j = 0 := by
  show (intOf ((List.replicate n (Value.int .u64 0)).getD j undef)).toNat = 0
  rw [List.getD_eq_getElem?_getD, List.getElem?_replicate, if_pos hj]; rfl
section
variable {m : Mem} {n : Nat} (g : Good m n)
include g
theorem Good.inM {a : Int} (ha : 0 ≤ a ∧ a < n) : inM m a = true := by rw [inM_iff, g.n]; exact ha
theorem Good.chk {a : Int} (ha : 0 ≤ a ∧ a < n) : chkM m a = 0 := chkM_in (by rw [g.n]; exact ha)
theorem Good.write {a : Int} (ha : 0 ≤ a ∧ a < n) (w : Nat) : Good (writeS m a w) n := ⟨ok_writeS g.ok a w, by unfold writeS; rw [g.inM ha]; exact (store_n _ _ _).trans g.n, by unfold writeS; rw [g.inM ha]; show (storeM m _ _).fuse < 0; rw [store_fuse g.fuse]; exact g.fuse⟩
theorem Good.write_at {a : Int} (ha : 0 ≤ a ∧ a < n) (w : Nat) {j : Nat} (hj : j < n) : wordAt (writeS m a w) j = if a.toNat = j then encN w else wordAt m j := by
  unfold writeS; rw [g.inM ha]; exact store_at g.ok (by rw [g.n]; exact hj) (by have := g.fuse; omega)
theorem Good.ups {a b : Int} : Good (upsS m a b) n := ⟨ok_upsS g.ok a b, by unfold upsS; split <;> exact g.n, by unfold upsS; split <;> exact g.fuse⟩
theorem Good.ups_ok {a b : Int} (ha : 0 ≤ a ∧ a < n) (hb : 0 ≤ b ∧ b < 39) : upsR m a b = 0 := by unfold upsR; rw [if_pos ⟨g.inM ha, hb⟩]
theorem Good.ups_at {a b : Int} (ha : 0 ≤ a ∧ a < n) (hb : 0 ≤ b ∧ b < 39) {j : Nat} (hj : j < n) : wordAt (upsS m a b) j = if a.toNat = j then wordAt m a.toNat ^^^ 2 ^ b.toNat else wordAt m j := by
  unfold upsS; rw [if_pos ⟨g.inM ha, hb⟩]; exact setW_at g.ok (by rw [g.n]; exact hj)
theorem Good.raw {a : Int} (ha : 0 ≤ a ∧ a < n) : rawR m a = (wordAt m a.toNat, 0) := by unfold rawR; rw [g.inM ha]; rfl
theorem Good.readF (i : Nat) : Good (readF m i) n := ⟨ok_readF g.ok i, by unfold Mem.readF; split <;> (try rw [store_n]) <;> rw [countM_n] <;> exact g.n, by
  unfold Mem.readF
  split
  · rw [store_fuse (by rw [count_fuse]; exact g.fuse), count_fuse]; exact g.fuse
  · rw [count_fuse]; exact g.fuse⟩
theorem Good.readF_at (i : Nat) {j : Nat} (hj : j < n) : wordAt (Mem.readF m i) j = if (decN (wordAt m i)).2.1 = 1 ∧ i = j then encN (decN (wordAt m i)).1 else wordAt m j := by
  unfold Mem.readF
  by_cases h : (decN (wordAt m i)).2.1 = 1
  · rw [if_pos h, store_at (ok_count g.ok _) (by rw [countM_n, g.n]; exact hj) (by rw [count_fuse]; have := g.fuse; omega), count_at]
    by_cases e : i = j
    · rw [if_pos e, if_pos ⟨h, e⟩]
    · rw [if_neg e, if_neg (fun x => e x.2)]
  · rw [if_neg h, count_at, if_neg (fun x => h x.1)]
theorem Good.read (a : Int) : Good (readS m a) n := by
  unfold readS; split
  · exact g.readF _
  · exact g
theorem Good.read_at {a : Int} (ha : 0 ≤ a ∧ a < n) {j : Nat} (hj : j < n) : wordAt (readS m a) j = if (decN (wordAt m a.toNat)).2.1 = 1 ∧ a.toNat = j then encN (decN (wordAt m a.toNat)).1 else wordAt m j := by
  unfold readS; rw [g.inM ha]; exact g.readF_at _ hj
theorem Good.readR {a : Int} (ha : 0 ≤ a ∧ a < n) : readR m a = if (decN (wordAt m a.toNat)).2.1 = 2 then (0, 2, 300) else ((decN (wordAt m a.toNat)).1, (decN (wordAt m a.toNat)).2.1, 0) := by
  unfold Mem.readR; rw [g.inM ha]; rfl
end

/-! ### the example -/
theorem okAwake : SpecOk Tryd.prog G0 27 sAwake :=
  spec2 mixed tG_ok Tryd.func27 (by kernel_rfl : Tryd.f27.body = some (codeOf Tryd.f27)) cAwake rfl rfl rfl (by kernel_rfl) (ids := []) (by kernel_rfl) trivial (by
    intro args h K hk
    unfold sAwake at hk
    split at hk
    · show bAwake K
      rw [bAwake_eq]
      refine ⟨fun _ => ?_, fun h => by cases h⟩
      have o1 : OkM (newM 4 2) := ok_newM (by decide) (by decide) (by decide) (by decide)
      rintro _ rfl _ rfl
      rw [dnT rfl]
      refine ⟨o1, by decide, by decide, ?_⟩
      rintro _ rfl _ rfl
      rw [dnT (by decide +kernel)]
      refine ⟨ok_writeS o1 _ _, ?_⟩
      rintro _ rfl _ rfl
      rw [dnT (by decide +kernel)]
      refine ⟨ok_upsS (ok_writeS o1 _ _) _ _, ?_⟩
      rintro _ rfl _ rfl _ rfl _ rfl
      refine ⟨ok_readS (ok_upsS (ok_writeS o1 _ _) _ _) _, ?_⟩
      rintro _ rfl _ rfl _ rfl _ rfl _ rfl _ rfl
      rw [dT (by decide +kernel), dT (by decide +kernel), dT (by decide +kernel), dT (by decide +kernel), dT (by decide +kernel), dT (by decide +kernel), Bool.and_true,
        decide_eq_true (show (readS (readS (upsS (writeS (newM 4 2) 1 7) 1 3) 1) 1).fx = 1 by decide +kernel), decide_eq_true (show (readS (readS (upsS (writeS (newM 4 2) 1 7) 1 3) 1) 1).lo = 0 by decide +kernel), decide_eq_true (show (readS (readS (upsS (writeS (newM 4 2) 1 7) 1 3) 1) 1).st = 2 by decide +kernel)]
      rw [Bool.and_self, Bool.and_self, cond_true, dT (by decide +kernel), decide_eq_true (show (readS (readS (upsS (writeS (newM 4 2) 1 7) 1 3) 1) 1).safe = 2 by decide +kernel)]
      exact hk
    · exact hk.elim)
end Go.Am.Mem
