/-
  Memory: its methods. Own work.
-/
import Derived.Test.YtecocfcaeenaoaaDoorHamX
namespace Go.Am.Mem
open Go Go.Am Go.Am.Ham Go.Proofs
set_option maxRecDepth 100000

/-- What a memory is, the program's as well as the reference's. -/
structure Mem where
  W : List Value
  n : Nat
  safe : Int
  scrub : Int
  fuse : Int
  bl : Bool
  fx : Int
  lo : Int
  st : Int
def memC (m : Mem) : List Value := [.slice (some ⟨1, 0, some 0⟩) m.n 2, .int .i64 m.safe, .int .i64 m.scrub, .int .i64 m.fuse, .bool m.bl, .int .i64 m.fx, .int .i64 m.lo, .int .i64 m.st]
def memH (m : Mem) (ty ty2 : TypeId) (mv mv2 : Bool) : AHeap := [.cells false (memC m) ty mv, .cells true m.W ty2 mv2]
def asMem (h : AHeap) (k : Mem → TypeId → TypeId → Bool → Bool → Prop) : Prop := match h with
  | [.cells false [.slice (some ⟨1, 0, some 0⟩) n 2, .int .i64 safe, .int .i64 scrub, .int .i64 fuse, .bool bl, .int .i64 fx, .int .i64 lo, .int .i64 st] ty mv, .cells true W ty2 mv2] => k ⟨W, n, safe, scrub, fuse, bl, fx, lo, st⟩ ty ty2 mv mv2
  | _ => False
theorem asMem_elim {h : AHeap} {k : Mem → TypeId → TypeId → Bool → Bool → Prop} (hk : asMem h k) : ∃ m ty ty2 mv mv2, h = memH m ty ty2 mv mv2 ∧ k m ty ty2 mv mv2 := by
  unfold asMem at hk
  split at hk
  · exact ⟨_, _, _, _, _, rfl, hk⟩
  · exact hk.elim

def wordAt (m : Mem) (i : Nat) : Nat := (intOf (m.W.getD i undef)).toNat
def setW (m : Mem) (i c : Nat) : Mem := { m with W := m.W.set i (.int .u64 ((c : Nat) : Int)) }
structure OkM (m : Mem) : Prop where
  len : m.W.length = m.n
  word : ∀ i, i < m.n → m.W.getD i undef = .int .u64 ((wordAt m i : Nat) : Int)
  lt : ∀ i, i < m.n → wordAt m i < 2 ^ 39
  pos : 0 < m.n
  le : m.n ≤ 16384
  safe0 : 0 ≤ m.safe
  safe1 : m.safe ≤ m.n
  scrub0 : 0 ≤ m.scrub
  scrub1 : m.scrub < m.n

/-- Is it an index? -/
def inM (m : Mem) (a : Int) : Bool := decide (0 ≤ a) && decide (a < m.n)
def chkM (m : Mem) (a : Int) : Nat := if inM m a then 0 else 2
def roomM (m : Mem) (a n : Int) : Nat := if 0 ≤ a ∧ a ≤ m.n ∧ 0 ≤ n ∧ n ≤ 4 * (m.n - a) then 0 else 2
def storeM (m : Mem) (i c : Nat) : Mem :=
  if m.fuse = 0 then { m with bl := true } else
    { m with W := m.W.set i (.int .u64 ((c : Nat) : Int)), fuse := if m.fuse > 0 then iSub .i64 m.fuse 1 else m.fuse, st := iAdd .i64 m.st 1 }
def countM (m : Mem) (k : Int) : Mem := if k = 1 then { m with fx := iAdd .i64 m.fx 1 } else if k = 2 then { m with lo := iAdd .i64 m.lo 1 } else m

/-! ### the specifications -/
def sChk : Spec := fun args h K => match args with
  | [.pointer (some ⟨0, 0, some 0⟩), .int .i64 a] => asMem h fun m ty ty2 mv mv2 => m.n ≤ 16384 ∧ K (.int .i64 ((chkM m a : Nat) : Int)) (memH m ty ty2 mv mv2)
  | _ => False
def sRoom : Spec := fun args h K => match args with
  | [.pointer (some ⟨0, 0, some 0⟩), .int .i64 a, .int .i64 n] => asMem h fun m ty ty2 mv mv2 => m.n ≤ 16384 ∧ K (.int .i64 ((roomM m a n : Nat) : Int)) (memH m ty ty2 mv mv2)
  | _ => False
def sThere : Spec := fun args h K => match args with
  | [.pointer (some ⟨0, 0, some 0⟩), .int .i64 a] => asMem h fun m ty ty2 mv mv2 => K (.bool (inM m a)) (memH m ty ty2 mv mv2)
  | _ => False
def sStore : Spec := fun args h K => match args with
  | [.pointer (some ⟨0, 0, some 0⟩), .int .i64 a, .int .u32 w] => asMem h fun m ty ty2 mv mv2 => m.W.length = m.n ∧ 0 ≤ a ∧ a < m.n ∧ 0 ≤ w ∧ w < 2 ^ 32 ∧ K (.tuple #[]) (memH (storeM m a.toNat (encN w.toNat)) ty ty2 mv mv2)
  | _ => False
def sStoreC : Spec := fun args h K => match args with
  | [.pointer (some ⟨0, 0, some 0⟩), .int .i64 a, .int .u64 c] => asMem h fun m ty ty2 mv mv2 => m.W.length = m.n ∧ 0 ≤ a ∧ a < m.n ∧ 0 ≤ c ∧ K (.tuple #[]) (memH (storeM m a.toNat c.toNat) ty ty2 mv mv2)
  | _ => False
def sCount : Spec := fun args h K => match args with
  | [.pointer (some ⟨0, 0, some 0⟩), .int .i64 k] => asMem h fun m ty ty2 mv mv2 => K (.tuple #[]) (memH (countM m k) ty ty2 mv mv2)
  | _ => False

/-! ### what their texts compute -/
def tE : List (Nat × Spec) := []
theorem tE_ok : AllOk Tryd.prog G0 tE := trivial
def tS : List (Nat × Spec) := [(54, s13)]
theorem tS_ok : AllOk Tryd.prog G0 tS := ⟨ok13, trivial⟩
noncomputable def cChk : FCfg := mkG Tryd.prog G0 tE 27 [(0, [0, 1]), (1, [0, 1, 5]), (2, [4]), (3, [15]), (4, [4]), (5, [4])] [] [] [] [] [] 40 2
noncomputable def bChk (m : Mem) (ty ty2 : TypeId) (mv mv2 : Bool) (a : Int) (K : Value → AHeap → Prop) : Prop := bodyK cChk (codeOf Tryd.f40) Tryd.f40.results.toList [.pointer (some ⟨0, 0, some 0⟩), .int .i64 a] (memH m ty ty2 mv mv2) K
noncomputable def cRoom : FCfg := mkG Tryd.prog G0 tE 45 [(0, [0, 1, 2]), (1, [0, 1, 2, 7]), (2, [6]), (3, [17]), (4, [6]), (5, [6])] [] [] [] [] [] 40 2
noncomputable def bRoom (m : Mem) (ty ty2 : TypeId) (mv mv2 : Bool) (a n : Int) (K : Value → AHeap → Prop) : Prop := bodyK cRoom (codeOf Tryd.f43) Tryd.f43.results.toList [.pointer (some ⟨0, 0, some 0⟩), .int .i64 a, .int .i64 n] (memH m ty ty2 mv mv2) K
noncomputable def cStore : FCfg := mkG Tryd.prog G0 tS 43 [(0, [0, 1, 2, 10]), (1, []), (2, [0, 1, 2, 18]), (3, [0, 1, 2]), (4, [0]), (5, [])] [] [] [] [] [] 40 2
noncomputable def bStore (m : Mem) (ty ty2 : TypeId) (mv mv2 : Bool) (a w : Int) (K : Value → AHeap → Prop) : Prop := bodyK cStore (codeOf Tryd.f47) Tryd.f47.results.toList [.pointer (some ⟨0, 0, some 0⟩), .int .i64 a, .int .u32 w] (memH m ty ty2 mv mv2) K
noncomputable def cCount : FCfg := mkG Tryd.prog G0 tE 27 [(0, [0, 4]), (1, [0, 4, 5]), (2, []), (3, [0, 16]), (4, [])] [] [] [] [] [] 40 2
noncomputable def bCount (m : Mem) (ty ty2 : TypeId) (mv mv2 : Bool) (k : Int) (K : Value → AHeap → Prop) : Prop := bodyK cCount (codeOf Tryd.f45) Tryd.f45.results.toList [.pointer (some ⟨0, 0, some 0⟩), .int .i64 k] (memH m ty ty2 mv mv2) K
theorem bChk_eq (m : Mem) (ty ty2 : TypeId) (mv mv2 : Bool) (a : Int) (K : Value → AHeap → Prop) : bChk m ty ty2 mv mv2 a K = (cond (decide ((a < (0 : Int)))) (K (Value.int IntKind.i64 (2 : Int)) (memH m ty ty2 mv mv2)) (∀ x1 : Int, ((x1 = (((Mem.n m) : Nat) : Int)) → (cond (decide ((a ≥ x1))) (K (Value.int IntKind.i64 (2 : Int)) (memH m ty ty2 mv mv2)) (K (Value.int IntKind.i64 (0 : Int)) (memH m ty ty2 mv mv2)))))) := by
  kernel_rfl
theorem bRoom_eq (m : Mem) (ty ty2 : TypeId) (mv mv2 : Bool) (a n : Int) (K : Value → AHeap → Prop) : bRoom m ty ty2 mv mv2 a n K = (cond (decide ((a < (0 : Int)))) (K (Value.int IntKind.i64 (2 : Int)) (memH m ty ty2 mv mv2)) (∀ x1 : Int, ((x1 = (((Mem.n m) : Nat) : Int)) → (cond (decide ((a > x1))) (K (Value.int IntKind.i64 (2 : Int)) (memH m ty ty2 mv mv2)) (cond (decide ((n < (0 : Int)))) (K (Value.int IntKind.i64 (2 : Int)) (memH m ty ty2 mv mv2)) (∀ x2 : Int, ((x2 = (((Mem.n m) : Nat) : Int)) → (∀ x3 : Int, ((x3 = (iSub IntKind.i64 x2 a)) → (∀ x4 : Int, ((x4 = (iMul IntKind.i64 (4 : Int) x3)) → (cond (decide ((n > x4))) (K (Value.int IntKind.i64 (2 : Int)) (memH m ty ty2 mv mv2)) (K (Value.int IntKind.i64 (0 : Int)) (memH m ty ty2 mv mv2)))))))))))))) := by
  kernel_rfl
theorem bStore_eq (m : Mem) (ty ty2 : TypeId) (mv mv2 : Bool) (a w : Int) (K : Value → AHeap → Prop) : bStore m ty ty2 mv mv2 a w K = (cond (decide (((Mem.fuse m) = (0 : Int)))) (K Go.undef [(AObj.cells Bool.false [(Value.slice (Option.some (Addr.mk (1 : Nat) 0 (Option.some 0))) (Mem.n m) (2 : Nat)), (Value.int IntKind.i64 (Mem.safe m)), (Value.int IntKind.i64 (Mem.scrub m)), (Value.int IntKind.i64 (Mem.fuse m)), (Value.bool Bool.true), (Value.int IntKind.i64 (Mem.fx m)), (Value.int IntKind.i64 (Mem.lo m)), (Value.int IntKind.i64 (Mem.st m))] ty mv), (AObj.cells Bool.true (Mem.W m) ty2 mv2)]) (cond (decide (((Mem.fuse m) > (0 : Int)))) (∀ x5 : Int, ((x5 = (iSub IntKind.i64 (Mem.fuse m) (1 : Int))) → ((((0 : Int) ≤ w) ∧ ((w < (4294967296 : Int)) ∧ (∀ x6 : Int, ((x6 = (((Ham.encN (Int.toNat w)) : Nat) : Int)) → (cond ((decide (((0 : Int) ≤ a))) && (decide ((a < (((Mem.n m) : Nat) : Int))))) (cond (decide ((((Int.toNat a) + (1 : Nat) : Nat) ≤ (List.length (Mem.W m))))) (∀ x7 : Int, ((x7 = (iAdd IntKind.i64 (Mem.st m) (1 : Int))) → (K Go.undef [(AObj.cells Bool.false [(Value.slice (Option.some (Addr.mk (1 : Nat) 0 (Option.some 0))) (Mem.n m) (2 : Nat)), (Value.int IntKind.i64 (Mem.safe m)), (Value.int IntKind.i64 (Mem.scrub m)), (Value.int IntKind.i64 x5), (Value.bool (Mem.bl m)), (Value.int IntKind.i64 (Mem.fx m)), (Value.int IntKind.i64 (Mem.lo m)), (Value.int IntKind.i64 x7)] ty mv), (AObj.cells Bool.true (List.set (Mem.W m) (Int.toNat a) (Value.int IntKind.u64 x6)) ty2 mv2)]))) False) False))))) ∧ (((0 : Int) ≤ w) ∧ ((w < (4294967296 : Int)) ∧ (∀ x8 : Int, ((x8 = (((Ham.encN (Int.toNat w)) : Nat) : Int)) → (cond ((decide (((0 : Int) ≤ a))) && (decide ((a < (((Mem.n m) : Nat) : Int))))) (cond (decide ((((Int.toNat a) + (1 : Nat) : Nat) ≤ (List.length (Mem.W m))))) (∀ x9 : Int, ((x9 = (iAdd IntKind.i64 (Mem.st m) (1 : Int))) → (K Go.undef [(AObj.cells Bool.false [(Value.slice (Option.some (Addr.mk (1 : Nat) 0 (Option.some 0))) (Mem.n m) (2 : Nat)), (Value.int IntKind.i64 (Mem.safe m)), (Value.int IntKind.i64 (Mem.scrub m)), (Value.int IntKind.i64 x5), (Value.bool (Mem.bl m)), (Value.int IntKind.i64 (Mem.fx m)), (Value.int IntKind.i64 (Mem.lo m)), (Value.int IntKind.i64 x9)] ty mv), (AObj.cells Bool.true (List.set (Mem.W m) (Int.toNat a) (Value.int IntKind.u64 x8)) ty2 mv2)]))) False) False)))))))) ((((0 : Int) ≤ w) ∧ ((w < (4294967296 : Int)) ∧ (∀ x1 : Int, ((x1 = (((Ham.encN (Int.toNat w)) : Nat) : Int)) → (cond ((decide (((0 : Int) ≤ a))) && (decide ((a < (((Mem.n m) : Nat) : Int))))) (cond (decide ((((Int.toNat a) + (1 : Nat) : Nat) ≤ (List.length (Mem.W m))))) (∀ x2 : Int, ((x2 = (iAdd IntKind.i64 (Mem.st m) (1 : Int))) → (K Go.undef [(AObj.cells Bool.false [(Value.slice (Option.some (Addr.mk (1 : Nat) 0 (Option.some 0))) (Mem.n m) (2 : Nat)), (Value.int IntKind.i64 (Mem.safe m)), (Value.int IntKind.i64 (Mem.scrub m)), (Value.int IntKind.i64 (Mem.fuse m)), (Value.bool (Mem.bl m)), (Value.int IntKind.i64 (Mem.fx m)), (Value.int IntKind.i64 (Mem.lo m)), (Value.int IntKind.i64 x2)] ty mv), (AObj.cells Bool.true (List.set (Mem.W m) (Int.toNat a) (Value.int IntKind.u64 x1)) ty2 mv2)]))) False) False))))) ∧ (((0 : Int) ≤ w) ∧ ((w < (4294967296 : Int)) ∧ (∀ x3 : Int, ((x3 = (((Ham.encN (Int.toNat w)) : Nat) : Int)) → (cond ((decide (((0 : Int) ≤ a))) && (decide ((a < (((Mem.n m) : Nat) : Int))))) (cond (decide ((((Int.toNat a) + (1 : Nat) : Nat) ≤ (List.length (Mem.W m))))) (∀ x4 : Int, ((x4 = (iAdd IntKind.i64 (Mem.st m) (1 : Int))) → (K Go.undef [(AObj.cells Bool.false [(Value.slice (Option.some (Addr.mk (1 : Nat) 0 (Option.some 0))) (Mem.n m) (2 : Nat)), (Value.int IntKind.i64 (Mem.safe m)), (Value.int IntKind.i64 (Mem.scrub m)), (Value.int IntKind.i64 (Mem.fuse m)), (Value.bool (Mem.bl m)), (Value.int IntKind.i64 (Mem.fx m)), (Value.int IntKind.i64 (Mem.lo m)), (Value.int IntKind.i64 x4)] ty mv), (AObj.cells Bool.true (List.set (Mem.W m) (Int.toNat a) (Value.int IntKind.u64 x3)) ty2 mv2)]))) False) False)))))))) := by
  kernel_rfl
theorem bCount_eq (m : Mem) (ty ty2 : TypeId) (mv mv2 : Bool) (k : Int) (K : Value → AHeap → Prop) : bCount m ty ty2 mv mv2 k K = (cond (decide ((k = (1 : Int)))) (∀ x2 : Int, ((x2 = (iAdd IntKind.i64 (Mem.fx m) (1 : Int))) → (K Go.undef [(AObj.cells Bool.false [(Value.slice (Option.some (Addr.mk (1 : Nat) 0 (Option.some 0))) (Mem.n m) (2 : Nat)), (Value.int IntKind.i64 (Mem.safe m)), (Value.int IntKind.i64 (Mem.scrub m)), (Value.int IntKind.i64 (Mem.fuse m)), (Value.bool (Mem.bl m)), (Value.int IntKind.i64 x2), (Value.int IntKind.i64 (Mem.lo m)), (Value.int IntKind.i64 (Mem.st m))] ty mv), (AObj.cells Bool.true (Mem.W m) ty2 mv2)]))) (cond (decide ((k = (2 : Int)))) (∀ x1 : Int, ((x1 = (iAdd IntKind.i64 (Mem.lo m) (1 : Int))) → (K Go.undef [(AObj.cells Bool.false [(Value.slice (Option.some (Addr.mk (1 : Nat) 0 (Option.some 0))) (Mem.n m) (2 : Nat)), (Value.int IntKind.i64 (Mem.safe m)), (Value.int IntKind.i64 (Mem.scrub m)), (Value.int IntKind.i64 (Mem.fuse m)), (Value.bool (Mem.bl m)), (Value.int IntKind.i64 (Mem.fx m)), (Value.int IntKind.i64 x1), (Value.int IntKind.i64 (Mem.st m))] ty mv), (AObj.cells Bool.true (Mem.W m) ty2 mv2)]))) (K Go.undef (memH m ty ty2 mv mv2)))) := by
  kernel_rfl
end Go.Am.Mem

namespace Go.Am.Mem
open Go Go.Am Go.Am.Ham Go.Proofs
set_option maxRecDepth 100000

theorem dT {p : Prop} [Decidable p] (h : p) {A B : Prop} : cond (decide p) A B = A := by rw [decide_eq_true h, cond_true]
theorem dF {p : Prop} [Decidable p] (h : ¬ p) {A B : Prop} : cond (decide p) A B = B := by rw [decide_eq_false h, cond_false]
theorem dnT {p : Prop} [Decidable p] (h : p) {A B : Prop} : cond (!decide p) A B = B := by rw [decide_eq_true h, Bool.not_true, cond_false]
theorem dnF {p : Prop} [Decidable p] (h : ¬ p) {A B : Prop} : cond (!decide p) A B = A := by rw [decide_eq_false h, Bool.not_false, cond_true]
theorem dT2 {p q : Prop} [Decidable p] [Decidable q] (hp : p) (hq : q) {A B : Prop} : cond (decide p && decide q) A B = A := by rw [decide_eq_true hp, decide_eq_true hq, Bool.and_self, cond_true]

theorem inM_iff {m : Mem} {a : Int} : inM m a = true ↔ 0 ≤ a ∧ a < m.n := by
  unfold inM; rw [Bool.and_eq_true, decide_eq_true_eq, decide_eq_true_eq]
theorem chkM_in {m : Mem} {a : Int} (h : 0 ≤ a ∧ a < m.n) : chkM m a = 0 := by unfold chkM; rw [if_pos (inM_iff.2 h)]
theorem chkM_out {m : Mem} {a : Int} (h : ¬ (0 ≤ a ∧ a < m.n)) : chkM m a = 2 := by unfold chkM; rw [if_neg (fun e => h (inM_iff.1 e))]

theorem okChk : SpecOk Tryd.prog G0 40 sChk :=
  spec2 mixed tE_ok Tryd.func40 (by kernel_rfl : Tryd.f40.body = some (codeOf Tryd.f40)) cChk rfl rfl rfl (by kernel_rfl) (ids := []) (by kernel_rfl) trivial (by
    intro args h K hk
    unfold sChk at hk
    split at hk
    · rename_i a
      replace hk := asMem_elim hk
      obtain ⟨m, ty, ty2, mv, mv2, rfl, hn, hk⟩ := hk
      show bChk m ty ty2 mv mv2 a K
      rw [bChk_eq]
      by_cases h1 : a < 0
      · rw [chkM_out (by omega)] at hk
        rw [dT h1]; exact hk
      · rw [dF h1]
        rintro _ rfl
        by_cases h2 : a ≥ (m.n : Int)
        · rw [chkM_out (by omega)] at hk
          rw [dT h2]; exact hk
        · rw [chkM_in (by omega)] at hk
          rw [dF h2]; exact hk
    · exact hk.elim)
theorem okRoom : SpecOk Tryd.prog G0 43 sRoom :=
  spec2 mixed tE_ok Tryd.func43 (by kernel_rfl : Tryd.f43.body = some (codeOf Tryd.f43)) cRoom rfl rfl rfl (by kernel_rfl) (ids := []) (by kernel_rfl) trivial (by
    intro args h K hk
    unfold sRoom at hk
    split at hk
    · rename_i a n
      replace hk := asMem_elim hk
      obtain ⟨m, ty, ty2, mv, mv2, rfl, hn, hk⟩ := hk
      show bRoom m ty ty2 mv mv2 a n K
      rw [bRoom_eq]
      unfold roomM at hk
      by_cases h1 : a < 0
      · rw [if_neg (by omega)] at hk
        rw [dT h1]; exact hk
      · rw [dF h1]
        rintro _ rfl
        by_cases h2 : a > (m.n : Int)
        · rw [if_neg (by omega)] at hk
          rw [dT h2]; exact hk
        · rw [dF h2]
          by_cases h3 : n < 0
          · rw [if_neg (by omega)] at hk
            rw [dT h3]; exact hk
          · rw [dF h3]
            rintro _ rfl x3 e3 x4 e4
            rw [iSub_i64 (by omega) (by omega)] at e3
            rw [e3, iMul_i64 (by omega) (by omega)] at e4
            by_cases h4 : n > x4
            · rw [if_neg (by omega)] at hk
              rw [dT h4]; exact hk
            · rw [if_pos (by omega)] at hk
              rw [dF h4]; exact hk
    · exact hk.elim)
def sFit : Spec := fun args h K => match args with
  | [.pointer (some ⟨0, 0, some 0⟩), .int .i64 a, .int .i64 n] => asMem h fun m ty ty2 mv mv2 => m.n ≤ 16384 ∧ K (.bool (decide (roomM m a n = 0))) (memH m ty ty2 mv mv2)
  | _ => False
theorem okCount : SpecOk Tryd.prog G0 45 sCount :=
  spec2 mixed tE_ok Tryd.func45 (by kernel_rfl : Tryd.f45.body = some (codeOf Tryd.f45)) cCount rfl rfl rfl (by kernel_rfl) (ids := []) (by kernel_rfl) trivial (by
    intro args h K hk
    unfold sCount at hk
    split at hk
    · rename_i k
      replace hk := asMem_elim hk
      obtain ⟨m, ty, ty2, mv, mv2, rfl, hk⟩ := hk
      show bCount m ty ty2 mv mv2 k K
      rw [bCount_eq]
      unfold countM at hk
      by_cases h1 : k = 1
      · rw [if_pos h1] at hk
        rw [dT h1]
        rintro _ rfl
        exact hk
      · rw [if_neg h1] at hk
        rw [dF h1]
        by_cases h2 : k = 2
        · rw [if_pos h2] at hk
          rw [dT h2]
          rintro _ rfl
          exact hk
        · rw [if_neg h2] at hk
          rw [dF h2]; exact hk
    · exact hk.elim)
theorem okStore : SpecOk Tryd.prog G0 47 sStore :=
  spec2 mixed tS_ok Tryd.func47 (by kernel_rfl : Tryd.f47.body = some (codeOf Tryd.f47)) cStore rfl rfl rfl (by kernel_rfl) (ids := []) (by kernel_rfl) trivial (by
    intro args h K hk
    unfold sStore at hk
    split at hk
    · rename_i a w
      replace hk := asMem_elim hk
      obtain ⟨m, ty, ty2, mv, mv2, rfl, hl, a0, a1, w0, w1, hk⟩ := hk
      show bStore m ty ty2 mv mv2 a w K
      rw [bStore_eq]
      unfold storeM at hk
      have w2 : w < 4294967296 := by omega
      have hle : a.toNat + 1 ≤ m.W.length := by omega
      by_cases h1 : m.fuse = 0
      · rw [if_pos h1] at hk
        rw [dT h1]; exact hk
      · rw [if_neg h1] at hk
        rw [dF h1]
        by_cases h2 : m.fuse > 0
        · rw [if_pos h2] at hk
          rw [dT h2]
          rintro _ rfl
          constructor
          all_goals
            refine ⟨w0, w2, ?_⟩
            rintro _ rfl
            rw [dT2 a0 a1, dT hle]
            rintro _ rfl
            exact hk
        · rw [if_neg h2] at hk
          rw [dF h2]
          constructor
          all_goals
            refine ⟨w0, w2, ?_⟩
            rintro _ rfl
            rw [dT2 a0 a1, dT hle]
            rintro _ rfl
            exact hk
    · exact hk.elim)
end Go.Am.Mem

namespace Go.Am.Mem
open Go Go.Am Go.Am.Ham Go.Proofs
set_option maxRecDepth 100000

def writeS (m : Mem) (a : Int) (w : Nat) : Mem := if inM m a then storeM m a.toNat (encN w) else m
/-- A word is read: what becomes of the memory. -/
def readF (m : Mem) (i : Nat) : Mem := if (decN (wordAt m i)).2.1 = 1 then storeM (countM m (decN (wordAt m i)).2.1) i (encN (decN (wordAt m i)).1) else countM m (decN (wordAt m i)).2.1
def readS (m : Mem) (a : Int) : Mem := if inM m a then readF m a.toNat else m
def readR (m : Mem) (a : Int) : Nat × Nat × Nat := if inM m a then (if (decN (wordAt m a.toNat)).2.1 = 2 then (0, 2, 300) else ((decN (wordAt m a.toNat)).1, (decN (wordAt m a.toNat)).2.1, 0)) else (0, 0, 2)
def rawR (m : Mem) (a : Int) : Nat × Nat := if inM m a then (wordAt m a.toNat, 0) else (0, 2)
def upsR (m : Mem) (a b : Int) : Nat := if inM m a = true ∧ 0 ≤ b ∧ b < 39 then 0 else 2
def upsS (m : Mem) (a b : Int) : Mem := if inM m a = true ∧ 0 ≤ b ∧ b < 39 then setW m a.toNat (wordAt m a.toNat ^^^ 2 ^ b.toNat) else m
def fuseR (n : Int) : Nat := if n < -1 then 2 else 0
def fuseS (m : Mem) (n : Int) : Mem := if n < -1 then m else { m with fuse := n, bl := false }
def newM (n : Nat) (s : Int) : Mem := ⟨List.replicate n (.int .u64 0), n, s, 0, -1, false, 0, 0, 0⟩
def newB (n s : Int) : Bool := decide (1 ≤ n) && decide (n ≤ 16384) && decide (0 ≤ s) && decide (s ≤ n)

def clo : Value := .func (.func 45) #[.pointer (some ⟨0, 0, some 0⟩)] #[]
def sReadI : Spec := fun args h K => match args with
  | [.pointer (some ⟨0, 0, some 0⟩), .int .i64 a, .func (.func 45) ⟨[.pointer (some ⟨0, 0, some 0⟩)]⟩ ⟨[]⟩] => asMem h fun m ty ty2 mv mv2 => OkM m ∧ 0 ≤ a ∧ a < m.n ∧
      K (.tuple #[.int .u32 (((decN (wordAt m a.toNat)).1 : Nat) : Int), .int .i64 (((decN (wordAt m a.toNat)).2.1 : Nat) : Int)]) (memH (readF m a.toNat) ty ty2 mv mv2)
  | _ => False
def sWrite : Spec := fun args h K => match args with
  | [.pointer (some ⟨0, 0, some 0⟩), .int .i64 a, .int .u32 w] => asMem h fun m ty ty2 mv mv2 => OkM m ∧ 0 ≤ w ∧ w < 2 ^ 32 ∧ K (.int .i64 ((chkM m a : Nat) : Int)) (memH (writeS m a w.toNat) ty ty2 mv mv2)
  | _ => False
def sRead : Spec := fun args h K => match args with
  | [.pointer (some ⟨0, 0, some 0⟩), .int .i64 a] => asMem h fun m ty ty2 mv mv2 => OkM m ∧ K (.tuple #[.int .u32 (((readR m a).1 : Nat) : Int), .int .i64 (((readR m a).2.1 : Nat) : Int), .int .i64 (((readR m a).2.2 : Nat) : Int)]) (memH (readS m a) ty ty2 mv mv2)
  | _ => False
def sRaw : Spec := fun args h K => match args with
  | [.pointer (some ⟨0, 0, some 0⟩), .int .i64 a] => asMem h fun m ty ty2 mv mv2 => OkM m ∧ K (.tuple #[.int .u64 (((rawR m a).1 : Nat) : Int), .int .i64 (((rawR m a).2 : Nat) : Int)]) (memH m ty ty2 mv mv2)
  | _ => False
def sUps : Spec := fun args h K => match args with
  | [.pointer (some ⟨0, 0, some 0⟩), .int .i64 a, .int .i64 b] => asMem h fun m ty ty2 mv mv2 => OkM m ∧ K (.int .i64 ((upsR m a b : Nat) : Int)) (memH (upsS m a b) ty ty2 mv mv2)
  | _ => False
def sFuse : Spec := fun args h K => match args with
  | [.pointer (some ⟨0, 0, some 0⟩), .int .i64 n] => asMem h fun m ty ty2 mv mv2 => OkM m ∧ K (.int .i64 ((fuseR n : Nat) : Int)) (memH (fuseS m n) ty ty2 mv mv2)
  | _ => False
def sSize : Spec := fun args h K => match args with
  | [.pointer (some ⟨0, 0, some 0⟩)] => asMem h fun m ty ty2 mv mv2 => K (.tuple #[.int .i64 (m.n : Int), .int .i64 m.safe]) (memH m ty ty2 mv mv2)
  | _ => False
def sBlown : Spec := fun args h K => match args with
  | [.pointer (some ⟨0, 0, some 0⟩)] => asMem h fun m ty ty2 mv mv2 => K (.bool m.bl) (memH m ty ty2 mv mv2)
  | _ => False
def sCounts : Spec := fun args h K => match args with
  | [.pointer (some ⟨0, 0, some 0⟩)] => asMem h fun m ty ty2 mv mv2 => K (.agg #[.int .i64 m.fx, .int .i64 m.lo, .int .i64 m.st]) (memH m ty ty2 mv mv2)
  | _ => False
def sNew (ty : TypeId) : Spec := fun args h K => match args, h with
  | [.int .i64 n, .int .i64 s], [] => (newB n s = true → K (.tuple #[.pointer (some ⟨0, 0, some 0⟩), .int .i64 0]) (memH (newM n.toNat s) ty 83 false false)) ∧ (newB n s = false → K (.tuple #[.pointer none, .int .i64 2]) [])
  | _, _ => False

def tC : List (Nat × Spec) := [(40, sChk), (47, sStore), (45, sCount), (43, sRoom), (51, s9)]
theorem tC_ok : AllOk Tryd.prog G0 tC := ⟨okChk, okStore, okCount, okRoom, ok9, trivial⟩

noncomputable def cReadI : FCfg := mkG Tryd.prog G0 tC 34 [(0, [0, 1, 2]), (1, [0, 1, 2, 8, 9]), (2, [0, 1, 8, 9]), (3, [0, 1, 8, 9, 27]), (4, [8, 9]), (5, [6, 7])] [] [] [] [] [] 40 2
noncomputable def bReadI (m : Mem) (ty ty2 : TypeId) (mv mv2 : Bool) (a : Int) (K : Value → AHeap → Prop) : Prop := bodyK cReadI (codeOf Tryd.f44) Tryd.f44.results.toList [.pointer (some ⟨0, 0, some 0⟩), .int .i64 a, clo] (memH m ty ty2 mv mv2) K
noncomputable def cWrite : FCfg := mkG Tryd.prog G0 tC 18 [(0, [0, 1, 2]), (1, [0, 1, 2, 7]), (2, [0, 1, 2, 7, 12]), (3, [7]), (4, [6])] [] [] [] [] [] 40 2
noncomputable def bWrite (m : Mem) (ty ty2 : TypeId) (mv mv2 : Bool) (a w : Int) (K : Value → AHeap → Prop) : Prop := bodyK cWrite (codeOf Tryd.f37) Tryd.f37.results.toList [.pointer (some ⟨0, 0, some 0⟩), .int .i64 a, .int .u32 w] (memH m ty ty2 mv mv2) K
noncomputable def cUps : FCfg := mkG Tryd.prog G0 tC 35 [(0, [0, 1, 2]), (1, [0, 1, 2, 7]), (2, [0, 1, 2, 7, 20]), (3, [0, 1, 2, 7]), (4, [0, 1, 2, 7, 22]), (5, [7]), (6, [6])] [] [] [] [] [] 40 2
noncomputable def bUps (m : Mem) (ty ty2 : TypeId) (mv mv2 : Bool) (a b : Int) (K : Value → AHeap → Prop) : Prop := bodyK cUps (codeOf Tryd.f24) Tryd.f24.results.toList [.pointer (some ⟨0, 0, some 0⟩), .int .i64 a, .int .i64 b] (memH m ty ty2 mv mv2) K
noncomputable def cFuse : FCfg := mkG Tryd.prog G0 tC 24 [(0, [0, 1]), (1, [0, 1, 5]), (2, [0, 1, 5, 13]), (3, [0, 1, 5]), (4, [0, 1, 5, 15]), (5, [5]), (6, [4])] [] [] [] [] [] 40 2
noncomputable def bFuse (m : Mem) (ty ty2 : TypeId) (mv mv2 : Bool) (a : Int) (K : Value → AHeap → Prop) : Prop := bodyK cFuse (codeOf Tryd.f27) Tryd.f27.results.toList [.pointer (some ⟨0, 0, some 0⟩), .int .i64 a] (memH m ty ty2 mv mv2) K
noncomputable def cSize : FCfg := mkG Tryd.prog G0 tC 15 [(0, [0]), (1, [0, 5]), (2, [2, 3]), (3, [2, 3])] [] [] [] [] [] 40 2
noncomputable def bSize (m : Mem) (ty ty2 : TypeId) (mv mv2 : Bool) (K : Value → AHeap → Prop) : Prop := bodyK cSize (codeOf Tryd.f23) Tryd.f23.results.toList [.pointer (some ⟨0, 0, some 0⟩)] (memH m ty ty2 mv mv2) K
noncomputable def cBlown : FCfg := mkG Tryd.prog G0 tC 11 [(0, [0]), (1, [2])] [] [] [] [] [] 40 2
noncomputable def bBlown (m : Mem) (ty ty2 : TypeId) (mv mv2 : Bool) (K : Value → AHeap → Prop) : Prop := bodyK cBlown (codeOf Tryd.f28) Tryd.f28.results.toList [.pointer (some ⟨0, 0, some 0⟩)] (memH m ty ty2 mv mv2) K
noncomputable def cNew : FCfg := mkG Tryd.prog G0 tC 26 [(0, [0, 1]), (1, [0, 1, 20]), (2, [4, 5]), (3, [4, 5])] [] [] [] [] [] 40 0
noncomputable def bNew (n s : Int) (K : Value → AHeap → Prop) : Prop := bodyK cNew (codeOf Tryd.f10) Tryd.f10.results.toList [.int .i64 n, .int .i64 s] [] K
theorem bReadI_eq (m : Mem) (ty ty2 : TypeId) (mv mv2 : Bool) (a : Int) (K : Value → AHeap → Prop) : bReadI m ty ty2 mv mv2 a K = (cond ((decide (((0 : Int) ≤ a))) && (decide ((a < (((Mem.n m) : Nat) : Int))))) (cond (decide ((((Int.toNat a) + (1 : Nat) : Nat) ≤ (List.length (Mem.W m))))) (cond (isInt IntKind.u64 (List.getD (Mem.W m) (Int.toNat a) Go.undef)) (((0 : Int) ≤ (intOf (List.getD (Mem.W m) (Int.toNat a) Go.undef))) ∧ (((intOf (List.getD (Mem.W m) (Int.toNat a) Go.undef)) < (18446744073709551616 : Int)) ∧ (∀ x1 : Int, ((x1 = ((((Ham.decN (Int.toNat (intOf (List.getD (Mem.W m) (Int.toNat a) Go.undef))))).fst : Nat) : Int)) → (∀ x2 : Int, ((x2 = (((((Ham.decN (Int.toNat (intOf (List.getD (Mem.W m) (Int.toNat a) Go.undef))))).snd).fst : Nat) : Int)) → (∀ x3 : Int, ((x3 = (((((Ham.decN (Int.toNat (intOf (List.getD (Mem.W m) (Int.toNat a) Go.undef))))).snd).snd : Nat) : Int)) → (cond (decide ((x2 = (1 : Int)))) (((List.length (Mem.W (countM m x2))) = (Mem.n (countM m x2))) ∧ (((0 : Int) ≤ a) ∧ ((a < (((Mem.n (countM m x2)) : Nat) : Int)) ∧ (((0 : Int) ≤ x1) ∧ ((x1 < (4294967296 : Int)) ∧ (K (Value.tuple (Array.mk [(Value.int IntKind.u32 x1), (Value.int IntKind.i64 x2)])) (memH (storeM (countM m x2) (Int.toNat a) (Ham.encN (Int.toNat x1))) ty ty2 mv mv2))))))) (K (Value.tuple (Array.mk [(Value.int IntKind.u32 x1), (Value.int IntKind.i64 x2)])) (memH (countM m x2) ty ty2 mv mv2))))))))))) False) False) False) := by
  kernel_rfl
theorem bWrite_eq (m : Mem) (ty ty2 : TypeId) (mv mv2 : Bool) (a w : Int) (K : Value → AHeap → Prop) : bWrite m ty ty2 mv mv2 a w K = (((Mem.n m) ≤ (16384 : Nat)) ∧ (∀ x1 : Int, ((x1 = (((chkM m a) : Nat) : Int)) → (cond (decide ((x1 = (0 : Int)))) (((List.length (Mem.W m)) = (Mem.n m)) ∧ (((0 : Int) ≤ a) ∧ ((a < (((Mem.n m) : Nat) : Int)) ∧ (((0 : Int) ≤ w) ∧ ((w < (4294967296 : Int)) ∧ (K (Value.int IntKind.i64 x1) (memH (storeM m (Int.toNat a) (Ham.encN (Int.toNat w))) ty ty2 mv mv2))))))) (K (Value.int IntKind.i64 x1) (memH m ty ty2 mv mv2)))))) := by
  kernel_rfl
theorem bUps_eq (m : Mem) (ty ty2 : TypeId) (mv mv2 : Bool) (a b : Int) (K : Value → AHeap → Prop) : bUps m ty ty2 mv mv2 a b K = (((Mem.n m) ≤ (16384 : Nat)) ∧ (∀ x1 : Int, ((x1 = (((chkM m a) : Nat) : Int)) → (cond (decide ((x1 = (0 : Int)))) (cond (decide ((b < (0 : Int)))) (K (Value.int IntKind.i64 (2 : Int)) (memH m ty ty2 mv mv2)) (cond (decide ((b ≥ (39 : Int)))) (K (Value.int IntKind.i64 (2 : Int)) (memH m ty ty2 mv mv2)) (cond (decide ((x1 = (0 : Int)))) (cond (decide (((0 : Int) ≤ b))) (∀ x4 : Int, ((x4 = (iMul IntKind.u64 (1 : Int) ((2 : Int) ^ (ite ((Int.toNat b) ≤ (64 : Nat)) (Int.toNat b) (64 : Nat)) : Int))) → (cond ((decide (((0 : Int) ≤ a))) && (decide ((a < (((Mem.n m) : Nat) : Int))))) (cond (decide ((((Int.toNat a) + (1 : Nat) : Nat) ≤ (List.length (Mem.W m))))) (cond (isInt IntKind.u64 (List.getD (Mem.W m) (Int.toNat a) Go.undef)) (∀ x5 : Int, ((x5 = (iXor IntKind.u64 (intOf (List.getD (Mem.W m) (Int.toNat a) Go.undef)) x4)) → (cond ((decide (((0 : Int) ≤ a))) && (decide ((a < (((Mem.n m) : Nat) : Int))))) (cond (decide ((((Int.toNat a) + (1 : Nat) : Nat) ≤ (List.length (Mem.W m))))) (K (Value.int IntKind.i64 x1) [(AObj.cells Bool.false [(Value.slice (Option.some (Addr.mk (1 : Nat) 0 (Option.some 0))) (Mem.n m) (2 : Nat)), (Value.int IntKind.i64 (Mem.safe m)), (Value.int IntKind.i64 (Mem.scrub m)), (Value.int IntKind.i64 (Mem.fuse m)), (Value.bool (Mem.bl m)), (Value.int IntKind.i64 (Mem.fx m)), (Value.int IntKind.i64 (Mem.lo m)), (Value.int IntKind.i64 (Mem.st m))] ty mv), (AObj.cells Bool.true (List.set (Mem.W m) (Int.toNat a) (Value.int IntKind.u64 x5)) ty2 mv2)]) False) False))) False) False) False))) False) (K (Value.int IntKind.i64 x1) (memH m ty ty2 mv mv2))))) (cond (decide ((x1 = (0 : Int)))) (cond (decide (((0 : Int) ≤ b))) (∀ x2 : Int, ((x2 = (iMul IntKind.u64 (1 : Int) ((2 : Int) ^ (ite ((Int.toNat b) ≤ (64 : Nat)) (Int.toNat b) (64 : Nat)) : Int))) → (cond ((decide (((0 : Int) ≤ a))) && (decide ((a < (((Mem.n m) : Nat) : Int))))) (cond (decide ((((Int.toNat a) + (1 : Nat) : Nat) ≤ (List.length (Mem.W m))))) (cond (isInt IntKind.u64 (List.getD (Mem.W m) (Int.toNat a) Go.undef)) (∀ x3 : Int, ((x3 = (iXor IntKind.u64 (intOf (List.getD (Mem.W m) (Int.toNat a) Go.undef)) x2)) → (cond ((decide (((0 : Int) ≤ a))) && (decide ((a < (((Mem.n m) : Nat) : Int))))) (cond (decide ((((Int.toNat a) + (1 : Nat) : Nat) ≤ (List.length (Mem.W m))))) (K (Value.int IntKind.i64 x1) [(AObj.cells Bool.false [(Value.slice (Option.some (Addr.mk (1 : Nat) 0 (Option.some 0))) (Mem.n m) (2 : Nat)), (Value.int IntKind.i64 (Mem.safe m)), (Value.int IntKind.i64 (Mem.scrub m)), (Value.int IntKind.i64 (Mem.fuse m)), (Value.bool (Mem.bl m)), (Value.int IntKind.i64 (Mem.fx m)), (Value.int IntKind.i64 (Mem.lo m)), (Value.int IntKind.i64 (Mem.st m))] ty mv), (AObj.cells Bool.true (List.set (Mem.W m) (Int.toNat a) (Value.int IntKind.u64 x3)) ty2 mv2)]) False) False))) False) False) False))) False) (K (Value.int IntKind.i64 x1) (memH m ty ty2 mv mv2))))))) := by
  kernel_rfl
theorem bFuse_eq (m : Mem) (ty ty2 : TypeId) (mv mv2 : Bool) (a : Int) (K : Value → AHeap → Prop) : bFuse m ty ty2 mv mv2 a K = (((Mem.n m) ≤ (16384 : Nat)) ∧ (∀ x1 : Int, ((x1 = (((chkM m (0 : Int)) : Nat) : Int)) → (cond (decide ((x1 = (0 : Int)))) (cond (decide ((a < (-1 : Int)))) (K (Value.int IntKind.i64 (2 : Int)) (memH m ty ty2 mv mv2)) (cond (decide ((x1 = (0 : Int)))) (K (Value.int IntKind.i64 x1) [(AObj.cells Bool.false [(Value.slice (Option.some (Addr.mk (1 : Nat) 0 (Option.some 0))) (Mem.n m) (2 : Nat)), (Value.int IntKind.i64 (Mem.safe m)), (Value.int IntKind.i64 (Mem.scrub m)), (Value.int IntKind.i64 a), (Value.bool Bool.false), (Value.int IntKind.i64 (Mem.fx m)), (Value.int IntKind.i64 (Mem.lo m)), (Value.int IntKind.i64 (Mem.st m))] ty mv), (AObj.cells Bool.true (Mem.W m) ty2 mv2)]) (K (Value.int IntKind.i64 x1) (memH m ty ty2 mv mv2)))) (cond (decide ((x1 = (0 : Int)))) (K (Value.int IntKind.i64 x1) [(AObj.cells Bool.false [(Value.slice (Option.some (Addr.mk (1 : Nat) 0 (Option.some 0))) (Mem.n m) (2 : Nat)), (Value.int IntKind.i64 (Mem.safe m)), (Value.int IntKind.i64 (Mem.scrub m)), (Value.int IntKind.i64 a), (Value.bool Bool.false), (Value.int IntKind.i64 (Mem.fx m)), (Value.int IntKind.i64 (Mem.lo m)), (Value.int IntKind.i64 (Mem.st m))] ty mv), (AObj.cells Bool.true (Mem.W m) ty2 mv2)]) (K (Value.int IntKind.i64 x1) (memH m ty ty2 mv mv2))))))) := by
  kernel_rfl
theorem bSize_eq (m : Mem) (ty ty2 : TypeId) (mv mv2 : Bool) (K : Value → AHeap → Prop) : bSize m ty ty2 mv mv2 K = (((∀ x1 : Int, ((x1 = (((Mem.n m) : Nat) : Int)) → (K (Value.tuple (Array.mk [(Value.int IntKind.i64 x1), (Value.int IntKind.i64 (Mem.safe m))])) (memH m ty ty2 mv mv2)))) ∧ (∀ x2 : Int, ((x2 = (((Mem.n m) : Nat) : Int)) → (K (Value.tuple (Array.mk [(Value.int IntKind.i64 x2), (Value.int IntKind.i64 (Mem.safe m))])) (memH m ty ty2 mv mv2))))) ∧ (∀ x3 : Int, ((x3 = (((Mem.n m) : Nat) : Int)) → (K (Value.tuple (Array.mk [(Value.int IntKind.i64 x3), (Value.int IntKind.i64 (Mem.safe m))])) (memH m ty ty2 mv mv2))))) := by
  kernel_rfl
theorem bBlown_eq (m : Mem) (ty ty2 : TypeId) (mv mv2 : Bool) (K : Value → AHeap → Prop) : bBlown m ty ty2 mv mv2 K = (K (Value.bool (Mem.bl m)) (memH m ty ty2 mv mv2)) := by
  kernel_rfl
theorem bNew_eq (n s : Int) (K : Value → AHeap → Prop) : bNew n s K = (cond (decide ((n < (1 : Int)))) (K (Value.tuple (Array.mk [(Value.pointer Option.none), (Value.int IntKind.i64 (2 : Int))])) []) (cond (decide ((n > (16384 : Int)))) (K (Value.tuple (Array.mk [(Value.pointer Option.none), (Value.int IntKind.i64 (2 : Int))])) []) (cond (decide ((s < (0 : Int)))) (K (Value.tuple (Array.mk [(Value.pointer Option.none), (Value.int IntKind.i64 (2 : Int))])) []) (cond (decide ((s > n))) (K (Value.tuple (Array.mk [(Value.pointer Option.none), (Value.int IntKind.i64 (2 : Int))])) []) (cond (((((((decide (((0 : Int) ≤ n))) && (decide ((n ≤ n)))) && (decide ((n ≤ (9223372036854775807 : Int))))) && (decide ((((8 : Int) * n : Int) ≤ (281474976710656 : Int))))) && Bool.true) && Bool.true) && Bool.true) (K (Value.tuple (Array.mk [(Value.pointer (Option.some (Addr.mk 0 0 (Option.some 0)))), (Value.int IntKind.i64 (0 : Int))])) [(AObj.cells Bool.false [(Value.slice (Option.some (Addr.mk (1 : Nat) 0 (Option.some 0))) (Int.toNat n) (2 : Nat)), (Value.int IntKind.i64 s), (Value.int IntKind.i64 (0 : Int)), (Value.int IntKind.i64 (-1 : Int)), (Value.bool Bool.false), (Value.int IntKind.i64 (0 : Int)), (Value.int IntKind.i64 (0 : Int)), (Value.int IntKind.i64 (0 : Int))] (66 : Nat) Bool.false), (AObj.cells Bool.true (List.replicate (Int.toNat n) (Value.int IntKind.u64 (0 : Int))) (83 : Nat) Bool.false)]) False))))) := by
  kernel_rfl
end Go.Am.Mem

namespace Go.Am.Mem
open Go Go.Am Go.Am.Ham Go.Proofs
set_option maxRecDepth 100000

theorem countM_W (m : Mem) (k : Int) : (countM m k).W = m.W := by unfold countM; split <;> (try split) <;> rfl
theorem countM_n (m : Mem) (k : Int) : (countM m k).n = m.n := by unfold countM; split <;> (try split) <;> rfl
theorem inM_false {m : Mem} {a : Int} (h : ¬ (0 ≤ a ∧ a < m.n)) : inM m a = false := by rw [← Bool.not_eq_true]; exact fun e => h (inM_iff.1 e)
theorem decN_lt (c : Nat) : (decN c).1 < 2 ^ 32 ∧ (decN c).2.1 ≤ 2 := by
  unfold decN
  split
  · exact ⟨by decide, by decide⟩
  · split
    · exact ⟨wordN_lt _ 32, by show 1 ≤ 2; omega⟩
    · split
      · exact ⟨wordN_lt _ 32, by show 0 ≤ 2; omega⟩
      · exact ⟨by decide, by decide⟩
/-- A word is there. -/
theorem OkM.at {m : Mem} (h : OkM m) {a : Int} (h0 : 0 ≤ a) (h1 : a < m.n) : a.toNat + 1 ≤ m.W.length ∧ m.W.getD a.toNat undef = .int .u64 ((wordAt m a.toNat : Nat) : Int) ∧ wordAt m a.toNat < 2 ^ 39 :=
  ⟨by have := h.len; omega, h.word _ (by omega), h.lt _ (by omega)⟩

theorem isInt_u64 (n : Int) : isInt .u64 (.int .u64 n) = true := rfl
theorem intOf_int (k : IntKind) (n : Int) : intOf (.int k n) = n := rfl
theorem okReadI : SpecOk Tryd.prog G0 44 sReadI :=
  spec2 mixed tC_ok Tryd.func44 (by kernel_rfl : Tryd.f44.body = some (codeOf Tryd.f44)) cReadI rfl rfl rfl (by kernel_rfl) (ids := []) (by kernel_rfl) trivial (by
    intro args h K hk
    unfold sReadI at hk
    split at hk
    · rename_i a
      replace hk := asMem_elim hk
      obtain ⟨m, ty, ty2, mv, mv2, rfl, ho, a0, a1, hk⟩ := hk
      show bReadI m ty ty2 mv mv2 a K
      rw [bReadI_eq]
      obtain ⟨hl, hw, hlt⟩ := ho.at a0 a1
      have hlen := ho.len
      unfold readF at hk
      rw [dT2 a0 a1, dT hl, hw, isInt_u64, cond_true, intOf_int, Int.toNat_natCast]
      generalize wordAt m a.toNat = c at *
      obtain ⟨d1, d2⟩ := decN_lt c
      refine ⟨by omega, by omega, ?_⟩
      rintro _ rfl _ rfl x3 _
      by_cases h1 : (decN c).2.1 = 1
      · rw [if_pos h1] at hk
        rw [dT (show (((decN c).2.1 : Nat) : Int) = 1 by omega), countM_W, countM_n]
        refine ⟨hlen, a0, a1, by omega, by omega, ?_⟩
        rw [Int.toNat_natCast]
        exact hk
      · rw [if_neg h1] at hk
        rw [dF (show ¬ (((decN c).2.1 : Nat) : Int) = 1 by omega)]
        exact hk
    · exact hk.elim)
theorem okWrite : SpecOk Tryd.prog G0 37 sWrite :=
  spec2 mixed tC_ok Tryd.func37 (by kernel_rfl : Tryd.f37.body = some (codeOf Tryd.f37)) cWrite rfl rfl rfl (by kernel_rfl) (ids := []) (by kernel_rfl) trivial (by
    intro args h K hk
    unfold sWrite at hk
    split at hk
    · rename_i a w
      replace hk := asMem_elim hk
      obtain ⟨m, ty, ty2, mv, mv2, rfl, ho, w0, w1, hk⟩ := hk
      show bWrite m ty ty2 mv mv2 a w K
      rw [bWrite_eq]
      refine ⟨ho.le, ?_⟩
      rintro _ rfl
      unfold writeS at hk
      by_cases h1 : 0 ≤ a ∧ a < m.n
      · rw [chkM_in h1, if_pos (inM_iff.2 h1)] at hk
        rw [chkM_in h1, dT (show ((0 : Nat) : Int) = 0 from rfl)]
        exact ⟨ho.len, h1.1, h1.2, w0, by omega, hk⟩
      · rw [chkM_out h1, if_neg (fun e => h1 (inM_iff.1 e))] at hk
        rw [chkM_out h1, dF (show ¬ ((2 : Nat) : Int) = 0 by omega)]
        exact hk
    · exact hk.elim)
theorem flip_int {c : Nat} (hc : c < 2 ^ 39) {b : Int} (b0 : 0 ≤ b) (b1 : b < 39) : iXor .u64 (c : Int) (iMul .u64 (1 : Int) ((2 : Int) ^ (if b.toNat ≤ 64 then b.toNat else 64))) = (c ^^^ 2 ^ b.toNat : Nat) := by
  have := (flip_cast hc (show b.toNat < 39 by omega)).1
  rwa [Int.toNat_natCast] at this
theorem okUps : SpecOk Tryd.prog G0 24 sUps :=
  spec2 mixed tC_ok Tryd.func24 (by kernel_rfl : Tryd.f24.body = some (codeOf Tryd.f24)) cUps rfl rfl rfl (by kernel_rfl) (ids := []) (by kernel_rfl) trivial (by
    intro args h K hk
    unfold sUps at hk
    split at hk
    · rename_i a b
      replace hk := asMem_elim hk
      obtain ⟨m, ty, ty2, mv, mv2, rfl, ho, hk⟩ := hk
      show bUps m ty ty2 mv mv2 a b K
      rw [bUps_eq]
      refine ⟨ho.le, ?_⟩
      rintro _ rfl
      unfold upsR upsS at hk
      by_cases h1 : 0 ≤ a ∧ a < m.n
      · obtain ⟨hl, hw, hlt⟩ := ho.at h1.1 h1.2
        rw [chkM_in h1, dT (show ((0 : Nat) : Int) = 0 from rfl)]
        by_cases b0 : b < 0
        · rw [if_neg (by omega), if_neg (by omega)] at hk
          rw [dT b0]; exact hk
        · rw [dF b0]
          by_cases b1 : b ≥ 39
          · rw [if_neg (by omega), if_neg (by omega)] at hk
            rw [dT b1]; exact hk
          · rw [if_pos ⟨inM_iff.2 h1, by omega, by omega⟩, if_pos ⟨inM_iff.2 h1, by omega, by omega⟩] at hk
            rw [dF b1, dT (show ((0 : Nat) : Int) = 0 from rfl), dT (show 0 ≤ b by omega)]
            rintro _ rfl
            rw [dT2 h1.1 h1.2, dT hl, hw, isInt_u64, cond_true, intOf_int]
            rintro _ rfl
            rw [dT2 h1.1 h1.2, dT hl, flip_int hlt (by omega) (by omega)]
            exact hk
      · rw [if_neg (fun e => h1 (inM_iff.1 e.1)), if_neg (fun e => h1 (inM_iff.1 e.1))] at hk
        rw [chkM_out h1, dF (show ¬ ((2 : Nat) : Int) = 0 by omega), dF (show ¬ ((2 : Nat) : Int) = 0 by omega)]
        exact hk
    · exact hk.elim)
theorem chkM0 {m : Mem} (ho : OkM m) : chkM m 0 = 0 := chkM_in ⟨by omega, by have := ho.pos; omega⟩
theorem okFuse : SpecOk Tryd.prog G0 27 sFuse :=
  spec2 mixed tC_ok Tryd.func27 (by kernel_rfl : Tryd.f27.body = some (codeOf Tryd.f27)) cFuse rfl rfl rfl (by kernel_rfl) (ids := []) (by kernel_rfl) trivial (by
    intro args h K hk
    unfold sFuse at hk
    split at hk
    · rename_i n
      replace hk := asMem_elim hk
      obtain ⟨m, ty, ty2, mv, mv2, rfl, ho, hk⟩ := hk
      show bFuse m ty ty2 mv mv2 n K
      rw [bFuse_eq]
      refine ⟨ho.le, ?_⟩
      rintro _ rfl
      unfold fuseR fuseS at hk
      rw [chkM0 ho, dT (show ((0 : Nat) : Int) = 0 from rfl)]
      by_cases h1 : n < -1
      · rw [if_pos h1, if_pos h1] at hk
        rw [dT h1]; exact hk
      · rw [if_neg h1, if_neg h1] at hk
        rw [dF h1, dT (show ((0 : Nat) : Int) = 0 from rfl)]; exact hk
    · exact hk.elim)
theorem okSize : SpecOk Tryd.prog G0 23 sSize :=
  spec2 mixed tC_ok Tryd.func23 (by kernel_rfl : Tryd.f23.body = some (codeOf Tryd.f23)) cSize rfl rfl rfl (by kernel_rfl) (ids := []) (by kernel_rfl) trivial (by
    intro args h K hk
    unfold sSize at hk
    split at hk
    · replace hk := asMem_elim hk
      obtain ⟨m, ty, ty2, mv, mv2, rfl, hk⟩ := hk
      show bSize m ty ty2 mv mv2 K
      rw [bSize_eq]
      refine ⟨⟨?_, ?_⟩, ?_⟩ <;> (rintro _ rfl; exact hk)
    · exact hk.elim)
theorem okBlown : SpecOk Tryd.prog G0 28 sBlown :=
  spec2 mixed tC_ok Tryd.func28 (by kernel_rfl : Tryd.f28.body = some (codeOf Tryd.f28)) cBlown rfl rfl rfl (by kernel_rfl) (ids := []) (by kernel_rfl) trivial (by
    intro args h K hk
    unfold sBlown at hk
    split at hk
    · replace hk := asMem_elim hk
      obtain ⟨m, ty, ty2, mv, mv2, rfl, hk⟩ := hk
      show bBlown m ty ty2 mv mv2 K
      rw [bBlown_eq]
      exact hk
    · exact hk.elim)
theorem newB_iff {n s : Int} : newB n s = true ↔ 1 ≤ n ∧ n ≤ 16384 ∧ 0 ≤ s ∧ s ≤ n := by
  unfold newB
  simp only [Bool.and_eq_true, decide_eq_true_eq]
  constructor
  · rintro ⟨⟨⟨h1, h2⟩, h3⟩, h4⟩; exact ⟨h1, h2, h3, h4⟩
  · rintro ⟨h1, h2, h3, h4⟩; exact ⟨⟨⟨h1, h2⟩, h3⟩, h4⟩
theorem newB_false {n s : Int} (h : ¬ (1 ≤ n ∧ n ≤ 16384 ∧ 0 ≤ s ∧ s ≤ n)) : newB n s = false := by rw [← Bool.not_eq_true]; exact fun e => h (newB_iff.1 e)
theorem new_room {n : Int} (h1 : 1 ≤ n) (h2 : n ≤ 16384) : (((((((decide ((0 : Int) ≤ n)) && (decide (n ≤ n))) && (decide (n ≤ (9223372036854775807 : Int)))) && (decide (((8 : Int) * n : Int) ≤ (281474976710656 : Int)))) && Bool.true) && Bool.true) && Bool.true) = true := by
  rw [decide_eq_true (show (0 : Int) ≤ n by omega), decide_eq_true (show n ≤ n by omega), decide_eq_true (show n ≤ 9223372036854775807 by omega), decide_eq_true (show 8 * n ≤ 281474976710656 by omega)]; rfl
theorem okNew : SpecOk Tryd.prog G0 10 (sNew 66) :=
  spec2 mixed tC_ok Tryd.func10 (by kernel_rfl : Tryd.f10.body = some (codeOf Tryd.f10)) cNew rfl rfl rfl (by kernel_rfl) (ids := []) (by kernel_rfl) trivial (by
    intro args h K hk
    unfold sNew at hk
    split at hk
    · rename_i n s
      show bNew n s K
      rw [bNew_eq]
      by_cases h1 : n < 1
      · rw [dT h1]; exact hk.2 (newB_false (by omega))
      · rw [dF h1]
        by_cases h2 : n > 16384
        · rw [dT h2]; exact hk.2 (newB_false (by omega))
        · rw [dF h2]
          by_cases h3 : s < 0
          · rw [dT h3]; exact hk.2 (newB_false (by omega))
          · rw [dF h3]
            by_cases h4 : s > n
            · rw [dT h4]; exact hk.2 (newB_false (by omega))
            · rw [dF h4, new_room (by omega) (by omega), cond_true]
              exact hk.1 (newB_iff.2 ⟨by omega, by omega, by omega, by omega⟩)
    · exact hk.elim)
end Go.Am.Mem

namespace Go.Am.Mem
open Go Go.Am Go.Am.Ham Go.Proofs
set_option maxRecDepth 100000

/-! ### a memory stays a memory -/
theorem enc39 (w : Nat) : encN w < 2 ^ 39 := by rw [enc_eq]; exact encR_lt w
theorem ok_same {m m' : Mem} (h : OkM m) (hW : m'.W = m.W) (hn : m'.n = m.n) (hs : m'.safe = m.safe) (hc : m'.scrub = m.scrub) : OkM m' := by
  cases m; cases m'
  dsimp only at hW hn hs hc
  subst hW hn hs hc
  exact ⟨h.len, h.word, h.lt, h.pos, h.le, h.safe0, h.safe1, h.scrub0, h.scrub1⟩
theorem getD_set (l : List Value) (i j : Nat) (v : Value) (h : j < l.length) : (l.set i v).getD j undef = if i = j then v else l.getD j undef := by
  rw [List.getD_eq_getElem?_getD, List.getD_eq_getElem?_getD, List.getElem?_set]
  by_cases e : i = j
  · subst e; rw [if_pos rfl, if_pos rfl, if_pos h]; rfl
  · rw [if_neg e, if_neg e]
theorem setW_at {m : Mem} (h : OkM m) {i j c : Nat} (hj : j < m.n) : wordAt (setW m i c) j = if i = j then c else wordAt m j := by
  show (intOf ((m.W.set i _).getD j undef)).toNat = _
  rw [getD_set _ _ _ _ (by have := h.len; omega)]
  by_cases e : i = j
  · rw [if_pos e, if_pos e]; exact Int.toNat_natCast c
  · rw [if_neg e, if_neg e]; rfl
theorem ok_setW {m : Mem} (h : OkM m) {i c : Nat} (hc : c < 2 ^ 39) : OkM (setW m i c) where
  len := by show (m.W.set i _).length = _; rw [List.length_set]; exact h.len
  word := fun j hj => by
    rw [setW_at h hj]
    show (m.W.set i _).getD j undef = _
    rw [getD_set _ _ _ _ (by have := h.len; have : j < m.n := hj; omega)]
    by_cases e : i = j
    · rw [if_pos e, if_pos e]
    · rw [if_neg e, if_neg e]; exact h.word j hj
  lt := fun j hj => by
    rw [setW_at h hj]
    by_cases e : i = j
    · rw [if_pos e]; exact hc
    · rw [if_neg e]; exact h.lt j hj
  pos := h.pos
  le := h.le
  safe0 := h.safe0
  safe1 := h.safe1
  scrub0 := h.scrub0
  scrub1 := h.scrub1
theorem ok_store {m : Mem} (h : OkM m) {i c : Nat} (hc : c < 2 ^ 39) : OkM (storeM m i c) := by
  unfold storeM
  split
  · exact ok_same h rfl rfl rfl rfl
  · exact ok_same (ok_setW h (i := i) hc) rfl rfl rfl rfl
theorem ok_count {m : Mem} (h : OkM m) (k : Int) : OkM (countM m k) := by
  unfold countM
  split
  · exact ok_same h rfl rfl rfl rfl
  · split
    · exact ok_same h rfl rfl rfl rfl
    · exact h
theorem ok_readF {m : Mem} (h : OkM m) (i : Nat) : OkM (readF m i) := by
  unfold readF
  split
  · exact ok_store (ok_count h _) (enc39 _)
  · exact ok_count h _
theorem ok_readS {m : Mem} (h : OkM m) (a : Int) : OkM (readS m a) := by
  unfold readS; split
  · exact ok_readF h _
  · exact h
theorem ok_writeS {m : Mem} (h : OkM m) (a : Int) (w : Nat) : OkM (writeS m a w) := by
  unfold writeS; split
  · exact ok_store h (enc39 _)
  · exact h
theorem ok_upsS {m : Mem} (h : OkM m) (a b : Int) : OkM (upsS m a b) := by
  unfold upsS
  split
  · rename_i hc
    have h1 := inM_iff.1 hc.1
    exact ok_setW h (Nat.xor_lt_two_pow (h.lt _ (by omega)) (Nat.pow_lt_pow_right (by omega) (by omega)))
  · exact h
theorem ok_fuseS {m : Mem} (h : OkM m) (n : Int) : OkM (fuseS m n) := by
  unfold fuseS; split
  · exact h
  · exact ok_same h rfl rfl rfl rfl
theorem ok_newM {n : Nat} {s : Int} (h1 : 1 ≤ n) (h2 : n ≤ 16384) (h3 : 0 ≤ s) (h4 : s ≤ n) : OkM (newM n s) where
  len := List.length_replicate
  word := fun i hi => by
    have hi : i < n := hi
    show (List.replicate n (Value.int .u64 0)).getD i undef = .int .u64 ((((intOf ((List.replicate n (Value.int .u64 0)).getD i undef)).toNat : Nat)) : Int)
    rw [List.getD_eq_getElem?_getD, List.getElem?_replicate, if_pos hi]; rfl
  lt := fun i hi => by
    have hi : i < n := hi
    show (intOf ((List.replicate n (Value.int .u64 0)).getD i undef)).toNat < 2 ^ 39
    rw [List.getD_eq_getElem?_getD, List.getElem?_replicate, if_pos hi]; decide
  pos := h1
  le := h2
  safe0 := h3
  safe1 := h4
  scrub0 := Int.le_refl 0
  scrub1 := by show (0 : Int) < n; omega

/-! ### the equations -/
def tF : List (Nat × Spec) := [(40, sChk), (44, sReadI)]
theorem tF_ok : AllOk Tryd.prog G0 tF := ⟨okChk, okReadI, trivial⟩
noncomputable def cRead : FCfg := mkG Tryd.prog G0 tF 29 [(0, [0, 1]), (1, [0, 1, 7]), (2, [0, 1, 7, 14]), (3, [4, 5, 6]), (4, [8, 9]), (5, [8, 9, 25]), (6, [4, 5, 6]), (7, [4, 5, 6])] [] [] [] [] [] 40 2
noncomputable def bRead (m : Mem) (ty ty2 : TypeId) (mv mv2 : Bool) (a : Int) (K : Value → AHeap → Prop) : Prop := bodyK cRead (codeOf Tryd.f58) Tryd.f58.results.toList [.pointer (some ⟨0, 0, some 0⟩), .int .i64 a] (memH m ty ty2 mv mv2) K
theorem bRead_eq (m : Mem) (ty ty2 : TypeId) (mv mv2 : Bool) (a : Int) (K : Value → AHeap → Prop) : bRead m ty ty2 mv mv2 a K = (((Mem.n m) ≤ (16384 : Nat)) ∧ (∀ x1 : Int, ((x1 = (((chkM m a) : Nat) : Int)) → (cond (!(decide ((x1 = (0 : Int))))) (K (Value.tuple (Array.mk [(Value.int IntKind.u32 (0 : Int)), (Value.int IntKind.i64 (0 : Int)), (Value.int IntKind.i64 x1)])) (memH m ty ty2 mv mv2)) ((OkM m) ∧ (((0 : Int) ≤ a) ∧ ((a < (((Mem.n m) : Nat) : Int)) ∧ (∀ x2 : Int, ((x2 = ((((Ham.decN (wordAt m (Int.toNat a)))).fst : Nat) : Int)) → (∀ x3 : Int, ((x3 = (((((Ham.decN (wordAt m (Int.toNat a)))).snd).fst : Nat) : Int)) → (cond (decide ((x3 = (2 : Int)))) (K (Value.tuple (Array.mk [(Value.int IntKind.u32 (0 : Int)), (Value.int IntKind.i64 x3), (Value.int IntKind.i64 (300 : Int))])) (memH (readF m (Int.toNat a)) ty ty2 mv mv2)) (K (Value.tuple (Array.mk [(Value.int IntKind.u32 x2), (Value.int IntKind.i64 x3), (Value.int IntKind.i64 (0 : Int))])) (memH (readF m (Int.toNat a)) ty ty2 mv mv2)))))))))))))) := by
  kernel_rfl
theorem okRead : SpecOk Tryd.prog G0 58 sRead :=
  spec2 mixed tF_ok Tryd.func58 (by kernel_rfl : Tryd.f58.body = some (codeOf Tryd.f58)) cRead rfl rfl rfl (by kernel_rfl) (ids := []) (by kernel_rfl) trivial (by
    intro args h K hk
    unfold sRead at hk
    split at hk
    · rename_i a
      replace hk := asMem_elim hk
      obtain ⟨m, ty, ty2, mv, mv2, rfl, ho, hk⟩ := hk
      show bRead m ty ty2 mv mv2 a K
      rw [bRead_eq]
      refine ⟨ho.le, ?_⟩
      unfold readR readS at hk
      by_cases h1 : 0 ≤ a ∧ a < m.n
      · rw [if_pos (inM_iff.2 h1), if_pos (inM_iff.2 h1)] at hk
        rintro _ rfl
        rw [chkM_in h1, dnT (show ((0 : Nat) : Int) = 0 from rfl)]
        refine ⟨ho, h1.1, h1.2, ?_⟩
        rintro _ rfl x3 hx3
        by_cases h2 : (decN (wordAt m a.toNat)).2.1 = 2
        · rw [if_pos h2] at hk
          rw [hx3, h2, dT (show ((2 : Nat) : Int) = 2 from rfl)]; exact hk
        · rw [if_neg h2] at hk
          rw [hx3, dF (show ¬ (((decN (wordAt m a.toNat)).2.1 : Nat) : Int) = 2 by omega)]; exact hk
      · rw [inM_false h1] at hk
        rintro _ rfl
        rw [chkM_out h1, dnF (show ¬ ((2 : Nat) : Int) = 0 by omega)]; exact hk
    · exact hk.elim)
/-! ### the same summaries, each new memory under a name -/
def sWriteX : Spec := fun args h K => match args with
  | [.pointer (some ⟨0, 0, some 0⟩), .int .i64 a, .int .u32 w] => asMem h fun m ty ty2 mv mv2 => OkM m ∧ 0 ≤ w ∧ w < 2 ^ 32 ∧ ∀ m', m' = writeS m a w.toNat → K (.int .i64 ((chkM m a : Nat) : Int)) (memH m' ty ty2 mv mv2)
  | _ => False
def sReadX : Spec := fun args h K => match args with
  | [.pointer (some ⟨0, 0, some 0⟩), .int .i64 a] => asMem h fun m ty ty2 mv mv2 => OkM m ∧ ∀ m', m' = readS m a → K (.tuple #[.int .u32 (((readR m a).1 : Nat) : Int), .int .i64 (((readR m a).2.1 : Nat) : Int), .int .i64 (((readR m a).2.2 : Nat) : Int)]) (memH m' ty ty2 mv mv2)
  | _ => False
def sUpsX : Spec := fun args h K => match args with
  | [.pointer (some ⟨0, 0, some 0⟩), .int .i64 a, .int .i64 b] => asMem h fun m ty ty2 mv mv2 => OkM m ∧ ∀ m', m' = upsS m a b → K (.int .i64 ((upsR m a b : Nat) : Int)) (memH m' ty ty2 mv mv2)
  | _ => False
def sFuseX : Spec := fun args h K => match args with
  | [.pointer (some ⟨0, 0, some 0⟩), .int .i64 n] => asMem h fun m ty ty2 mv mv2 => OkM m ∧ ∀ m', m' = fuseS m n → K (.int .i64 ((fuseR n : Nat) : Int)) (memH m' ty ty2 mv mv2)
  | _ => False
def sNewX (ty : TypeId) : Spec := fun args h K => match args, h with
  | [.int .i64 n, .int .i64 s], [] => (newB n s = true → ∀ m', m' = newM n.toNat s → K (.tuple #[.pointer (some ⟨0, 0, some 0⟩), .int .i64 0]) (memH m' ty 83 false false)) ∧ (newB n s = false → K (.tuple #[.pointer none, .int .i64 2]) [])
  | _, _ => False
theorem weaken {fid : Nat} {s s' : Spec} (h : SpecOk Tryd.prog G0 fid s) (hi : ∀ args h K, s' args h K → s args h K) : SpecOk Tryd.prog G0 fid s' :=
  fun W hG args hp K hk => h W hG args hp K (hi args hp K hk)
theorem iWrite (args h K) (hk : sWriteX args h K) : sWrite args h K := by
  unfold sWriteX at hk
  split at hk
  · replace hk := asMem_elim hk
    obtain ⟨m, ty, ty2, mv, mv2, rfl, ho, h1, h2, hk⟩ := hk
    exact ⟨ho, h1, h2, hk _ rfl⟩
  · exact hk.elim
theorem iRead (args h K) (hk : sReadX args h K) : sRead args h K := by
  unfold sReadX at hk
  split at hk
  · replace hk := asMem_elim hk
    obtain ⟨m, ty, ty2, mv, mv2, rfl, ho, hk⟩ := hk
    exact ⟨ho, hk _ rfl⟩
  · exact hk.elim
theorem iUps (args h K) (hk : sUpsX args h K) : sUps args h K := by
  unfold sUpsX at hk
  split at hk
  · replace hk := asMem_elim hk
    obtain ⟨m, ty, ty2, mv, mv2, rfl, ho, hk⟩ := hk
    exact ⟨ho, hk _ rfl⟩
  · exact hk.elim
theorem iFuse (args h K) (hk : sFuseX args h K) : sFuse args h K := by
  unfold sFuseX at hk
  split at hk
  · replace hk := asMem_elim hk
    obtain ⟨m, ty, ty2, mv, mv2, rfl, ho, hk⟩ := hk
    exact ⟨ho, hk _ rfl⟩
  · exact hk.elim
theorem iNew (ty : TypeId) (args h K) (hk : sNewX ty args h K) : sNew ty args h K := by
  unfold sNewX at hk
  split at hk
  · exact ⟨fun hb => hk.1 hb _ rfl, hk.2⟩
  · exact hk.elim
end Go.Am.Mem

namespace Go.Am.Mem
open Go Go.Am Go.Am.Ham Go.Proofs
set_option maxRecDepth 100000

def tG : List (Nat × Spec) := [(10, sNewX 66), (37, sWriteX), (58, sReadX), (24, sUpsX), (23, sSize)]
theorem tG_ok : AllOk Tryd.prog G0 tG := ⟨weaken okNew (iNew _), weaken okWrite iWrite, weaken okRead iRead, weaken okUps iUps, okSize, trivial⟩
def sAwake : Spec := fun args h K => match args, h with
  | [], [] => K (.bool true) []
  | _, _ => False
def tH : List (Nat × Spec) := tG
/-! ### what a memory answers -/
theorem store_n (m : Mem) (i c : Nat) : (storeM m i c).n = m.n := by unfold storeM; split <;> rfl
theorem store_fuse {m : Mem} (h : m.fuse < 0) (i c : Nat) : (storeM m i c).fuse = m.fuse := by
  unfold storeM
  rw [if_neg (by omega)]
  show (if m.fuse > 0 then _ else _) = _
  rw [if_neg (by omega)]
theorem store_at {m : Mem} (h : OkM m) {i c j : Nat} (hj : j < m.n) (hf : m.fuse ≠ 0) : wordAt (storeM m i c) j = if i = j then c else wordAt m j := by
  unfold storeM
  rw [if_neg hf]
  exact setW_at h hj
theorem count_at (m : Mem) (k : Int) (j : Nat) : wordAt (countM m k) j = wordAt m j := by unfold wordAt; rw [countM_W]
theorem count_fuse (m : Mem) (k : Int) : (countM m k).fuse = m.fuse := by unfold countM; split <;> (try split) <;> rfl
theorem dec_enc {w : Nat} (h : w < 2 ^ 32) : decN (encN w) = (w, 0, 0) := by
  rw [dec_eq, enc_eq, decR_clean (encR_valid w), word_enc h]
theorem dec_flip {w i : Nat} (h : w < 2 ^ 32) (hi : i < 39) : decN (encN w ^^^ 2 ^ i) = (w, 1, 0) := by
  rw [dec_eq, enc_eq, decR_one (encR_valid w) hi, word_enc h]
theorem dec_two {w i j : Nat} (hi : i < 39) (hj : j < 39) (hne : i ≠ j) : decN (encN w ^^^ 2 ^ i ^^^ 2 ^ j) = (0, 2, 0) := by
  rw [dec_eq, enc_eq, decR_two (encR_valid w) hi hj hne]

/-- A memory of n words whose fuse is out. -/
structure Good (m : Mem) (n : Nat) : Prop where
  ok : OkM m
  n : m.n = n
  fuse : m.fuse < 0
theorem good_new {n : Nat} {s : Int} (h1 : 1 ≤ n) (h2 : n ≤ 16384) (h3 : 0 ≤ s) (h4 : s ≤ n) : Good (newM n s) n := ⟨ok_newM h1 h2 h3 h4, rfl, by show (-1 : Int) < 0; omega⟩
theorem new_at {n j : Nat} {s : Int} (hj : j < n) : wordAt (newM n s) j = 0 := by
  show (intOf ((List.replicate n (Value.int .u64 0)).getD j undef)).toNat = 0
  rw [List.getD_eq_getElem?_getD, List.getElem?_replicate, if_pos hj]; rfl
section
variable {m : Mem} {n : Nat} (g : Good m n)
include g
theorem Good.inM {a : Int} (ha : 0 ≤ a ∧ a < n) : inM m a = true := by rw [inM_iff, g.n]; exact ha
theorem Good.chk {a : Int} (ha : 0 ≤ a ∧ a < n) : chkM m a = 0 := chkM_in (by rw [g.n]; exact ha)
theorem Good.write {a : Int} (ha : 0 ≤ a ∧ a < n) (w : Nat) : Good (writeS m a w) n := ⟨ok_writeS g.ok a w, by unfold writeS; rw [g.inM ha]; exact (store_n _ _ _).trans g.n, by unfold writeS; rw [g.inM ha]; show (storeM m _ _).fuse < 0; rw [store_fuse g.fuse]; exact g.fuse⟩
theorem Good.write_at {a : Int} (ha : 0 ≤ a ∧ a < n) (w : Nat) {j : Nat} (hj : j < n) : wordAt (writeS m a w) j = if a.toNat = j then encN w else wordAt m j := by
  unfold writeS; rw [g.inM ha]; exact store_at g.ok (by rw [g.n]; exact hj) (by have := g.fuse; omega)
theorem Good.ups {a b : Int} : Good (upsS m a b) n := ⟨ok_upsS g.ok a b, by unfold upsS; split <;> exact g.n, by unfold upsS; split <;> exact g.fuse⟩
theorem Good.ups_ok {a b : Int} (ha : 0 ≤ a ∧ a < n) (hb : 0 ≤ b ∧ b < 39) : upsR m a b = 0 := by unfold upsR; rw [if_pos ⟨g.inM ha, hb⟩]
theorem Good.ups_at {a b : Int} (ha : 0 ≤ a ∧ a < n) (hb : 0 ≤ b ∧ b < 39) {j : Nat} (hj : j < n) : wordAt (upsS m a b) j = if a.toNat = j then wordAt m a.toNat ^^^ 2 ^ b.toNat else wordAt m j := by
  unfold upsS; rw [if_pos ⟨g.inM ha, hb⟩]; exact setW_at g.ok (by rw [g.n]; exact hj)
theorem Good.raw {a : Int} (ha : 0 ≤ a ∧ a < n) : rawR m a = (wordAt m a.toNat, 0) := by unfold rawR; rw [g.inM ha]; rfl
theorem Good.readF (i : Nat) : Good (readF m i) n := ⟨ok_readF g.ok i, by unfold Mem.readF; split <;> (try rw [store_n]) <;> rw [countM_n] <;> exact g.n, by
  unfold Mem.readF
  split
  · rw [store_fuse (by rw [count_fuse]; exact g.fuse), count_fuse]; exact g.fuse
  · rw [count_fuse]; exact g.fuse⟩
theorem Good.readF_at (i : Nat) {j : Nat} (hj : j < n) : wordAt (Mem.readF m i) j = if (decN (wordAt m i)).2.1 = 1 ∧ i = j then encN (decN (wordAt m i)).1 else wordAt m j := by
  unfold Mem.readF
  by_cases h : (decN (wordAt m i)).2.1 = 1
  · rw [if_pos h, store_at (ok_count g.ok _) (by rw [countM_n, g.n]; exact hj) (by rw [count_fuse]; have := g.fuse; omega), count_at]
    by_cases e : i = j
    · rw [if_pos e, if_pos ⟨h, e⟩]
    · rw [if_neg e, if_neg (fun x => e x.2)]
  · rw [if_neg h, count_at, if_neg (fun x => h x.1)]
theorem Good.read (a : Int) : Good (readS m a) n := by
  unfold readS; split
  · exact g.readF _
  · exact g
theorem Good.read_at {a : Int} (ha : 0 ≤ a ∧ a < n) {j : Nat} (hj : j < n) : wordAt (readS m a) j = if (decN (wordAt m a.toNat)).2.1 = 1 ∧ a.toNat = j then encN (decN (wordAt m a.toNat)).1 else wordAt m j := by
  unfold readS; rw [g.inM ha]; exact g.readF_at _ hj
theorem Good.readR {a : Int} (ha : 0 ≤ a ∧ a < n) : readR m a = if (decN (wordAt m a.toNat)).2.1 = 2 then (0, 2, 300) else ((decN (wordAt m a.toNat)).1, (decN (wordAt m a.toNat)).2.1, 0) := by
  unfold Mem.readR; rw [g.inM ha]; rfl
end

/-! ### the example -/
end Go.Am.Mem

namespace Go.Am.Mem
open Go Go.Am Go.Am.Ham Go.Proofs
set_option maxRecDepth 100000

theorem tH_ok : AllOk Tryd.prog G0 tH := tG_ok
def sCodes : Spec := fun args h K => match args, h with
  | [.int .u32 w, .int .u8 b], [] => 0 ≤ w ∧ w < 2 ^ 32 ∧ 0 ≤ b ∧ b < 2 ^ 8 ∧ K (.bool true) []
  | _, _ => False
/-- a shift of 1, as the machine does it -/
theorem bit_shift {x22 x21 : Int} {i : Nat} (hi : i < 39) (h21 : x21 = (i : Int)) (h22 : x22 = iMul .u64 1 ((2 : Int) ^ (if x21.toNat ≤ 64 then x21.toNat else 64))) : x22 = ((2 ^ i : Nat) : Int) := by
  subst h21
  rw [h22, Int.toNat_natCast, if_pos (by omega)]
  have : ((2 : Int) ^ i) = ((2 ^ i : Nat) : Int) := by simp
  rw [this, show (1 : Int) = ((1 : Nat) : Int) from rfl, iMul_cast .u64 (by
    have := Nat.pow_lt_pow_right (a := 2) (by omega) (show i < 64 by omega)
    show 1 * 2 ^ i < 2 ^ 64
    omega), Nat.one_mul]
end Go.Am.Mem

namespace Go.Am.Mem
open Go Go.Am Go.Am.Ham Go.Proofs
set_option maxRecDepth 100000

/-! ### Reset -/
def zeroFrom (m : Mem) (i : Nat) : Mem := { m with W := m.W.take i ++ List.replicate (m.n - i) (.int .u64 0) }
def resetM (m : Mem) : Mem := { zeroFrom m m.safe.toNat with scrub := 0, fuse := -1, bl := false, fx := 0, lo := 0, st := 0 }
def sReset : Spec := fun args h K => match args with
  | [.pointer (some ⟨0, 0, some 0⟩)] => asMem h fun m ty ty2 mv mv2 => OkM m ∧ ∀ m', m' = resetM m → K (.tuple #[]) (memH m' ty ty2 mv mv2)
  | _ => False
def ptr0 : Value := .pointer (some ⟨0, 0, some 0⟩)
def TRReset : LSpec := fun e h k => match e with
  | [(0, .pointer (some ⟨0, 0, some 0⟩)), (2, .int .i64 i)] => asMem h fun m ty ty2 mv mv2 => OkM m ∧ 0 ≤ i ∧ i ≤ m.n ∧ ∀ m', m' = zeroFrom m i.toNat → k (.exit 0) [(0, ptr0)] (memH m' ty ty2 mv mv2)
  | _ => False
/-! ### Scrub -/
def stepM (m : Mem) : Mem := { readF m m.scrub.toNat with scrub := (m.scrub + 1) % m.n }
def scrubM : Nat → Mem → Mem
  | 0, m => m
  | k + 1, m => scrubM k (stepM m)
def kindAt (m : Mem) (i : Nat) : Nat := (decN (wordAt m i)).2.1
/-- how many of the next words are of a kind -/
def scrubN (c : Nat) : Nat → Mem → Nat
  | 0, _ => 0
  | k + 1, m => (if kindAt m m.scrub.toNat = c then 1 else 0) + scrubN c k (stepM m)
def asMem3 (h : AHeap) (k : Mem → TypeId → TypeId → Bool → Bool → List Value → TypeId → Bool → Prop) : Prop := match h with
  | [x, y, .cells true vs ty3 mv3] => asMem [x, y] fun m ty ty2 mv mv2 => k m ty ty2 mv mv2 vs ty3 mv3
  | _ => False
def cntH (m : Mem) (ty ty2 : TypeId) (mv mv2 : Bool) (vs : List Value) (ty3 : TypeId) (mv3 : Bool) : AHeap := [.cells false (memC m) ty mv, .cells true m.W ty2 mv2, .cells true vs ty3 mv3]
def TScrub : LSpec := fun e h k => match e with
  | [(0, .pointer (some ⟨0, 0, some 0⟩)), (8, .pointer (some ⟨2, 0, some 0⟩)), (24, .int .i64 n), (25, .int .i64 i)] => asMem3 h fun m ty ty2 mv mv2 vs ty3 mv3 => OkM m ∧ 0 ≤ n ∧ n ≤ 16384 ∧ i = 0 ∧
      ∀ m', m' = scrubM n.toNat m → k (.exit 0) [(0, ptr0), (8, .pointer (some ⟨2, 0, some 0⟩))] (cntH m' ty ty2 mv mv2 vs ty3 mv3)
  | _ => False
def TRScrub : LSpec := fun e h k => match e with
  | [(0, .pointer (some ⟨0, 0, some 0⟩)), (1, .int .i64 n), (7, .int .i64 f), (8, .int .i64 l), (9, .int .i64 i)] => asMem h fun m ty ty2 mv mv2 => OkM m ∧ 0 ≤ n ∧ n ≤ 16384 ∧ f = 0 ∧ l = 0 ∧ i = 0 ∧
      ∀ m', m' = scrubM n.toNat m → k (.exit 0) [(7, .int .i64 ((scrubN 1 n.toNat m : Nat) : Int)), (8, .int .i64 ((scrubN 2 n.toNat m : Nat) : Int))] (memH m' ty ty2 mv mv2)
  | _ => False
/-! ### bytes -/
def byteAt (s : ByteArray) (i : Nat) : Nat := (s.data.toList.getD i 0).toNat
/-- The first j bytes from i on as a number. -/
def wordJ (s : ByteArray) (i : Nat) : Nat → Nat
  | 0 => 0
  | j + 1 => wordJ s i j * 256 + byteAt s (i + j)
def wordB (s : ByteArray) (i : Nat) : Nat := wordJ s i 4
def pk (a b c d : Int) : Nat := ((a.toNat * 256 + b.toNat) * 256 + c.toNat) * 256 + d.toNat
def sPacked : Spec := fun args h K => match args, h with
  | [.agg ⟨[.int .u8 a, .int .u8 b, .int .u8 c, .int .u8 d]⟩], [] => 0 ≤ a ∧ a < 256 ∧ 0 ≤ b ∧ b < 256 ∧ 0 ≤ c ∧ c < 256 ∧ 0 ≤ d ∧ d < 256 ∧ K (.int .u32 ((pk a b c d : Nat) : Int)) []
  | _, _ => False
/-- k words of bytes from i on are written. -/
def wbM : Nat → Mem → Nat → ByteArray → Nat → Mem
  | 0, m, _, _, _ => m
  | k + 1, m, a, s, i => wbM k (storeM m a (encN (wordB s i))) (a + 1) s (i + 4)
def lenW (n : Nat) : Nat := (n + 3) / 4
def TWB : LSpec := fun e h k => match e with
  | [(0, .pointer (some ⟨0, 0, some 0⟩)), (1, .int .i64 a), (2, .string s)] => asMem h fun m ty ty2 mv mv2 => OkM m ∧ 0 ≤ a ∧ a + lenW s.size ≤ m.n ∧
      ∀ m', m' = wbM (lenW s.size) m a.toNat s 0 → k (.exit 0) [] (memH m' ty ty2 mv mv2)
  | _ => False
def TRWBi : LSpec := fun e h k => match e with
  | [(0, .pointer (some ⟨0, 0, some 0⟩)), (1, .int .i64 a), (2, .string s), (7, .int .i64 i), (8, .int .u32 w), (9, .int .i64 j)] => asMem h fun m ty ty2 mv mv2 => 0 ≤ i ∧ i < s.size ∧ s.size ≤ 65536 ∧ w = 0 ∧ j = i ∧
      k (.exit 2) [(0, ptr0), (1, .int .i64 a), (2, .string s), (7, .int .i64 i), (8, .int .u32 ((wordB s i.toNat : Nat) : Int))] (memH m ty ty2 mv mv2)
  | _ => False
def TRWB : LSpec := fun e h k => match e with
  | [(0, .pointer (some ⟨0, 0, some 0⟩)), (1, .int .i64 a), (2, .string s), (7, .int .i64 i)] => asMem h fun m ty ty2 mv mv2 => OkM m ∧ 0 ≤ a ∧ a + lenW s.size ≤ m.n ∧ i = 0 ∧
      ∀ m', m' = wbM (lenW s.size) m a.toNat s 0 → k (.exit 0) [] (memH m' ty ty2 mv mv2)
  | _ => False
def sWB : Spec := fun args h K => match args with
  | [.pointer (some ⟨0, 0, some 0⟩), .int .i64 a, .string s] => asMem h fun m ty ty2 mv mv2 => OkM m ∧ ∀ m', m' = (if roomM m a s.size = 0 then wbM (lenW s.size) m a.toNat s 0 else m) → K (.int .i64 ((roomM m a s.size : Nat) : Int)) (memH m' ty ty2 mv mv2)
  | _ => False
/-- Words are read, up to one that is lost. -/
def rbM : Nat → Mem → Nat → Mem
  | 0, m, _ => m
  | k + 1, m, a => if kindAt m a = 2 then readF m a else rbM k (readF m a) (a + 1)
def rbLost : Nat → Mem → Nat → Bool
  | 0, _, _ => false
  | k + 1, m, a => if kindAt m a = 2 then true else rbLost k (readF m a) (a + 1)
def bytes4 (w : Nat) : List Value := [.int .u8 ((w / 2 ^ 24 : Nat) : Int), .int .u8 ((w / 2 ^ 16 % 256 : Nat) : Int), .int .u8 ((w / 2 ^ 8 % 256 : Nat) : Int), .int .u8 ((w % 256 : Nat) : Int)]
def rbBytes : Nat → Mem → Nat → List Value
  | 0, _, _ => []
  | k + 1, m, a => bytes4 (decN (wordAt m a)).1 ++ rbBytes k (readF m a) (a + 1)
def bufH (m : Mem) (ty ty2 : TypeId) (mv mv2 : Bool) (vs : List Value) (mv3 : Bool) : AHeap := [.cells false (memC m) ty mv, .cells true m.W ty2 mv2, .cells true vs 5 mv3]
noncomputable def cReset : FCfg := mkG Tryd.prog G0 tC 27 [(0, [0, 4]), (1, [0]), (2, [])] [] [] [] [] [] 40 2
noncomputable def bReset (m : Mem) (ty ty2 : TypeId) (mv mv2 : Bool) (K : Value → AHeap → Prop) : Prop := bodyK cReset (codeOf Tryd.f29) Tryd.f29.results.toList [.pointer (some ⟨0, 0, some 0⟩)] (memH m ty ty2 mv mv2) K
def tI : List (Nat × Spec) := (44, sReadI) :: (49, sPacked) :: tC
noncomputable def cPacked : FCfg := mkG Tryd.prog G0 tE 17 [(0, [1]), (1, [1, 3]), (2, [3, 6, 7]), (3, [3, 6, 7, 8]), (4, [3, 5, 6, 7]), (5, [3, 6, 7]), (6, [3, 6, 7]), (7, [2])] [(3, [3, 6, 7])] [(3, [3])] [] [] [7, 15] 40 0
noncomputable def bPacked (a b c d : Int) (K : Value → AHeap → Prop) : Prop := bodyK cPacked (codeOf Tryd.f49) Tryd.f49.results.toList [.agg ⟨[.int .u8 a, .int .u8 b, .int .u8 c, .int .u8 d]⟩] [] K
noncomputable def cWB : FCfg := mkG Tryd.prog G0 tI 33 [(0, [0, 1, 2]), (1, [0, 1, 2, 7]), (2, [0, 1, 2, 7, 16]), (3, [6]), (4, [0, 1, 2, 19]), (5, [0, 1, 2]), (6, [0, 1, 2, 8]), (7, [0, 1, 2, 8, 9]), (8, [0, 1, 2, 9]), (9, [0, 1, 2]), (10, [6])] [(4, [0, 1, 2])] [(4, [])] [(4, TWB)] [] [] 40 2
noncomputable def tWB (m : Mem) (ty ty2 : TypeId) (mv mv2 : Bool) (a : Int) (s : ByteArray) (k : AExit → Env → AHeap → Prop) : Prop := codeK cWB (nthLoop 0 (codeOf Tryd.f39)) [(0, .pointer (some ⟨0, 0, some 0⟩)), (1, .int .i64 a), (2, .string s)] (memH m ty ty2 mv mv2) k
noncomputable def bWB (m : Mem) (ty ty2 : TypeId) (mv mv2 : Bool) (a : Int) (s : ByteArray) (K : Value → AHeap → Prop) : Prop := bodyK cWB (codeOf Tryd.f39) Tryd.f39.results.toList [.pointer (some ⟨0, 0, some 0⟩), .int .i64 a, .string s] (memH m ty ty2 mv mv2) K
theorem bReset_eq (m : Mem) (ty ty2 : TypeId) (mv mv2 : Bool) (K : Value → AHeap → Prop) : bReset m ty ty2 mv mv2 K = (((Mem.n m) ≤ (16384 : Nat)) ∧ (∀ x1 : Int, ((x1 = (((chkM m (0 : Int)) : Nat) : Int)) → (cond (!(decide ((x1 = (0 : Int))))) (K Go.undef (memH m ty ty2 mv mv2)) ((cond ((decide (((0 : Int) ≤ (Mem.safe m)))) && (decide (((Mem.safe m) ≤ (((Mem.n m) : Nat) : Int))))) (cond ((((decide ((((Int.toNat (Mem.safe m)) + ((Mem.n m) - (Int.toNat (Mem.safe m)) : Nat) : Nat) ≤ (List.length (Mem.W m))))) && Bool.true) && Bool.true) && Bool.true) (K Go.undef [(AObj.cells Bool.false [(Value.slice (Option.some (Addr.mk (1 : Nat) 0 (Option.some 0))) (Mem.n m) (2 : Nat)), (Value.int IntKind.i64 (Mem.safe m)), (Value.int IntKind.i64 (0 : Int)), (Value.int IntKind.i64 (-1 : Int)), (Value.bool Bool.false), (Value.int IntKind.i64 (0 : Int)), (Value.int IntKind.i64 (0 : Int)), (Value.int IntKind.i64 (0 : Int))] ty mv), (AObj.cells Bool.true (setCells (Mem.W m) (Int.toNat (Mem.safe m)) (List.replicate ((Mem.n m) - (Int.toNat (Mem.safe m)) : Nat) (Value.int IntKind.u64 (0 : Int)))) ty2 mv2)]) False) False) ∧ (cond ((decide (((0 : Int) ≤ (Mem.safe m)))) && (decide (((Mem.safe m) ≤ (((Mem.n m) : Nat) : Int))))) (cond ((((decide ((((Int.toNat (Mem.safe m)) + ((Mem.n m) - (Int.toNat (Mem.safe m)) : Nat) : Nat) ≤ (List.length (Mem.W m))))) && Bool.true) && Bool.true) && Bool.true) (K Go.undef [(AObj.cells Bool.false [(Value.slice (Option.some (Addr.mk (1 : Nat) 0 (Option.some 0))) (Mem.n m) (2 : Nat)), (Value.int IntKind.i64 (Mem.safe m)), (Value.int IntKind.i64 (0 : Int)), (Value.int IntKind.i64 (-1 : Int)), (Value.bool Bool.false), (Value.int IntKind.i64 (0 : Int)), (Value.int IntKind.i64 (0 : Int)), (Value.int IntKind.i64 (0 : Int))] ty mv), (AObj.cells Bool.true (setCells (Mem.W m) (Int.toNat (Mem.safe m)) (List.replicate ((Mem.n m) - (Int.toNat (Mem.safe m)) : Nat) (Value.int IntKind.u64 (0 : Int)))) ty2 mv2)]) False) False)))))) := by
  kernel_rfl
theorem bPacked_eq (a b c d : Int) (K : Value → AHeap → Prop) : bPacked a b c d K = (∀ x1 : Int, ((x1 = a) → (∀ x2 : Int, ((x2 = (0 : Int)) → (∀ x3 : Int, ((x3 = (IntKind.wrap IntKind.u32 x1)) → (∀ x4 : Int, ((x4 = (iOr IntKind.u32 x2 x3)) → (∀ x5 : Int, ((x5 = b) → (∀ x6 : Int, ((x6 = (iMul IntKind.u32 x4 (256 : Int))) → (∀ x7 : Int, ((x7 = (IntKind.wrap IntKind.u32 x5)) → (∀ x8 : Int, ((x8 = (iOr IntKind.u32 x6 x7)) → (∀ x9 : Int, ((x9 = c) → (∀ x10 : Int, ((x10 = (iMul IntKind.u32 x8 (256 : Int))) → (∀ x11 : Int, ((x11 = (IntKind.wrap IntKind.u32 x9)) → (∀ x12 : Int, ((x12 = (iOr IntKind.u32 x10 x11)) → (∀ x13 : Int, ((x13 = d) → (∀ x14 : Int, ((x14 = (iMul IntKind.u32 x12 (256 : Int))) → (∀ x15 : Int, ((x15 = (IntKind.wrap IntKind.u32 x13)) → (∀ x16 : Int, ((x16 = (iOr IntKind.u32 x14 x15)) → (K (Value.int IntKind.u32 x16) []))))))))))))))))))))))))))))))))) := by
  kernel_rfl
theorem tWB_eq (m : Mem) (ty ty2 : TypeId) (mv mv2 : Bool) (a : Int) (s : ByteArray) (k : AExit → Env → AHeap → Prop) : tWB m ty ty2 mv mv2 a s k = (cond (!(strEq s (ByteArray.mk (Array.mk [])))) (∀ x1 : Int, ((x1 = (((ite ((ByteArray.size s) ≤ (4 : Nat)) (ByteArray.size s) (4 : Nat)) : Nat) : Int)) → (cond (decide (((4 : Nat) ≤ (List.length (setCells [(Value.int IntKind.u8 (0 : Int)), (Value.int IntKind.u8 (0 : Int)), (Value.int IntKind.u8 (0 : Int)), (Value.int IntKind.u8 (0 : Int))] 0 (List.take ((ite ((ByteArray.size s) ≤ (4 : Nat)) (ByteArray.size s) (4 : Nat)) * (1 : Nat) : Nat) (bytesV s))))))) (cond (isInt IntKind.u8 (List.getD (setCells [(Value.int IntKind.u8 (0 : Int)), (Value.int IntKind.u8 (0 : Int)), (Value.int IntKind.u8 (0 : Int)), (Value.int IntKind.u8 (0 : Int))] 0 (List.take ((ite ((ByteArray.size s) ≤ (4 : Nat)) (ByteArray.size s) (4 : Nat)) * (1 : Nat) : Nat) (bytesV s))) 0 Go.undef)) (cond (isInt IntKind.u8 (List.getD (setCells [(Value.int IntKind.u8 (0 : Int)), (Value.int IntKind.u8 (0 : Int)), (Value.int IntKind.u8 (0 : Int)), (Value.int IntKind.u8 (0 : Int))] 0 (List.take ((ite ((ByteArray.size s) ≤ (4 : Nat)) (ByteArray.size s) (4 : Nat)) * (1 : Nat) : Nat) (bytesV s))) (1 : Nat) Go.undef)) (cond (isInt IntKind.u8 (List.getD (setCells [(Value.int IntKind.u8 (0 : Int)), (Value.int IntKind.u8 (0 : Int)), (Value.int IntKind.u8 (0 : Int)), (Value.int IntKind.u8 (0 : Int))] 0 (List.take ((ite ((ByteArray.size s) ≤ (4 : Nat)) (ByteArray.size s) (4 : Nat)) * (1 : Nat) : Nat) (bytesV s))) (2 : Nat) Go.undef)) (cond (isInt IntKind.u8 (List.getD (setCells [(Value.int IntKind.u8 (0 : Int)), (Value.int IntKind.u8 (0 : Int)), (Value.int IntKind.u8 (0 : Int)), (Value.int IntKind.u8 (0 : Int))] 0 (List.take ((ite ((ByteArray.size s) ≤ (4 : Nat)) (ByteArray.size s) (4 : Nat)) * (1 : Nat) : Nat) (bytesV s))) (3 : Nat) Go.undef)) (((0 : Int) ≤ (intOf (List.getD (setCells [(Value.int IntKind.u8 (0 : Int)), (Value.int IntKind.u8 (0 : Int)), (Value.int IntKind.u8 (0 : Int)), (Value.int IntKind.u8 (0 : Int))] 0 (List.take ((ite ((ByteArray.size s) ≤ (4 : Nat)) (ByteArray.size s) (4 : Nat)) * (1 : Nat) : Nat) (bytesV s))) 0 Go.undef))) ∧ (((intOf (List.getD (setCells [(Value.int IntKind.u8 (0 : Int)), (Value.int IntKind.u8 (0 : Int)), (Value.int IntKind.u8 (0 : Int)), (Value.int IntKind.u8 (0 : Int))] 0 (List.take ((ite ((ByteArray.size s) ≤ (4 : Nat)) (ByteArray.size s) (4 : Nat)) * (1 : Nat) : Nat) (bytesV s))) 0 Go.undef)) < (256 : Int)) ∧ (((0 : Int) ≤ (intOf (List.getD (setCells [(Value.int IntKind.u8 (0 : Int)), (Value.int IntKind.u8 (0 : Int)), (Value.int IntKind.u8 (0 : Int)), (Value.int IntKind.u8 (0 : Int))] 0 (List.take ((ite ((ByteArray.size s) ≤ (4 : Nat)) (ByteArray.size s) (4 : Nat)) * (1 : Nat) : Nat) (bytesV s))) (1 : Nat) Go.undef))) ∧ (((intOf (List.getD (setCells [(Value.int IntKind.u8 (0 : Int)), (Value.int IntKind.u8 (0 : Int)), (Value.int IntKind.u8 (0 : Int)), (Value.int IntKind.u8 (0 : Int))] 0 (List.take ((ite ((ByteArray.size s) ≤ (4 : Nat)) (ByteArray.size s) (4 : Nat)) * (1 : Nat) : Nat) (bytesV s))) (1 : Nat) Go.undef)) < (256 : Int)) ∧ (((0 : Int) ≤ (intOf (List.getD (setCells [(Value.int IntKind.u8 (0 : Int)), (Value.int IntKind.u8 (0 : Int)), (Value.int IntKind.u8 (0 : Int)), (Value.int IntKind.u8 (0 : Int))] 0 (List.take ((ite ((ByteArray.size s) ≤ (4 : Nat)) (ByteArray.size s) (4 : Nat)) * (1 : Nat) : Nat) (bytesV s))) (2 : Nat) Go.undef))) ∧ (((intOf (List.getD (setCells [(Value.int IntKind.u8 (0 : Int)), (Value.int IntKind.u8 (0 : Int)), (Value.int IntKind.u8 (0 : Int)), (Value.int IntKind.u8 (0 : Int))] 0 (List.take ((ite ((ByteArray.size s) ≤ (4 : Nat)) (ByteArray.size s) (4 : Nat)) * (1 : Nat) : Nat) (bytesV s))) (2 : Nat) Go.undef)) < (256 : Int)) ∧ (((0 : Int) ≤ (intOf (List.getD (setCells [(Value.int IntKind.u8 (0 : Int)), (Value.int IntKind.u8 (0 : Int)), (Value.int IntKind.u8 (0 : Int)), (Value.int IntKind.u8 (0 : Int))] 0 (List.take ((ite ((ByteArray.size s) ≤ (4 : Nat)) (ByteArray.size s) (4 : Nat)) * (1 : Nat) : Nat) (bytesV s))) (3 : Nat) Go.undef))) ∧ (((intOf (List.getD (setCells [(Value.int IntKind.u8 (0 : Int)), (Value.int IntKind.u8 (0 : Int)), (Value.int IntKind.u8 (0 : Int)), (Value.int IntKind.u8 (0 : Int))] 0 (List.take ((ite ((ByteArray.size s) ≤ (4 : Nat)) (ByteArray.size s) (4 : Nat)) * (1 : Nat) : Nat) (bytesV s))) (3 : Nat) Go.undef)) < (256 : Int)) ∧ (∀ x2 : Int, ((x2 = (((pk (intOf (List.getD (setCells [(Value.int IntKind.u8 (0 : Int)), (Value.int IntKind.u8 (0 : Int)), (Value.int IntKind.u8 (0 : Int)), (Value.int IntKind.u8 (0 : Int))] 0 (List.take ((ite ((ByteArray.size s) ≤ (4 : Nat)) (ByteArray.size s) (4 : Nat)) * (1 : Nat) : Nat) (bytesV s))) 0 Go.undef)) (intOf (List.getD (setCells [(Value.int IntKind.u8 (0 : Int)), (Value.int IntKind.u8 (0 : Int)), (Value.int IntKind.u8 (0 : Int)), (Value.int IntKind.u8 (0 : Int))] 0 (List.take ((ite ((ByteArray.size s) ≤ (4 : Nat)) (ByteArray.size s) (4 : Nat)) * (1 : Nat) : Nat) (bytesV s))) (1 : Nat) Go.undef)) (intOf (List.getD (setCells [(Value.int IntKind.u8 (0 : Int)), (Value.int IntKind.u8 (0 : Int)), (Value.int IntKind.u8 (0 : Int)), (Value.int IntKind.u8 (0 : Int))] 0 (List.take ((ite ((ByteArray.size s) ≤ (4 : Nat)) (ByteArray.size s) (4 : Nat)) * (1 : Nat) : Nat) (bytesV s))) (2 : Nat) Go.undef)) (intOf (List.getD (setCells [(Value.int IntKind.u8 (0 : Int)), (Value.int IntKind.u8 (0 : Int)), (Value.int IntKind.u8 (0 : Int)), (Value.int IntKind.u8 (0 : Int))] 0 (List.take ((ite ((ByteArray.size s) ≤ (4 : Nat)) (ByteArray.size s) (4 : Nat)) * (1 : Nat) : Nat) (bytesV s))) (3 : Nat) Go.undef))) : Nat) : Int)) → (((List.length (Mem.W m)) = (Mem.n m)) ∧ (((0 : Int) ≤ a) ∧ ((a < (((Mem.n m) : Nat) : Int)) ∧ (((0 : Int) ≤ x2) ∧ ((x2 < (4294967296 : Int)) ∧ (cond ((decide (((0 : Int) ≤ x1))) && (decide ((x1 ≤ (((ByteArray.size s) : Nat) : Int))))) (∀ x3 : ByteArray, ((x3 = (ByteArray.extract s (Int.toNat x1) (ByteArray.size s))) → (∀ x4 : Int, ((x4 = (iAdd IntKind.i64 a (1 : Int))) → (k AExit.normal [(Prod.mk 0 (Value.pointer (Option.some (Addr.mk 0 0 (Option.some 0))))), (Prod.mk 1 (Value.int IntKind.i64 x4)), (Prod.mk 2 (Value.string x3))] [(AObj.cells Bool.false [(Value.slice (Option.some (Addr.mk (1 : Nat) 0 (Option.some 0))) (Mem.n (storeM m (Int.toNat a) (Ham.encN (Int.toNat x2)))) (2 : Nat)), (Value.int IntKind.i64 (Mem.safe (storeM m (Int.toNat a) (Ham.encN (Int.toNat x2))))), (Value.int IntKind.i64 (Mem.scrub (storeM m (Int.toNat a) (Ham.encN (Int.toNat x2))))), (Value.int IntKind.i64 (Mem.fuse (storeM m (Int.toNat a) (Ham.encN (Int.toNat x2))))), (Value.bool (Mem.bl (storeM m (Int.toNat a) (Ham.encN (Int.toNat x2))))), (Value.int IntKind.i64 (Mem.fx (storeM m (Int.toNat a) (Ham.encN (Int.toNat x2))))), (Value.int IntKind.i64 (Mem.lo (storeM m (Int.toNat a) (Ham.encN (Int.toNat x2))))), (Value.int IntKind.i64 (Mem.st (storeM m (Int.toNat a) (Ham.encN (Int.toNat x2)))))] ty mv), (AObj.cells Bool.true (Mem.W (storeM m (Int.toNat a) (Ham.encN (Int.toNat x2)))) ty2 mv2), (AObj.cells Bool.true (setCells [(Value.int IntKind.u8 (0 : Int)), (Value.int IntKind.u8 (0 : Int)), (Value.int IntKind.u8 (0 : Int)), (Value.int IntKind.u8 (0 : Int))] 0 (List.take ((ite ((ByteArray.size s) ≤ (4 : Nat)) (ByteArray.size s) (4 : Nat)) * (1 : Nat) : Nat) (bytesV s))) (91 : Nat) Bool.false)]))))) False)))))))))))))))) False) False) False) False) False))) (k (AExit.exit 0) [(Prod.mk 0 (Value.pointer (Option.some (Addr.mk 0 0 (Option.some 0))))), (Prod.mk 1 (Value.int IntKind.i64 a)), (Prod.mk 2 (Value.string s)), (Prod.mk 19 (Value.bool Bool.false))] (memH m ty ty2 mv mv2))) := by
  kernel_rfl
theorem bWB_eq (m : Mem) (ty ty2 : TypeId) (mv mv2 : Bool) (a : Int) (s : ByteArray) (K : Value → AHeap → Prop) : bWB m ty ty2 mv mv2 a s K = (∀ x1 : Int, ((x1 = (((ByteArray.size s) : Nat) : Int)) → (((Mem.n m) ≤ (16384 : Nat)) ∧ (∀ x2 : Int, ((x2 = (((roomM m a x1) : Nat) : Int)) → (cond (!(decide ((x2 = (0 : Int))))) (K (Value.int IntKind.i64 x2) (memH m ty ty2 mv mv2)) ((OkM m) ∧ (((0 : Int) ≤ a) ∧ (((a + (((lenW (ByteArray.size s)) : Nat) : Int) : Int) ≤ (((Mem.n m) : Nat) : Int)) ∧ (∀ x3 : Mem, ((x3 = (wbM (lenW (ByteArray.size s)) m (Int.toNat a) s 0)) → (K (Value.int IntKind.i64 (0 : Int)) (memH x3 ty ty2 mv mv2))))))))))))) := by
  kernel_rfl
end Go.Am.Mem

namespace Go.Am.Mem
open Go Go.Am Go.Am.Ham Go.Proofs
set_option maxRecDepth 100000

theorem setCells_eq : ∀ (l vs : List Value) (off : Nat), off + l.length ≤ vs.length → setCells vs off l = vs.take off ++ (l ++ vs.drop (off + l.length))
  | [], vs, off, _ => by simp [setCells]
  | x :: r, vs, off, h => by
    rw [List.length_cons] at h
    have hlt : off < vs.length := by omega
    rw [setCells, setCells_eq r _ (off + 1) (by rw [List.length_set]; omega), List.set_eq_take_append_cons_drop, if_pos hlt]
    have e1 : (List.take off vs ++ x :: List.drop (off + 1) vs).take (off + 1) = List.take off vs ++ [x] := by
      rw [List.take_append, List.take_of_length_le (by rw [List.length_take]; omega), List.length_take, Nat.min_eq_left (by omega), Nat.add_sub_cancel_left]
      rfl
    have e2 : (List.take off vs ++ x :: List.drop (off + 1) vs).drop (off + 1 + r.length) = vs.drop (off + (r.length + 1)) := by
      rw [List.drop_append, List.drop_eq_nil_of_le (by rw [List.length_take]; omega), List.length_take, Nat.min_eq_left (by omega), List.nil_append, show off + 1 + r.length - off = r.length + 1 by omega, List.drop_succ_cons, List.drop_drop]
      congr 1; omega
    rw [e1, e2, List.length_cons, List.append_assoc, List.cons_append, List.nil_append, List.cons_append]

theorem zero_all {m : Mem} (h : m.W.length = m.n) : zeroFrom m m.n = m := by
  unfold zeroFrom
  rw [Nat.sub_self, List.replicate_zero, List.append_nil, List.take_of_length_le (by omega)]
theorem zero_step {m : Mem} {i : Nat} (h : m.W.length = m.n) (hi : i < m.n) : zeroFrom (setW m i 0) (i + 1) = zeroFrom m i := by
  unfold zeroFrom setW
  have : (m.W.set i (.int .u64 ((0 : Nat) : Int))).take (i + 1) ++ List.replicate (m.n - (i + 1)) (Value.int .u64 0) = m.W.take i ++ List.replicate (m.n - i) (.int .u64 0) := by
    rw [List.set_eq_take_append_cons_drop, if_pos (by omega), List.take_append, List.take_of_length_le (by rw [List.length_take]; omega), List.length_take, Nat.min_eq_left (by omega), Nat.add_sub_cancel_left,
      show m.n - i = (m.n - (i + 1)) + 1 by omega, List.replicate_succ, List.append_assoc]
    rfl
  dsimp only
  rw [this]
theorem ok_zero {m : Mem} (h : OkM m) (i : Nat) : OkM (zeroFrom m i) where
  len := by
    show (m.W.take i ++ List.replicate (m.n - i) _).length = m.n
    rw [List.length_append, List.length_take, List.length_replicate, h.len]; omega
  word := fun j hj => by
    have hj : j < m.n := hj
    show (m.W.take i ++ List.replicate (m.n - i) _).getD j undef = .int .u64 (((intOf ((m.W.take i ++ List.replicate (m.n - i) _).getD j undef)).toNat : Nat) : Int)
    rw [List.getD_eq_getElem?_getD]
    by_cases e : j < i
    · rw [List.getElem?_append_left (by rw [List.length_take, h.len]; omega), List.getElem?_take_of_lt e, ← List.getD_eq_getElem?_getD]; exact h.word j hj
    · rw [List.getElem?_append_right (by rw [List.length_take, h.len]; omega), List.length_take, h.len, List.getElem?_replicate, if_pos (by omega)]; rfl
  lt := fun j hj => by
    have hj : j < m.n := hj
    show (intOf ((m.W.take i ++ List.replicate (m.n - i) _).getD j undef)).toNat < 2 ^ 39
    rw [List.getD_eq_getElem?_getD]
    by_cases e : j < i
    · rw [List.getElem?_append_left (by rw [List.length_take, h.len]; omega), List.getElem?_take_of_lt e, ← List.getD_eq_getElem?_getD]; exact h.lt j hj
    · rw [List.getElem?_append_right (by rw [List.length_take, h.len]; omega), List.length_take, h.len, List.getElem?_replicate, if_pos (by omega)]; decide
  pos := h.pos
  le := h.le
  safe0 := h.safe0
  safe1 := h.safe1
  scrub0 := h.scrub0
  scrub1 := h.scrub1
theorem zero_at {m : Mem} (h : OkM m) {i j : Nat} (hj : j < m.n) : wordAt (zeroFrom m i) j = if j < i then wordAt m j else 0 := by
  show (intOf ((m.W.take i ++ List.replicate (m.n - i) _).getD j undef)).toNat = _
  rw [List.getD_eq_getElem?_getD]
  by_cases e : j < i
  · rw [List.getElem?_append_left (by rw [List.length_take, h.len]; omega), List.getElem?_take_of_lt e, ← List.getD_eq_getElem?_getD, if_pos e]; rfl
  · rw [List.getElem?_append_right (by rw [List.length_take, h.len]; omega), List.length_take, h.len, List.getElem?_replicate, if_pos (by omega), if_neg e]; rfl
theorem ok_reset {m : Mem} (h : OkM m) : OkM (resetM m) := by
  have g := ok_zero h m.safe.toNat
  exact ⟨g.len, g.word, g.lt, g.pos, g.le, g.safe0, g.safe1, Int.le_refl 0, by show (0 : Int) < m.n; have := h.pos; omega⟩

theorem okReset : SpecOk Tryd.prog G0 29 sReset :=
  spec2 mixed tC_ok Tryd.func29 (by kernel_rfl : Tryd.f29.body = some (codeOf Tryd.f29)) cReset rfl rfl rfl (by kernel_rfl) (ids := []) (by kernel_rfl) trivial (by
    intro args h K hk
    unfold sReset at hk
    split at hk
    · replace hk := asMem_elim hk
      obtain ⟨m, ty, ty2, mv, mv2, rfl, ho, hk⟩ := hk
      show bReset m ty ty2 mv mv2 K
      rw [bReset_eq]
      refine ⟨ho.le, ?_⟩
      rintro x1 h1
      have hp := ho.pos
      have hs0 := ho.safe0
      have hs1 := ho.safe1
      have hl := ho.len
      rw [dnT (by rw [h1, chkM_in (by omega)]; rfl)]
      have e : setCells m.W m.safe.toNat (List.replicate (m.n - m.safe.toNat) (Value.int .u64 0)) = (resetM m).W := by
        rw [setCells_eq _ _ _ (by rw [List.length_replicate]; omega), List.length_replicate, List.drop_eq_nil_of_le (by omega), List.append_nil]; rfl
      rw [e, dT2 hs0 hs1, Bool.and_true, Bool.and_true, Bool.and_true, dT (by omega)]
      exact ⟨hk _ rfl, hk _ rfl⟩
    · exact hk.elim)
/-! ### Scrub -/
theorem store_scrub (m : Mem) (i c : Nat) : (storeM m i c).scrub = m.scrub := by unfold storeM; split <;> rfl
theorem count_scrub (m : Mem) (k : Int) : (countM m k).scrub = m.scrub := by unfold countM; split <;> (try split) <;> rfl
theorem readF_scrub (m : Mem) (i : Nat) : (readF m i).scrub = m.scrub := by unfold readF; split <;> (try rw [store_scrub]) <;> exact count_scrub _ _
theorem readF_n (m : Mem) (i : Nat) : (readF m i).n = m.n := by unfold readF; split <;> (try rw [store_n]) <;> exact countM_n _ _
theorem ok_step {m : Mem} (h : OkM m) : OkM (stepM m) := by
  have g := ok_readF h m.scrub.toNat
  have hp := h.pos
  refine ⟨g.len, g.word, g.lt, g.pos, g.le, g.safe0, g.safe1, ?_, ?_⟩
  · show 0 ≤ (m.scrub + 1) % m.n
    exact Int.emod_nonneg _ (by omega)
  · show (m.scrub + 1) % m.n < (readF m m.scrub.toNat).n
    rw [readF_n]; exact Int.emod_lt_of_pos _ (by omega)
theorem step_n (m : Mem) : (stepM m).n = m.n := readF_n m _
theorem wrap64 (n : Int) : IntKind.i64.wrap n = if n % 18446744073709551616 ≥ 9223372036854775808 then n % 18446744073709551616 - 18446744073709551616 else n % 18446744073709551616 := by
  unfold IntKind.wrap; simp [IntKind.bits, IntKind.signed]
/-- The counts are numbers of the machine. -/
structure CntM (m : Mem) : Prop where
  fx0 : -9223372036854775808 ≤ m.fx
  fx1 : m.fx ≤ 9223372036854775807
  lo0 : -9223372036854775808 ≤ m.lo
  lo1 : m.lo ≤ 9223372036854775807
theorem store_fx (m : Mem) (i c : Nat) : (storeM m i c).fx = m.fx ∧ (storeM m i c).lo = m.lo := by unfold storeM; split <;> exact ⟨rfl, rfl⟩
theorem read_cnt (m : Mem) (i : Nat) : (readF m i).fx = (if kindAt m i = 1 then iAdd .i64 m.fx 1 else m.fx) ∧ (readF m i).lo = (if kindAt m i = 2 then iAdd .i64 m.lo 1 else m.lo) := by
  have key : (readF m i).fx = (countM m ((kindAt m i : Nat) : Int)).fx ∧ (readF m i).lo = (countM m ((kindAt m i : Nat) : Int)).lo := by
    unfold readF kindAt
    split
    · exact store_fx _ _ _
    · exact ⟨rfl, rfl⟩
  have e : ∀ k : Nat, (countM m (k : Int)).fx = (if k = 1 then iAdd .i64 m.fx 1 else m.fx) ∧ (countM m (k : Int)).lo = (if k = 2 then iAdd .i64 m.lo 1 else m.lo) := by
    intro k
    unfold countM
    by_cases h1 : k = 1
    · subst h1; exact ⟨rfl, rfl⟩
    · rw [if_neg (by omega)]
      by_cases h2 : k = 2
      · subst h2; exact ⟨rfl, rfl⟩
      · rw [if_neg (by omega), if_neg h1, if_neg h2]; exact ⟨rfl, rfl⟩
  rw [key.1, key.2]; exact e _
theorem cnt_step {m : Mem} (h : CntM m) : CntM (stepM m) ∧ (stepM m).fx = IntKind.i64.wrap (m.fx + (if kindAt m m.scrub.toNat = 1 then 1 else 0)) ∧ (stepM m).lo = IntKind.i64.wrap (m.lo + (if kindAt m m.scrub.toNat = 2 then 1 else 0)) := by
  obtain ⟨e1, e2⟩ := read_cnt m m.scrub.toNat
  have f1 : (stepM m).fx = IntKind.i64.wrap (m.fx + (if kindAt m m.scrub.toNat = 1 then 1 else 0)) := by
    show (readF m _).fx = _
    rw [e1]
    have := h.fx0; have := h.fx1
    split
    · rfl
    · rw [wrap64]; split <;> omega
  have f2 : (stepM m).lo = IntKind.i64.wrap (m.lo + (if kindAt m m.scrub.toNat = 2 then 1 else 0)) := by
    show (readF m _).lo = _
    rw [e2]
    have := h.lo0; have := h.lo1
    split
    · rfl
    · rw [wrap64]; split <;> omega
  refine ⟨⟨?_, ?_, ?_, ?_⟩, f1, f2⟩
  · rw [f1, wrap64]; split <;> omega
  · rw [f1, wrap64]; split <;> omega
  · rw [f2, wrap64]; split <;> omega
  · rw [f2, wrap64]; split <;> omega
theorem scrub_cnt : ∀ (k : Nat) {m : Mem}, CntM m → CntM (scrubM k m) ∧ (scrubM k m).fx = IntKind.i64.wrap (m.fx + scrubN 1 k m) ∧ (scrubM k m).lo = IntKind.i64.wrap (m.lo + scrubN 2 k m)
  | 0, m, h => by
    have := h.fx0; have := h.fx1; have := h.lo0; have := h.lo1
    refine ⟨h, ?_, ?_⟩
    · show m.fx = IntKind.i64.wrap (m.fx + 0); rw [wrap64]; split <;> omega
    · show m.lo = IntKind.i64.wrap (m.lo + 0); rw [wrap64]; split <;> omega
  | k + 1, m, h => by
    obtain ⟨g, f1, f2⟩ := cnt_step h
    obtain ⟨g2, f3, f4⟩ := scrub_cnt k g
    refine ⟨g2, ?_, ?_⟩
    · show (scrubM k (stepM m)).fx = IntKind.i64.wrap (m.fx + (((if kindAt m m.scrub.toNat = 1 then 1 else 0) + scrubN 1 k (stepM m) : Nat) : Int))
      rw [f3, f1, wrap64, wrap64, wrap64]
      generalize scrubN 1 k (stepM m) = N
      split <;> split <;> split <;> split <;> omega
    · show (scrubM k (stepM m)).lo = IntKind.i64.wrap (m.lo + (((if kindAt m m.scrub.toNat = 2 then 1 else 0) + scrubN 2 k (stepM m) : Nat) : Int))
      rw [f4, f2, wrap64, wrap64, wrap64]
      generalize scrubN 2 k (stepM m) = N
      split <;> split <;> split <;> split <;> omega
theorem scrubN_le (c : Nat) : ∀ (k : Nat) (m : Mem), scrubN c k m ≤ k
  | 0, _ => Nat.le_refl 0
  | k + 1, m => by
    have := scrubN_le c k (stepM m)
    unfold scrubN
    split <;> omega
theorem scrub_ok : ∀ (k : Nat) {m : Mem}, OkM m → OkM (scrubM k m) ∧ (scrubM k m).n = m.n
  | 0, _, h => ⟨h, rfl⟩
  | k + 1, m, h => by
    obtain ⟨g, e⟩ := scrub_ok k (ok_step h)
    exact ⟨g, e.trans (step_n m)⟩
theorem scrub_mod {m : Mem} (h : OkM m) {x1 x3 : Int} {s : Int} (hs : s = m.scrub) (h1 : x1 = iAdd .i64 s 1) (h3 : x3 = Int.tmod x1 ((m.n : Nat) : Int)) : x3 = (m.scrub + 1) % m.n := by
  have := h.scrub0; have := h.scrub1; have := h.le
  subst hs
  rw [iAdd_i64 (by omega) (by omega)] at h1
  rw [h3, h1, Int.tmod_eq_emod_of_nonneg (by omega)]
theorem okPacked : SpecOk Tryd.prog G0 49 sPacked :=
  spec2 mixed tE_ok Tryd.func49 (by kernel_rfl : Tryd.f49.body = some (codeOf Tryd.f49)) cPacked rfl rfl rfl (by kernel_rfl) (ids := [3]) (by kernel_rfl) ⟨trivial, trivial⟩ (by
    intro args h K hk
    unfold sPacked at hk
    split at hk
    · rename_i a b c d
      obtain ⟨a0, a1, b0, b1, c0, c1, d0, d1, hk⟩ := hk
      show bPacked a b c d K
      rw [bPacked_eq]
      obtain ⟨a, rfl⟩ := nat_of a0
      obtain ⟨b, rfl⟩ := nat_of b0
      obtain ⟨c, rfl⟩ := nat_of c0
      obtain ⟨d, rfl⟩ := nat_of d0
      have cap32 : cap .u32 = 4294967296 := by decide
      have stp : ∀ (x y : Nat) {X p q r : Int}, X = (x : Nat) → x < 16777216 → y < 256 → p = iMul .u32 X 256 → q = IntKind.wrap .u32 (y : Nat) → r = iOr .u32 p q → r = ((x * 256 + y : Nat) : Int) := by
        intro x y X p q r hX hx hy h1 h2 h3
        rw [hX, show (256 : Int) = ((256 : Nat) : Int) from rfl, iMul_cast .u32 (by rw [cap32]; omega)] at h1
        rw [wrap_cast .u32 (by rw [cap32]; omega)] at h2
        rw [h3, h1, h2, iOr_cast .u32 (by rw [cap32]; omega) (by rw [cap32]; omega)]
        congr 1
        have := Nat.two_pow_add_eq_or_of_lt (i := 8) (b := y) (by omega) x
        rw [Nat.mul_comm x 256]
        exact this.symm
      rintro x1 rfl x2 h2 x3 h3 x4 h4
      have e4 : x4 = ((a : Nat) : Int) := by
        rw [wrap_cast .u32 (by rw [cap32]; omega)] at h3
        rw [h4, h3, h2, show (0 : Int) = ((0 : Nat) : Int) from rfl, iOr_cast .u32 (by rw [cap32]; omega) (by rw [cap32]; omega), Nat.zero_or]
      rintro x5 rfl x6 h6 x7 h7 x8 h8
      have e8 := stp a b e4 (by omega) (by omega) h6 h7 h8
      rintro x9 rfl x10 h10 x11 h11 x12 h12
      have e12 := stp _ c e8 (by omega) (by omega) h10 h11 h12
      rintro x13 rfl x14 h14 x15 h15 x16 h16
      have e16 := stp _ d e12 (by omega) (by omega) h14 h15 h16
      rw [e16]
      unfold pk at hk
      rw [Int.toNat_natCast, Int.toNat_natCast, Int.toNat_natCast, Int.toNat_natCast] at hk
      exact hk
    · exact hk.elim)
theorem tI_ok : AllOk Tryd.prog G0 tI := ⟨okReadI, okPacked, tC_ok⟩
def scrubR (m : Mem) (n : Int) : Nat × Nat × Nat := if n < 0 ∨ n > 16384 then (0, 0, 2) else (scrubN 1 n.toNat m, scrubN 2 n.toNat m, 0)
def scrubS (m : Mem) (n : Int) : Mem := if n < 0 ∨ n > 16384 then m else scrubM n.toNat m
def sScrub : Spec := fun args h K => match args with
  | [.pointer (some ⟨0, 0, some 0⟩), .int .i64 n] => asMem h fun m ty ty2 mv mv2 => OkM m ∧ CntM m ∧ ∀ m', m' = scrubS m n → K (.tuple #[.int .i64 (((scrubR m n).1 : Nat) : Int), .int .i64 (((scrubR m n).2.1 : Nat) : Int), .int .i64 (((scrubR m n).2.2 : Nat) : Int)]) (memH m' ty ty2 mv mv2)
  | _ => False
end Go.Am.Mem

namespace Go.Am.Mem
open Go Go.Am Go.Am.Ham Go.Proofs
set_option maxRecDepth 100000

theorem bytesV_length (s : ByteArray) : (bytesV s).length = s.size := by
  unfold bytesV; rw [List.length_map, Array.length_toList]; rfl
theorem bytesV_get (s : ByteArray) {j : Nat} (hj : j < s.size) : (bytesV s)[j]? = some (.int .u8 ((byteAt s j : Nat) : Int)) := by
  unfold bytesV byteAt
  have : j < s.data.toList.length := by rw [Array.length_toList]; exact hj
  rw [List.getElem?_map, List.getD_eq_getElem?_getD, List.getElem?_eq_getElem this]; rfl
theorem byteAt_lt (s : ByteArray) (j : Nat) : byteAt s j < 256 := by
  unfold byteAt; exact UInt8.toNat_lt _
theorem byteAt_out (s : ByteArray) {j : Nat} (hj : s.size ≤ j) : byteAt s j = 0 := by
  unfold byteAt
  rw [List.getD_eq_getElem?_getD, List.getElem?_eq_none (by rw [Array.length_toList]; exact hj)]; rfl
theorem byteAt_ext (s : ByteArray) {k : Nat} (j : Nat) : byteAt (s.extract k s.size) j = byteAt s (k + j) := by
  unfold byteAt
  rw [ByteArray.data_extract, List.getD_eq_getElem?_getD, List.getD_eq_getElem?_getD, Array.getElem?_toList, Array.getElem?_toList, Array.getElem?_extract]
  split
  · rfl
  · rename_i h
    rw [Array.getElem?_eq_none]
    have : s.data.size = s.size := rfl
    simp only [this] at h
    rw [this]; omega
theorem wordJ_ext (s : ByteArray) (k i : Nat) : ∀ j, wordJ (s.extract k s.size) i j = wordJ s (k + i) j
  | 0 => rfl
  | j + 1 => by rw [wordJ, wordJ, wordJ_ext s k i j, byteAt_ext, Nat.add_assoc]
theorem wordJ_lt (s : ByteArray) (i : Nat) : ∀ j, wordJ s i j < 256 ^ j
  | 0 => by show 0 < 1; omega
  | j + 1 => by
    have := wordJ_lt s i j
    have := byteAt_lt s (i + j)
    rw [wordJ, Nat.pow_succ]; omega
theorem wordB_lt (s : ByteArray) (i : Nat) : wordB s i < 2 ^ 32 := Nat.lt_of_lt_of_le (wordJ_lt s i 4) (by decide)
theorem wbM_ext (s : ByteArray) (k : Nat) : ∀ (c : Nat) (m : Mem) (a i : Nat), wbM c m a (s.extract k s.size) i = wbM c m a s (k + i)
  | 0, _, _, _ => rfl
  | c + 1, m, a, i => by
    rw [wbM, wbM, wbM_ext s k c, wordB, wordJ_ext, Nat.add_assoc]; rfl
theorem ok_wb (s : ByteArray) : ∀ (c : Nat) {m : Mem} (a i : Nat), OkM m → OkM (wbM c m a s i) ∧ (wbM c m a s i).n = m.n
  | 0, _, _, _, h => ⟨h, rfl⟩
  | c + 1, m, a, i, h => by
    obtain ⟨g, e⟩ := ok_wb s c (a + 1) (i + 4) (ok_store h (i := a) (enc39 (wordB s i)))
    exact ⟨g, e.trans (store_n _ _ _)⟩
theorem strEq_nil (s : ByteArray) : strEq s (ByteArray.mk (Array.mk [])) = decide (s.size = 0) := by
  unfold strEq
  show eqLB s.data.toList [] = _
  have : s.size = s.data.toList.length := by rw [Array.length_toList]; rfl
  rw [this]
  cases s.data.toList <;> rfl

/-- The four bytes that are copied. -/
theorem four_get (s : ByteArray) {j : Nat} (hj : j < 4) : (setCells [Value.int .u8 0, Value.int .u8 0, Value.int .u8 0, Value.int .u8 0] 0 ((bytesV s).take ((if s.size ≤ 4 then s.size else 4) * 1))).getD j undef = .int .u8 ((byteAt s j : Nat) : Int) := by
  have hl : ((bytesV s).take ((if s.size ≤ 4 then s.size else 4) * 1)).length = if s.size ≤ 4 then s.size else 4 := by
    rw [List.length_take, bytesV_length, Nat.mul_one]; split <;> omega
  rw [setCells_eq _ _ _ (by rw [hl]; show 0 + (if s.size ≤ 4 then s.size else 4) ≤ 4; split <;> omega), hl, List.take_zero, List.nil_append, Nat.zero_add, List.getD_eq_getElem?_getD]
  by_cases h : j < s.size
  · rw [List.getElem?_append_left (by rw [hl]; split <;> omega), List.getElem?_take_of_lt (by rw [Nat.mul_one]; split <;> omega), bytesV_get s h]; rfl
  · rw [List.getElem?_append_right (by rw [hl]; split <;> omega), hl, if_pos (by omega), byteAt_out s (by omega), List.getElem?_drop]
    have : s.size + (j - s.size) = j := by omega
    rw [this]
    rcases (by omega : j = 0 ∨ j = 1 ∨ j = 2 ∨ j = 3) with rfl | rfl | rfl | rfl <;> rfl
theorem four_len (s : ByteArray) : (setCells [Value.int .u8 0, Value.int .u8 0, Value.int .u8 0, Value.int .u8 0] 0 ((bytesV s).take ((if s.size ≤ 4 then s.size else 4) * 1))).length = 4 := by
  rw [setCells_length]; rfl

theorem wb_step (m : Mem) (a : Nat) (s : ByteArray) (h : 0 < s.size) (k : Nat) (hk : k = if s.size ≤ 4 then s.size else 4) :
    wbM (lenW s.size) m a s 0 = wbM (lenW (s.extract k s.size).size) (storeM m a (encN (wordB s 0))) (a + 1) (s.extract k s.size) 0 ∧ lenW s.size = lenW (s.extract k s.size).size + 1 := by
  have hs : (s.extract k s.size).size = s.size - k := by rw [ByteArray.size_extract]; omega
  have hl : lenW s.size = lenW (s.size - k) + 1 := by
    unfold lenW; split at hk <;> omega
  refine ⟨?_, by rw [hs]; exact hl⟩
  rw [hs, hl, wbM, wbM_ext]
  by_cases h4 : s.size ≤ 4
  · rw [if_pos h4] at hk
    have : lenW (s.size - k) = 0 := by unfold lenW; omega
    rw [this]; rfl
  · rw [if_neg h4] at hk
    rw [hk]
theorem loopWB : ∀ e h k, TWB e h k → ∃ m, loopN cWB (codeOf Tryd.f39) 0 4 m e h k := by
  intro e h k hT
  unfold TWB at hT
  split at hT
  · rename_i a s
    replace hT := asMem_elim hT
    obtain ⟨m, ty, ty2, mv, mv2, rfl, ho, a0, a1, hk⟩ := hT
    have key : ∀ (c a : Nat) (s : ByteArray) (m : Mem), OkM m → lenW s.size = c → a + c ≤ m.n → (∀ m', m' = wbM c m a s 0 → k (.exit 0) [] (memH m' ty ty2 mv mv2)) →
        loopN cWB (codeOf Tryd.f39) 0 4 (c + 1) [(0, .pointer (some ⟨0, 0, some 0⟩)), (1, .int .i64 (a : Nat)), (2, .string s)] (memH m ty ty2 mv mv2) k := by
      intro c
      induction c with
      | zero =>
        intro a s m ho hc ha hk
        rw [loopN_succ]
        show tWB m ty ty2 mv mv2 a s _
        rw [tWB_eq, strEq_nil, dnT (by unfold lenW at hc; omega)]
        show k (.exit 0) [] (memH m ty ty2 mv mv2)
        exact hk m rfl
      | succ c ih =>
        intro a s m ho hc ha hk
        have hs : 0 < s.size := by unfold lenW at hc; omega
        have hle := ho.le
        rw [loopN_succ]
        show tWB m ty ty2 mv mv2 a s _
        rw [tWB_eq, strEq_nil, dnF (by omega)]
        rintro x1 h1
        have b0 := byteAt_lt s 0
        have b1 := byteAt_lt s 1
        have b2 := byteAt_lt s 2
        have b3 := byteAt_lt s 3
        rw [dT (by rw [four_len]; omega), four_get s (by omega), four_get s (by omega), four_get s (by omega), four_get s (by omega)]
        refine ⟨by rw [intOf_int]; omega, by rw [intOf_int]; omega, by rw [intOf_int]; omega, by rw [intOf_int]; omega, by rw [intOf_int]; omega, by rw [intOf_int]; omega, by rw [intOf_int]; omega, by rw [intOf_int]; omega, ?_⟩
        rw [intOf_int, intOf_int, intOf_int, intOf_int]
        rintro x2 h2
        have e2 : x2 = ((wordB s 0 : Nat) : Int) := by
          rw [h2]; unfold pk wordB
          rw [Int.toNat_natCast, Int.toNat_natCast, Int.toNat_natCast, Int.toNat_natCast, wordJ, wordJ, wordJ, wordJ, wordJ, Nat.zero_mul, Nat.zero_add]
        have hw := wordB_lt s 0
        refine ⟨ho.len, by omega, by omega, by omega, by omega, ?_⟩
        have e1 : x1.toNat = if s.size ≤ 4 then s.size else 4 := by rw [h1, Int.toNat_natCast]
        have hx1 : x1 ≤ ((s.size : Nat) : Int) := by rw [h1]; split <;> omega
        have hx0 : 0 ≤ x1 := by rw [h1]; split <;> omega
        rw [dT2 hx0 hx1]
        rintro x3 h3 x4 h4
        rw [iAdd_i64 (by omega) (by omega)] at h4
        obtain rfl : x4 = ((a + 1 : Nat) : Int) := by omega
        subst h3
        rw [Int.toNat_natCast, e2, Int.toNat_natCast]
        obtain ⟨w1, w2⟩ := wb_step m a s hs x1.toNat e1
        rw [hc] at w1 w2
        have := ih (a + 1) (s.extract x1.toNat s.size) (storeM m a (encN (wordB s 0))) (ok_store ho (enc39 _)) (by omega) (by rw [store_n]; omega) (fun m' hm => hk m' (by
          rw [hm, w1]
          congr 1; omega))
        rw [loopN_succ] at this
        show loopN cWB (codeOf Tryd.f39) 0 4 (c + 1) _ _ k
        rw [loopN_succ]
        exact this
    have := key (lenW s.size) a.toNat s m ho rfl (by omega) hk
    rw [show ((a.toNat : Nat) : Int) = a by omega] at this
    exact ⟨_, this⟩
  · exact hT.elim
theorem room_in {m : Mem} {a n : Int} (h : roomM m a n = 0) (hn : 0 ≤ n) : 0 ≤ a ∧ a + ((n.toNat + 3) / 4 : Nat) ≤ m.n ∧ n ≤ 4 * (m.n - a) := by
  unfold roomM at h
  split at h
  · omega
  · cases h
theorem room_cases (m : Mem) (a n : Int) : roomM m a n = 0 ∨ roomM m a n = 2 := by unfold roomM; split <;> simp
theorem okWB : SpecOk Tryd.prog G0 39 sWB :=
  spec2 mixed tI_ok Tryd.func39 (by kernel_rfl : Tryd.f39.body = some (codeOf Tryd.f39)) cWB rfl rfl rfl (by kernel_rfl) (ids := [4]) (by kernel_rfl) ⟨loopWB, trivial⟩ (by
    intro args h K hk
    unfold sWB at hk
    split at hk
    · rename_i a s
      replace hk := asMem_elim hk
      obtain ⟨m, ty, ty2, mv, mv2, rfl, ho, hk⟩ := hk
      show bWB m ty ty2 mv mv2 a s K
      rw [bWB_eq]
      rintro x1 rfl
      refine ⟨ho.le, ?_⟩
      rintro x2 h2
      rcases room_cases m a ((s.size : Nat) : Int) with h | h
      · rw [h] at hk h2
        rw [if_pos rfl] at hk
        obtain ⟨r1, r2, r3⟩ := room_in h (by omega)
        rw [Int.toNat_natCast] at r2
        rw [dnT (by omega)]
        exact ⟨ho, r1, r2, fun x3 h3 => hk x3 h3⟩
      · rw [h] at hk h2
        rw [if_neg (by omega)] at hk
        rw [dnF (by omega), h2]
        exact hk _ rfl
    · exact hk.elim)

/-! ### the reference -/
end Go.Am.Mem

namespace Go.Am.Mem
open Go Go.Am Go.Am.Ham Go.Proofs
set_option maxRecDepth 100000

def noStr : Value := .string (ByteArray.mk (Array.mk []))
def TRB : LSpec := fun e h k => match e with
  | [(0, .pointer (some ⟨0, 0, some 0⟩)), (1, .int .i64 a), (2, .int .i64 n), (9, .slice none 0 0)] => asMem h fun m ty ty2 mv mv2 => OkM m ∧ 0 ≤ a ∧ 0 ≤ n ∧ a + lenW n.toNat ≤ m.n ∧
      ∀ mv3 m', m' = rbM (lenW n.toNat) m a.toNat → (rbLost (lenW n.toNat) m a.toNat = true → k .ret [(6, noStr), (7, .int .i64 300)] (memH m' ty ty2 mv mv2)) ∧
        (rbLost (lenW n.toNat) m a.toNat = false → (n = 0 → k (.exit 0) [(2, .int .i64 n), (9, .slice none 0 0)] (memH m' ty ty2 mv mv2)) ∧
          (0 < n → k (.exit 0) [(2, .int .i64 n), (9, .slice (some ⟨2, 0, some 0⟩) (4 * lenW n.toNat) 2)] (bufH m' ty ty2 mv mv2 (rbBytes (lenW n.toNat) m a.toNat) mv3)))
  | _ => False
def TRRB : LSpec := fun e h k => match e with
  | [(0, .pointer (some ⟨0, 0, some 0⟩)), (1, .int .i64 a), (2, .int .i64 n), (8, .slice none 0 0), (9, .int .i64 i)] => asMem h fun m ty ty2 mv mv2 => OkM m ∧ 0 ≤ a ∧ 0 ≤ n ∧ a + lenW n.toNat ≤ m.n ∧ i = 0 ∧
      ∀ mv3 m', m' = rbM (lenW n.toNat) m a.toNat → (rbLost (lenW n.toNat) m a.toNat = true → k .ret [(6, noStr), (7, .int .i64 300)] (memH m' ty ty2 mv mv2)) ∧
        (rbLost (lenW n.toNat) m a.toNat = false → (n = 0 → k (.exit 0) [(2, .int .i64 n), (8, .slice none 0 0)] (memH m' ty ty2 mv mv2)) ∧
          (0 < n → k (.exit 0) [(2, .int .i64 n), (8, .slice (some ⟨2, 0, some 0⟩) (4 * lenW n.toNat) 2)] (bufH m' ty ty2 mv mv2 (rbBytes (lenW n.toNat) m a.toNat) mv3)))
  | _ => False
noncomputable def cRB : FCfg := mkG Tryd.prog G0 tI 53 [(0, [0, 1, 2]), (1, [0, 1, 2, 8]), (2, [0, 1, 2, 8, 17]), (3, [6, 7]), (4, [0, 1, 2, 9]), (5, [0, 1, 2, 9, 22]), (6, [0, 1, 2, 9]), (7, [0, 1, 2, 9, 10, 11]), (8, [0, 1, 2, 9, 10, 34]), (9, [6, 7]), (10, [0, 1, 2, 9]), (11, [6, 7])] [(5, [0, 1, 2, 9])] [(5, [2, 6, 7, 9])] [(5, TRB)] [] [] 40 2
noncomputable def tRBa (m : Mem) (ty ty2 : TypeId) (mv mv2 : Bool) (a n : Int) (k : AExit → Env → AHeap → Prop) : Prop := codeK cRB (nthLoop 0 (codeOf Tryd.f34)) [(0, .pointer (some ⟨0, 0, some 0⟩)), (1, .int .i64 a), (2, .int .i64 n), (9, .slice none 0 0)] (memH m ty ty2 mv mv2) k
noncomputable def tRBb (m : Mem) (ty ty2 : TypeId) (mv mv2 : Bool) (vs : List Value) (mv3 : Bool) (a n : Int) (l : Nat) (k : AExit → Env → AHeap → Prop) : Prop := codeK cRB (nthLoop 0 (codeOf Tryd.f34)) [(0, .pointer (some ⟨0, 0, some 0⟩)), (1, .int .i64 a), (2, .int .i64 n), (9, .slice (some ⟨2, 0, some 0⟩) l 2)] (bufH m ty ty2 mv mv2 vs mv3) k
noncomputable def bRB (m : Mem) (ty ty2 : TypeId) (mv mv2 : Bool) (a n : Int) (K : Value → AHeap → Prop) : Prop := bodyK cRB (codeOf Tryd.f34) Tryd.f34.results.toList [.pointer (some ⟨0, 0, some 0⟩), .int .i64 a, .int .i64 n] (memH m ty ty2 mv mv2) K
theorem tRBa_eq (m : Mem) (ty ty2 : TypeId) (mv mv2 : Bool) (a n : Int) (k : AExit → Env → AHeap → Prop) : tRBa m ty ty2 mv mv2 a n k = (∀ x1 : Int, ((x1 = (0 : Int)) → (cond (decide ((x1 < n))) ((OkM m) ∧ (((0 : Int) ≤ a) ∧ ((a < (((Mem.n m) : Nat) : Int)) ∧ (∀ x2 : Int, ((x2 = ((((Ham.decN (wordAt m (Int.toNat a)))).fst : Nat) : Int)) → (∀ x3 : Int, ((x3 = (((((Ham.decN (wordAt m (Int.toNat a)))).snd).fst : Nat) : Int)) → (cond (decide ((x3 = (2 : Int)))) (k AExit.ret [(Prod.mk 6 (Value.string (ByteArray.mk (Array.mk [])))), (Prod.mk 7 (Value.int IntKind.i64 (300 : Int)))] (memH (readF m (Int.toNat a)) ty ty2 mv mv2)) (∀ x4 : Int, ((x4 = (Int.fdiv x2 (16777216 : Int))) → (∀ x5 : Int, ((x5 = (IntKind.wrap IntKind.u8 x4)) → (∀ x6 : Int, ((x6 = (Int.fdiv x2 (65536 : Int))) → (∀ x7 : Int, ((x7 = (IntKind.wrap IntKind.u8 x6)) → (∀ x8 : Int, ((x8 = (Int.fdiv x2 (256 : Int))) → (∀ x9 : Int, ((x9 = (IntKind.wrap IntKind.u8 x8)) → (∀ x10 : Int, ((x10 = (IntKind.wrap IntKind.u8 x2)) → (∀ x11 : Int, ((x11 = (iAdd IntKind.i64 a (1 : Int))) → (k AExit.normal [(Prod.mk 0 (Value.pointer (Option.some (Addr.mk 0 0 (Option.some 0))))), (Prod.mk 1 (Value.int IntKind.i64 x11)), (Prod.mk 2 (Value.int IntKind.i64 n)), (Prod.mk 9 (Value.slice (Option.some (Addr.mk (3 : Nat) 0 (Option.some 0))) (4 : Nat) (2 : Nat)))] [(AObj.cells Bool.false [(Value.slice (Option.some (Addr.mk (1 : Nat) 0 (Option.some 0))) (Mem.n (readF m (Int.toNat a))) (2 : Nat)), (Value.int IntKind.i64 (Mem.safe (readF m (Int.toNat a)))), (Value.int IntKind.i64 (Mem.scrub (readF m (Int.toNat a)))), (Value.int IntKind.i64 (Mem.fuse (readF m (Int.toNat a)))), (Value.bool (Mem.bl (readF m (Int.toNat a)))), (Value.int IntKind.i64 (Mem.fx (readF m (Int.toNat a)))), (Value.int IntKind.i64 (Mem.lo (readF m (Int.toNat a)))), (Value.int IntKind.i64 (Mem.st (readF m (Int.toNat a))))] ty mv), (AObj.cells Bool.true (Mem.W (readF m (Int.toNat a))) ty2 mv2), (AObj.cells Bool.true [(Value.int IntKind.u8 x5), (Value.int IntKind.u8 x7), (Value.int IntKind.u8 x9), (Value.int IntKind.u8 x10)] (5 : Nat) Bool.false), (AObj.cells Bool.true [(Value.int IntKind.u8 x5), (Value.int IntKind.u8 x7), (Value.int IntKind.u8 x9), (Value.int IntKind.u8 x10)] (5 : Nat) Bool.false)]))))))))))))))))))))))))) (k (AExit.exit 0) [(Prod.mk 0 (Value.pointer (Option.some (Addr.mk 0 0 (Option.some 0))))), (Prod.mk 1 (Value.int IntKind.i64 a)), (Prod.mk 2 (Value.int IntKind.i64 n)), (Prod.mk 9 (Value.slice Option.none 0 0)), (Prod.mk 22 (Value.bool Bool.false))] (memH m ty ty2 mv mv2))))) := by
  kernel_rfl
theorem tRBb_eq (m : Mem) (ty ty2 : TypeId) (mv mv2 : Bool) (vs : List Value) (mv3 : Bool) (a n : Int) (l : Nat) (k : AExit → Env → AHeap → Prop) : tRBb m ty ty2 mv mv2 vs mv3 a n l k = (∀ x1 : Int, ((x1 = ((l : Nat) : Int)) → (cond (decide ((x1 < n))) ((OkM m) ∧ (((0 : Int) ≤ a) ∧ ((a < (((Mem.n m) : Nat) : Int)) ∧ (∀ x2 : Int, ((x2 = ((((Ham.decN (wordAt m (Int.toNat a)))).fst : Nat) : Int)) → (∀ x3 : Int, ((x3 = (((((Ham.decN (wordAt m (Int.toNat a)))).snd).fst : Nat) : Int)) → (cond (decide ((x3 = (2 : Int)))) (k AExit.ret [(Prod.mk 6 (Value.string (ByteArray.mk (Array.mk [])))), (Prod.mk 7 (Value.int IntKind.i64 (300 : Int)))] [(AObj.cells Bool.false [(Value.slice (Option.some (Addr.mk (1 : Nat) 0 (Option.some 0))) (Mem.n (readF m (Int.toNat a))) (2 : Nat)), (Value.int IntKind.i64 (Mem.safe (readF m (Int.toNat a)))), (Value.int IntKind.i64 (Mem.scrub (readF m (Int.toNat a)))), (Value.int IntKind.i64 (Mem.fuse (readF m (Int.toNat a)))), (Value.bool (Mem.bl (readF m (Int.toNat a)))), (Value.int IntKind.i64 (Mem.fx (readF m (Int.toNat a)))), (Value.int IntKind.i64 (Mem.lo (readF m (Int.toNat a)))), (Value.int IntKind.i64 (Mem.st (readF m (Int.toNat a))))] ty mv), (AObj.cells Bool.true (Mem.W (readF m (Int.toNat a))) ty2 mv2), (AObj.cells Bool.true vs (5 : Nat) mv3)]) (∀ x4 : Int, ((x4 = (Int.fdiv x2 (16777216 : Int))) → (∀ x5 : Int, ((x5 = (IntKind.wrap IntKind.u8 x4)) → (∀ x6 : Int, ((x6 = (Int.fdiv x2 (65536 : Int))) → (∀ x7 : Int, ((x7 = (IntKind.wrap IntKind.u8 x6)) → (∀ x8 : Int, ((x8 = (Int.fdiv x2 (256 : Int))) → (∀ x9 : Int, ((x9 = (IntKind.wrap IntKind.u8 x8)) → (∀ x10 : Int, ((x10 = (IntKind.wrap IntKind.u8 x2)) → (cond ((decide (((0 + (l * (1 : Nat) : Nat) : Nat) ≤ (List.length vs)))) && (decide ((((l + (4 : Nat) : Nat) * (1 : Nat) : Nat) ≤ (140737488355328 : Nat))))) (∀ x11 : Int, ((x11 = (iAdd IntKind.i64 a (1 : Int))) → (k AExit.normal [(Prod.mk 0 (Value.pointer (Option.some (Addr.mk 0 0 (Option.some 0))))), (Prod.mk 1 (Value.int IntKind.i64 x11)), (Prod.mk 2 (Value.int IntKind.i64 n)), (Prod.mk 9 (Value.slice (Option.some (Addr.mk (2 : Nat) 0 (Option.some 0))) (l + (4 : Nat) : Nat) (2 : Nat)))] [(AObj.cells Bool.false [(Value.slice (Option.some (Addr.mk (1 : Nat) 0 (Option.some 0))) (Mem.n (readF m (Int.toNat a))) (2 : Nat)), (Value.int IntKind.i64 (Mem.safe (readF m (Int.toNat a)))), (Value.int IntKind.i64 (Mem.scrub (readF m (Int.toNat a)))), (Value.int IntKind.i64 (Mem.fuse (readF m (Int.toNat a)))), (Value.bool (Mem.bl (readF m (Int.toNat a)))), (Value.int IntKind.i64 (Mem.fx (readF m (Int.toNat a)))), (Value.int IntKind.i64 (Mem.lo (readF m (Int.toNat a)))), (Value.int IntKind.i64 (Mem.st (readF m (Int.toNat a))))] ty mv), (AObj.cells Bool.true (Mem.W (readF m (Int.toNat a))) ty2 mv2), (AObj.cells Bool.true (List.append (List.take (l * (1 : Nat) : Nat) (List.drop 0 vs)) [(Value.int IntKind.u8 x5), (Value.int IntKind.u8 x7), (Value.int IntKind.u8 x9), (Value.int IntKind.u8 x10)]) (5 : Nat) Bool.true), (AObj.cells Bool.true [(Value.int IntKind.u8 x5), (Value.int IntKind.u8 x7), (Value.int IntKind.u8 x9), (Value.int IntKind.u8 x10)] (5 : Nat) Bool.false)]))) False))))))))))))))))))))))) (k (AExit.exit 0) [(Prod.mk 0 (Value.pointer (Option.some (Addr.mk 0 0 (Option.some 0))))), (Prod.mk 1 (Value.int IntKind.i64 a)), (Prod.mk 2 (Value.int IntKind.i64 n)), (Prod.mk 9 (Value.slice (Option.some (Addr.mk (2 : Nat) 0 (Option.some 0))) l (2 : Nat))), (Prod.mk 22 (Value.bool Bool.false))] [(AObj.cells Bool.false [(Value.slice (Option.some (Addr.mk (1 : Nat) 0 (Option.some 0))) (Mem.n m) (2 : Nat)), (Value.int IntKind.i64 (Mem.safe m)), (Value.int IntKind.i64 (Mem.scrub m)), (Value.int IntKind.i64 (Mem.fuse m)), (Value.bool (Mem.bl m)), (Value.int IntKind.i64 (Mem.fx m)), (Value.int IntKind.i64 (Mem.lo m)), (Value.int IntKind.i64 (Mem.st m))] ty mv), (AObj.cells Bool.true (Mem.W m) ty2 mv2), (AObj.cells Bool.true vs (5 : Nat) mv3)])))) := by
  kernel_rfl
theorem bRB_eq (m : Mem) (ty ty2 : TypeId) (mv mv2 : Bool) (a n : Int) (K : Value → AHeap → Prop) : bRB m ty ty2 mv mv2 a n K = (((Mem.n m) ≤ (16384 : Nat)) ∧ (∀ x1 : Int, ((x1 = (((roomM m a n) : Nat) : Int)) → (cond (!(decide ((x1 = (0 : Int))))) (K (Value.tuple (Array.mk [(Value.string (ByteArray.mk (Array.mk []))), (Value.int IntKind.i64 x1)])) (memH m ty ty2 mv mv2)) ((OkM m) ∧ (((0 : Int) ≤ a) ∧ (((0 : Int) ≤ n) ∧ (((a + (((lenW (Int.toNat n)) : Nat) : Int) : Int) ≤ (((Mem.n m) : Nat) : Int)) ∧ (Bool → (∀ x3 : Mem, ((x3 = (rbM (lenW (Int.toNat n)) m (Int.toNat a))) → ((((rbLost (lenW (Int.toNat n)) m (Int.toNat a)) = Bool.true) → (K (Value.tuple (Array.mk [(Value.string (ByteArray.mk (Array.mk []))), (Value.int IntKind.i64 (300 : Int))])) (memH x3 ty ty2 mv mv2))) ∧ (((rbLost (lenW (Int.toNat n)) m (Int.toNat a)) = Bool.false) → (((n = (0 : Int)) → (cond ((decide (((0 : Int) ≤ n))) && (decide ((n ≤ (0 : Int))))) (∀ x4 : ByteArray, ((x4 = (bytesOf [])) → (K (Value.tuple (Array.mk [(Value.string x4), (Value.int IntKind.i64 (0 : Int))])) (memH x3 ty ty2 mv mv2)))) False)) ∧ (((0 : Int) < n) → (cond ((decide (((0 : Int) ≤ n))) && (decide ((n ≤ ((((4 : Nat) * (lenW (Int.toNat n)) : Nat) : Nat) : Int))))) (cond (decide (((0 + (((Int.toNat n) - 0 : Nat) * (1 : Nat) : Nat) : Nat) ≤ (List.length (rbBytes (lenW (Int.toNat n)) m (Int.toNat a)))))) (cond (List.all (List.take (((Int.toNat n) - 0 : Nat) * (1 : Nat) : Nat) (List.drop 0 (rbBytes (lenW (Int.toNat n)) m (Int.toNat a)))) (isInt IntKind.u8)) (∀ x5 : ByteArray, ((x5 = (bytesOf (List.take (((Int.toNat n) - 0 : Nat) * (1 : Nat) : Nat) (List.drop 0 (rbBytes (lenW (Int.toNat n)) m (Int.toNat a)))))) → (K (Value.tuple (Array.mk [(Value.string x5), (Value.int IntKind.i64 (0 : Int))])) (memH x3 ty ty2 mv mv2)))) False) False) False)))))))))))))))) := by
  kernel_rfl
end Go.Am.Mem

namespace Go.Am.Mem
open Go Go.Am Go.Am.Ham Go.Proofs
set_option maxRecDepth 100000

theorem rbBytes_length : ∀ (c : Nat) (m : Mem) (a : Nat), (rbBytes c m a).length = 4 * c
  | 0, _, _ => rfl
  | c + 1, m, a => by
    rw [rbBytes, List.length_append, rbBytes_length c]
    show 4 + 4 * c = _
    omega
theorem rbBytes_int : ∀ (c : Nat) (m : Mem) (a : Nat) (v : Value), v ∈ rbBytes c m a → isInt .u8 v = true
  | 0, _, _, v, h => by cases h
  | c + 1, m, a, v, h => by
    rw [rbBytes, List.mem_append] at h
    rcases h with h | h
    · unfold bytes4 at h
      simp only [List.mem_cons, List.not_mem_nil, or_false] at h
      rcases h with rfl | rfl | rfl | rfl <;> rfl
    · exact rbBytes_int c _ _ v h
theorem byte_eq {w : Nat} (hw : w < 2 ^ 32) {x2 x4 x5 x6 x7 x8 x9 x10 : Int} (h2 : x2 = ((w : Nat) : Int)) (h4 : x4 = Int.fdiv x2 16777216) (h5 : x5 = IntKind.wrap .u8 x4) (h6 : x6 = Int.fdiv x2 65536) (h7 : x7 = IntKind.wrap .u8 x6)
    (h8 : x8 = Int.fdiv x2 256) (h9 : x9 = IntKind.wrap .u8 x8) (h10 : x10 = IntKind.wrap .u8 x2) : [Value.int .u8 x5, Value.int .u8 x7, Value.int .u8 x9, Value.int .u8 x10] = bytes4 w := by
  rw [h2, show (16777216 : Int) = ((16777216 : Nat) : Int) from rfl, fdiv_cast] at h4
  rw [h2, show (65536 : Int) = ((65536 : Nat) : Int) from rfl, fdiv_cast] at h6
  rw [h2, show (256 : Int) = ((256 : Nat) : Int) from rfl, fdiv_cast] at h8
  rw [wrap_u rfl, show (2 ^ IntKind.u8.bits : Nat) = 256 from rfl] at h5 h7 h9 h10
  unfold bytes4
  have e5 : x5 = ((w / 2 ^ 24 : Nat) : Int) := by rw [h5, h4]; omega
  have e7 : x7 = ((w / 2 ^ 16 % 256 : Nat) : Int) := by rw [h7, h6]; omega
  have e9 : x9 = ((w / 2 ^ 8 % 256 : Nat) : Int) := by rw [h9, h8]; omega
  have e10 : x10 = ((w % 256 : Nat) : Int) := by rw [h10, h2]; omega
  rw [e5, e7, e9, e10]
theorem take_all {α : Type} (vs : List α) {l : Nat} (h : vs.length = l) : List.take (l * 1) (List.drop 0 vs) = vs := by
  rw [Nat.mul_one, List.drop_zero, List.take_of_length_le (by omega)]

theorem loopRB : ∀ e h k, TRB e h k → ∃ m, loopN cRB (codeOf Tryd.f34) 0 5 m e h k := by
  intro e h k hT
  unfold TRB at hT
  split at hT
  · rename_i a n
    replace hT := asMem_elim hT
    obtain ⟨m, ty, ty2, mv, mv2, rfl, ho, a0, n0, a1, hk⟩ := hT
    have hN : lenW n.toNat ≤ 16384 := by have := ho.le; omega
    have key : ∀ (c j a : Nat) (vs : List Value) (m : Mem) (mv3 : Bool), OkM m → a + c ≤ m.n → vs.length = 4 * j → j + c = lenW n.toNat →
        (∀ mv3 m', m' = rbM c m a → (rbLost c m a = true → k .ret [(6, noStr), (7, .int .i64 300)] (memH m' ty ty2 mv mv2)) ∧
          (rbLost c m a = false → k (.exit 0) [(2, .int .i64 n), (9, .slice (some ⟨2, 0, some 0⟩) (4 * lenW n.toNat) 2)] (bufH m' ty ty2 mv mv2 (vs ++ rbBytes c m a) mv3))) →
        loopN cRB (codeOf Tryd.f34) 0 5 (c + 1) [(0, .pointer (some ⟨0, 0, some 0⟩)), (1, .int .i64 (a : Nat)), (2, .int .i64 n), (9, .slice (some ⟨2, 0, some 0⟩) (4 * j) 2)] (bufH m ty ty2 mv mv2 vs mv3) k := by
      intro c
      induction c with
      | zero =>
        intro j a vs m mv3 ho ha hl hj hk
        rw [loopN_succ]
        show tRBb m ty ty2 mv mv2 vs mv3 a n (4 * j) _
        rw [tRBb_eq]
        rintro x1 rfl
        rw [dF (by unfold lenW at hj; omega)]
        show k (.exit 0) [(2, .int .i64 n), (9, .slice (some ⟨2, 0, some 0⟩) (4 * j) 2)] (bufH m ty ty2 mv mv2 vs mv3)
        have := (hk mv3 m rfl).2 rfl
        rw [show rbBytes 0 m a = [] from rfl, List.append_nil, ← hj, Nat.add_zero] at this
        exact this
      | succ c ih =>
        intro j a vs m mv3 ho ha hl hj hk
        have hle := ho.le
        have hin : inM m (a : Nat) = true := inM_iff.2 (by omega)
        rw [loopN_succ]
        show tRBb m ty ty2 mv mv2 vs mv3 a n (4 * j) _
        rw [tRBb_eq]
        rintro x1 rfl
        rw [dT (by unfold lenW at hj; omega)]
        refine ⟨ho, by omega, by omega, ?_⟩
        rw [Int.toNat_natCast]
        rintro x2 h2 x3 h3
        by_cases hk2 : kindAt m a = 2
        · rw [dT (by rw [h3]; unfold kindAt at hk2; omega)]
          show k .ret [(6, noStr), (7, .int .i64 300)] (memH (readF m a) ty ty2 mv mv2)
          exact (hk mv3 _ (by rw [rbM, if_pos hk2])).1 (by rw [rbLost, if_pos hk2])
        · rw [dF (by rw [h3]; unfold kindAt at hk2; omega)]
          rintro x4 h4 x5 h5 x6 h6 x7 h7 x8 h8 x9 h9 x10 h10
          have hb := byte_eq (decN_lt _).1 h2 h4 h5 h6 h7 h8 h9 h10
          rw [dT2 (by omega) (by omega)]
          rintro x11 h11
          rw [iAdd_i64 (by omega) (by omega)] at h11
          obtain rfl : x11 = ((a + 1 : Nat) : Int) := by omega
          rw [take_all vs hl, hb]
          have := ih (j + 1) (a + 1) (vs ++ bytes4 (decN (wordAt m a)).1) (readF m a) true (ok_readF ho a) (by rw [readF_n]; omega) (by rw [List.length_append, hl]; show 4 * j + 4 = _; omega) (by omega) (fun mv3 m' hm => by
            have h := hk mv3 m' (by rw [rbM, if_neg hk2]; exact hm)
            rw [rbLost, if_neg hk2, rbBytes, ← List.append_assoc] at h
            exact h)
          rw [loopN_succ] at this
          replace this : tRBb (readF m a) ty ty2 mv mv2 (vs ++ bytes4 (decN (wordAt m a)).1) true ((a + 1 : Nat) : Int) n (4 * (j + 1)) _ := this
          show loopN cRB (codeOf Tryd.f34) 0 5 (c + 1) _ _ k
          rw [loopN_succ]
          show tRBb (readF m a) ty ty2 mv mv2 (vs ++ bytes4 (decN (wordAt m a)).1) true ((a + 1 : Nat) : Int) n (4 * j + 4) _
          exact this
    by_cases hn : n = 0
    · subst hn
      refine ⟨1, ?_⟩
      rw [loopN_succ]
      show tRBa m ty ty2 mv mv2 a 0 _
      rw [tRBa_eq]
      rintro x1 rfl
      rw [dF (by omega)]
      show k (.exit 0) [(2, .int .i64 0), (9, .slice none 0 0)] (memH m ty ty2 mv mv2)
      exact ((hk true m rfl).2 rfl).1 rfl
    · obtain ⟨c, hc⟩ : ∃ c, lenW n.toNat = c + 1 := ⟨lenW n.toNat - 1, by unfold lenW; omega⟩
      refine ⟨c + 1 + 1, ?_⟩
      have hle := ho.le
      rw [hc] at hk
      rw [loopN_succ]
      show tRBa m ty ty2 mv mv2 a n _
      rw [tRBa_eq]
      rintro x1 rfl
      rw [dT (by omega)]
      refine ⟨ho, by omega, by omega, ?_⟩
      rintro x2 h2 x3 h3
      by_cases hk2 : kindAt m a.toNat = 2
      · rw [dT (by rw [h3]; unfold kindAt at hk2; omega)]
        show k .ret [(6, noStr), (7, .int .i64 300)] (memH (readF m a.toNat) ty ty2 mv mv2)
        exact (hk true _ (by rw [rbM, if_pos hk2])).1 (by rw [rbLost, if_pos hk2])
      · rw [dF (by rw [h3]; unfold kindAt at hk2; omega)]
        rintro x4 h4 x5 h5 x6 h6 x7 h7 x8 h8 x9 h9 x10 h10
        have hb := byte_eq (decN_lt _).1 h2 h4 h5 h6 h7 h8 h9 h10
        rintro x11 h11
        rw [iAdd_i64 (by omega) (by omega)] at h11
        obtain rfl : x11 = ((a.toNat + 1 : Nat) : Int) := by omega
        rw [hb]
        have := key c 1 (a.toNat + 1) (bytes4 (decN (wordAt m a.toNat)).1) (readF m a.toNat) false (ok_readF ho _) (by rw [readF_n]; omega) rfl (by omega) (fun mv3 m' hm => by
          have h := hk mv3 m' (by rw [rbM, if_neg hk2]; exact hm)
          rw [rbLost, if_neg hk2, rbBytes] at h
          exact ⟨h.1, fun hf => by rw [hc]; exact (h.2 hf).2 (by omega)⟩)
        rw [loopN_succ] at this
        replace this : tRBb (readF m a.toNat) ty ty2 mv mv2 (bytes4 (decN (wordAt m a.toNat)).1) false ((a.toNat + 1 : Nat) : Int) n (4 * 1) _ := this
        show loopN cRB (codeOf Tryd.f34) 0 5 (c + 1) _ _ k
        rw [loopN_succ]
        show tRBb (readF m a.toNat) ty ty2 mv mv2 (bytes4 (decN (wordAt m a.toNat)).1) false ((a.toNat + 1 : Nat) : Int) n 4 _
        exact this
  · exact hT.elim
def rbS (m : Mem) (a n : Int) : Mem := if roomM m a n = 0 then rbM (lenW n.toNat) m a.toNat else m
def rbRes (m : Mem) (a n : Int) : ByteArray × Nat :=
  if roomM m a n = 0 then (if rbLost (lenW n.toNat) m a.toNat = true then (⟨⟨[]⟩⟩, 300) else (bytesOf ((rbBytes (lenW n.toNat) m a.toNat).take n.toNat), 0)) else (⟨⟨[]⟩⟩, 2)
def sRB : Spec := fun args h K => match args with
  | [.pointer (some ⟨0, 0, some 0⟩), .int .i64 a, .int .i64 n] => asMem h fun m ty ty2 mv mv2 => OkM m ∧ ∀ m', m' = rbS m a n → K (.tuple #[.string (rbRes m a n).1, .int .i64 (((rbRes m a n).2 : Nat) : Int)]) (memH m' ty ty2 mv mv2)
  | _ => False
theorem room_n {m : Mem} {a n : Int} (h : roomM m a n = 0) : 0 ≤ n := by
  unfold roomM at h
  split at h
  · omega
  · cases h
theorem okRB : SpecOk Tryd.prog G0 34 sRB :=
  spec2 mixed tI_ok Tryd.func34 (by kernel_rfl : Tryd.f34.body = some (codeOf Tryd.f34)) cRB rfl rfl rfl (by kernel_rfl) (ids := [5]) (by kernel_rfl) ⟨loopRB, trivial⟩ (by
    intro args h K hk
    unfold sRB at hk
    split at hk
    · rename_i a n
      replace hk := asMem_elim hk
      obtain ⟨m, ty, ty2, mv, mv2, rfl, ho, hk⟩ := hk
      show bRB m ty ty2 mv mv2 a n K
      rw [bRB_eq]
      refine ⟨ho.le, ?_⟩
      rintro x1 h1
      unfold rbRes rbS at hk
      rcases room_cases m a n with h | h
      · rw [if_pos h, if_pos h] at hk
        have n0 := room_n h
        obtain ⟨r1, r2, r3⟩ := room_in h n0
        rw [dnT (by rw [h1, h]; rfl)]
        refine ⟨ho, r1, n0, r2, fun _ x3 h3 => ⟨fun hl => ?_, fun hl => ⟨fun hn => ?_, fun hn => ?_⟩⟩⟩
        · rw [if_pos hl] at hk; exact hk x3 h3
        · rw [if_neg (by rw [hl]; exact Bool.false_ne_true)] at hk
          subst hn
          rw [dT2 (by omega) (by omega)]
          rintro x4 rfl
          exact hk x3 h3
        · rw [if_neg (by rw [hl]; exact Bool.false_ne_true)] at hk
          have hlen := rbBytes_length (lenW n.toNat) m a.toNat
          have hw : n.toNat ≤ 4 * lenW n.toNat := by unfold lenW; omega
          rw [dT2 n0 (by omega), dT (by rw [hlen]; omega)]
          rw [Nat.sub_zero, Nat.mul_one, List.drop_zero]
          have ha : List.all (List.take n.toNat (rbBytes (lenW n.toNat) m a.toNat)) (isInt .u8) = true := List.all_eq_true.2 fun v hv => rbBytes_int _ _ _ v (List.mem_of_mem_take hv)
          rw [ha, cond_true]
          rintro x5 rfl
          exact hk x3 h3
      · rw [if_neg (by omega), if_neg (by omega)] at hk
        rw [dnF (by rw [h1, h]; omega), h1, h]
        exact hk _ rfl
    · exact hk.elim)
end Go.Am.Mem
