/-
  Memory: a memory as plain data, and the small methods, of the program and of the reference. Own work.
-/
import Derived.Test.YtjbagcmcpmhfnaaDoorHamX
namespace Go.Am.Mem
open Go Go.Am Go.Am.Ham Go.Proofs
set_option maxRecDepth 100000

theorem okRD : SpecOk Tryd.prog G0 116 s9 := by
  have : s10 = s9 := by
    funext args h K
    unfold s10 s9
    split <;> simp only [dec_eq]
  rw [← this]; exact ok10
theorem okRE : SpecOk Tryd.prog G0 24 s13 := by
  have : s14 = s13 := by
    funext args h K
    unfold s14 s13
    split <;> simp only [enc_eq]
  rw [← this]; exact ok14

/-- What a memory is, the program's as well as the reference's. -/
structure Mem where
  W : List Value
  n : Nat
  safe : Int
  scrub : Int
  fuse : Int
  bl : Bool
  fx : Int
  lo : Int
  st : Int
def memC (m : Mem) : List Value := [.slice (some ⟨1, 0, some 0⟩) m.n 2, .int .i64 m.safe, .int .i64 m.scrub, .int .i64 m.fuse, .bool m.bl, .int .i64 m.fx, .int .i64 m.lo, .int .i64 m.st]
def memH (m : Mem) (ty ty2 : TypeId) (mv mv2 : Bool) : AHeap := [.cells false (memC m) ty mv, .cells true m.W ty2 mv2]
def asMem (h : AHeap) (k : Mem → TypeId → TypeId → Bool → Bool → Prop) : Prop := match h with
  | [.cells false [.slice (some ⟨1, 0, some 0⟩) n 2, .int .i64 safe, .int .i64 scrub, .int .i64 fuse, .bool bl, .int .i64 fx, .int .i64 lo, .int .i64 st] ty mv, .cells true W ty2 mv2] => k ⟨W, n, safe, scrub, fuse, bl, fx, lo, st⟩ ty ty2 mv mv2
  | _ => False
theorem asMem_elim {h : AHeap} {k : Mem → TypeId → TypeId → Bool → Bool → Prop} (hk : asMem h k) : ∃ m ty ty2 mv mv2, h = memH m ty ty2 mv mv2 ∧ k m ty ty2 mv mv2 := by
  unfold asMem at hk
  split at hk
  · exact ⟨_, _, _, _, _, rfl, hk⟩
  · exact hk.elim

def wordAt (m : Mem) (i : Nat) : Nat := (intOf (m.W.getD i undef)).toNat
def setW (m : Mem) (i c : Nat) : Mem := { m with W := m.W.set i (.int .u64 ((c : Nat) : Int)) }
structure OkM (m : Mem) : Prop where
  len : m.W.length = m.n
  word : ∀ i, i < m.n → m.W.getD i undef = .int .u64 ((wordAt m i : Nat) : Int)
  lt : ∀ i, i < m.n → wordAt m i < 2 ^ 39
  pos : 0 < m.n
  le : m.n ≤ 16384
  safe0 : 0 ≤ m.safe
  safe1 : m.safe ≤ m.n
  scrub0 : 0 ≤ m.scrub
  scrub1 : m.scrub < m.n

/-- Is it an index? -/
def inM (m : Mem) (a : Int) : Bool := decide (0 ≤ a) && decide (a < m.n)
def chkM (m : Mem) (a : Int) : Nat := if inM m a then 0 else 2
def roomM (m : Mem) (a n : Int) : Nat := if 0 ≤ a ∧ a ≤ m.n ∧ 0 ≤ n ∧ n ≤ 4 * (m.n - a) then 0 else 2
def storeM (m : Mem) (i c : Nat) : Mem :=
  if m.fuse = 0 then { m with bl := true } else
    { m with W := m.W.set i (.int .u64 ((c : Nat) : Int)), fuse := if m.fuse > 0 then iSub .i64 m.fuse 1 else m.fuse, st := iAdd .i64 m.st 1 }
def countM (m : Mem) (k : Int) : Mem := if k = 1 then { m with fx := iAdd .i64 m.fx 1 } else if k = 2 then { m with lo := iAdd .i64 m.lo 1 } else m

/-! ### the specifications -/
def sChk : Spec := fun args h K => match args with
  | [.pointer (some ⟨0, 0, some 0⟩), .int .i64 a] => asMem h fun m ty ty2 mv mv2 => m.n ≤ 16384 ∧ K (.int .i64 ((chkM m a : Nat) : Int)) (memH m ty ty2 mv mv2)
  | _ => False
def sRoom : Spec := fun args h K => match args with
  | [.pointer (some ⟨0, 0, some 0⟩), .int .i64 a, .int .i64 n] => asMem h fun m ty ty2 mv mv2 => m.n ≤ 16384 ∧ K (.int .i64 ((roomM m a n : Nat) : Int)) (memH m ty ty2 mv mv2)
  | _ => False
def sThere : Spec := fun args h K => match args with
  | [.pointer (some ⟨0, 0, some 0⟩), .int .i64 a] => asMem h fun m ty ty2 mv mv2 => K (.bool (inM m a)) (memH m ty ty2 mv mv2)
  | _ => False
def sStore : Spec := fun args h K => match args with
  | [.pointer (some ⟨0, 0, some 0⟩), .int .i64 a, .int .u32 w] => asMem h fun m ty ty2 mv mv2 => m.W.length = m.n ∧ 0 ≤ a ∧ a < m.n ∧ 0 ≤ w ∧ w < 2 ^ 32 ∧ K (.tuple #[]) (memH (storeM m a.toNat (encN w.toNat)) ty ty2 mv mv2)
  | _ => False
def sStoreC : Spec := fun args h K => match args with
  | [.pointer (some ⟨0, 0, some 0⟩), .int .i64 a, .int .u64 c] => asMem h fun m ty ty2 mv mv2 => m.W.length = m.n ∧ 0 ≤ a ∧ a < m.n ∧ 0 ≤ c ∧ K (.tuple #[]) (memH (storeM m a.toNat c.toNat) ty ty2 mv mv2)
  | _ => False
def sCount : Spec := fun args h K => match args with
  | [.pointer (some ⟨0, 0, some 0⟩), .int .i64 k] => asMem h fun m ty ty2 mv mv2 => K (.tuple #[]) (memH (countM m k) ty ty2 mv mv2)
  | _ => False

/-! ### what their texts compute -/
def tE : List (Nat × Spec) := []
theorem tE_ok : AllOk Tryd.prog G0 tE := trivial
def tS : List (Nat × Spec) := [(110, s13)]
theorem tS_ok : AllOk Tryd.prog G0 tS := ⟨ok13, trivial⟩
noncomputable def cChk : FCfg := mkG Tryd.prog G0 tE 27 [(0, [0, 1]), (1, [0, 1, 5]), (2, [4]), (3, [15]), (4, [4]), (5, [4])] [] [] [] [] [] 40 2
noncomputable def bChk (m : Mem) (ty ty2 : TypeId) (mv mv2 : Bool) (a : Int) (K : Value → AHeap → Prop) : Prop := bodyK cChk (codeOf Tryd.f71) Tryd.f71.results.toList [.pointer (some ⟨0, 0, some 0⟩), .int .i64 a] (memH m ty ty2 mv mv2) K
noncomputable def cRoom : FCfg := mkG Tryd.prog G0 tE 45 [(0, [0, 1, 2]), (1, [0, 1, 2, 7]), (2, [6]), (3, [17]), (4, [6]), (5, [6])] [] [] [] [] [] 40 2
noncomputable def bRoom (m : Mem) (ty ty2 : TypeId) (mv mv2 : Bool) (a n : Int) (K : Value → AHeap → Prop) : Prop := bodyK cRoom (codeOf Tryd.f77) Tryd.f77.results.toList [.pointer (some ⟨0, 0, some 0⟩), .int .i64 a, .int .i64 n] (memH m ty ty2 mv mv2) K
noncomputable def cStore : FCfg := mkG Tryd.prog G0 tS 43 [(0, [0, 1, 2, 10]), (1, []), (2, [0, 1, 2, 18]), (3, [0, 1, 2]), (4, [0]), (5, [])] [] [] [] [] [] 40 2
noncomputable def bStore (m : Mem) (ty ty2 : TypeId) (mv mv2 : Bool) (a w : Int) (K : Value → AHeap → Prop) : Prop := bodyK cStore (codeOf Tryd.f72) Tryd.f72.results.toList [.pointer (some ⟨0, 0, some 0⟩), .int .i64 a, .int .u32 w] (memH m ty ty2 mv mv2) K
noncomputable def cCount : FCfg := mkG Tryd.prog G0 tE 27 [(0, [0, 4]), (1, [0, 4, 5]), (2, []), (3, [0, 16]), (4, [])] [] [] [] [] [] 40 2
noncomputable def bCount (m : Mem) (ty ty2 : TypeId) (mv mv2 : Bool) (k : Int) (K : Value → AHeap → Prop) : Prop := bodyK cCount (codeOf Tryd.f76) Tryd.f76.results.toList [.pointer (some ⟨0, 0, some 0⟩), .int .i64 k] (memH m ty ty2 mv mv2) K
noncomputable def cThere : FCfg := mkG Tryd.prog G0 tE 16 [(0, [0, 1]), (1, [4])] [] [] [] [] [] 40 2
noncomputable def bThere (m : Mem) (ty ty2 : TypeId) (mv mv2 : Bool) (a : Int) (K : Value → AHeap → Prop) : Prop := bodyK cThere (codeOf Tryd.f114) Tryd.f114.results.toList [.pointer (some ⟨0, 0, some 0⟩), .int .i64 a] (memH m ty ty2 mv mv2) K
noncomputable def cStoreC : FCfg := mkG Tryd.prog G0 tE 42 [(0, [0, 1, 2, 10]), (1, []), (2, [0]), (3, [0]), (4, [0, 34]), (5, [])] [] [] [] [] [] 40 2
noncomputable def bStoreC (m : Mem) (ty ty2 : TypeId) (mv mv2 : Bool) (a c : Int) (K : Value → AHeap → Prop) : Prop := bodyK cStoreC (codeOf Tryd.f115) Tryd.f115.results.toList [.pointer (some ⟨0, 0, some 0⟩), .int .i64 a, .int .u64 c] (memH m ty ty2 mv mv2) K
noncomputable def cFit : FCfg := mkG Tryd.prog G0 tE 34 [(0, [0, 1, 2]), (1, [6])] [] [] [] [] [] 40 2
noncomputable def bFit (m : Mem) (ty ty2 : TypeId) (mv mv2 : Bool) (a n : Int) (K : Value → AHeap → Prop) : Prop := bodyK cFit (codeOf Tryd.f117) Tryd.f117.results.toList [.pointer (some ⟨0, 0, some 0⟩), .int .i64 a, .int .i64 n] (memH m ty ty2 mv mv2) K
theorem bChk_eq (m : Mem) (ty ty2 : TypeId) (mv mv2 : Bool) (a : Int) (K : Value → AHeap → Prop) : bChk m ty ty2 mv mv2 a K = (cond (decide ((a < (0 : Int)))) (K (Value.int IntKind.i64 (2 : Int)) (memH m ty ty2 mv mv2)) (∀ x1 : Int, ((x1 = (((Mem.n m) : Nat) : Int)) → (cond (decide ((a ≥ x1))) (K (Value.int IntKind.i64 (2 : Int)) (memH m ty ty2 mv mv2)) (K (Value.int IntKind.i64 (0 : Int)) (memH m ty ty2 mv mv2)))))) := by
  kernel_rfl
theorem bRoom_eq (m : Mem) (ty ty2 : TypeId) (mv mv2 : Bool) (a n : Int) (K : Value → AHeap → Prop) : bRoom m ty ty2 mv mv2 a n K = (cond (decide ((a < (0 : Int)))) (K (Value.int IntKind.i64 (2 : Int)) (memH m ty ty2 mv mv2)) (∀ x1 : Int, ((x1 = (((Mem.n m) : Nat) : Int)) → (cond (decide ((a > x1))) (K (Value.int IntKind.i64 (2 : Int)) (memH m ty ty2 mv mv2)) (cond (decide ((n < (0 : Int)))) (K (Value.int IntKind.i64 (2 : Int)) (memH m ty ty2 mv mv2)) (∀ x2 : Int, ((x2 = (((Mem.n m) : Nat) : Int)) → (∀ x3 : Int, ((x3 = (iSub IntKind.i64 x2 a)) → (∀ x4 : Int, ((x4 = (iMul IntKind.i64 (4 : Int) x3)) → (cond (decide ((n > x4))) (K (Value.int IntKind.i64 (2 : Int)) (memH m ty ty2 mv mv2)) (K (Value.int IntKind.i64 (0 : Int)) (memH m ty ty2 mv mv2)))))))))))))) := by
  kernel_rfl
theorem bStore_eq (m : Mem) (ty ty2 : TypeId) (mv mv2 : Bool) (a w : Int) (K : Value → AHeap → Prop) : bStore m ty ty2 mv mv2 a w K = (cond (decide (((m).fuse = (0 : Int)))) (K Go.undef [(AObj.cells Bool.false [(Value.slice (Option.some (Addr.mk (1 : Nat) 0 (Option.some 0))) (Mem.n m) (2 : Nat)), (Value.int IntKind.i64 (Mem.safe m)), (Value.int IntKind.i64 (Mem.scrub m)), (Value.int IntKind.i64 (Mem.fuse m)), (Value.bool Bool.true), (Value.int IntKind.i64 (Mem.fx m)), (Value.int IntKind.i64 (Mem.lo m)), (Value.int IntKind.i64 (Mem.st m))] ty mv), (AObj.cells Bool.true (Mem.W m) ty2 mv2)]) (cond (decide (((m).fuse > (0 : Int)))) (∀ x5 : Int, ((x5 = (iSub IntKind.i64 (m).fuse (1 : Int))) → ((((0 : Int) ≤ w) ∧ ((w < (4294967296 : Int)) ∧ (∀ x6 : Int, ((x6 = (((Ham.encN (Int.toNat w)) : Nat) : Int)) → (cond ((decide (((0 : Int) ≤ a))) && (decide ((a < (((Mem.n m) : Nat) : Int))))) (cond (decide ((((Int.toNat a) + (1 : Nat) : Nat) ≤ (List.length (Mem.W m))))) (∀ x7 : Int, ((x7 = (iAdd IntKind.i64 (m).st (1 : Int))) → (K Go.undef [(AObj.cells Bool.false [(Value.slice (Option.some (Addr.mk (1 : Nat) 0 (Option.some 0))) (Mem.n m) (2 : Nat)), (Value.int IntKind.i64 (Mem.safe m)), (Value.int IntKind.i64 (Mem.scrub m)), (Value.int IntKind.i64 x5), (Value.bool (Mem.bl m)), (Value.int IntKind.i64 (Mem.fx m)), (Value.int IntKind.i64 (Mem.lo m)), (Value.int IntKind.i64 x7)] ty mv), (AObj.cells Bool.true (List.set (Mem.W m) (Int.toNat a) (Value.int IntKind.u64 x6)) ty2 mv2)]))) False) False))))) ∧ (((0 : Int) ≤ w) ∧ ((w < (4294967296 : Int)) ∧ (∀ x8 : Int, ((x8 = (((Ham.encN (Int.toNat w)) : Nat) : Int)) → (cond ((decide (((0 : Int) ≤ a))) && (decide ((a < (((Mem.n m) : Nat) : Int))))) (cond (decide ((((Int.toNat a) + (1 : Nat) : Nat) ≤ (List.length (Mem.W m))))) (∀ x9 : Int, ((x9 = (iAdd IntKind.i64 (m).st (1 : Int))) → (K Go.undef [(AObj.cells Bool.false [(Value.slice (Option.some (Addr.mk (1 : Nat) 0 (Option.some 0))) (Mem.n m) (2 : Nat)), (Value.int IntKind.i64 (Mem.safe m)), (Value.int IntKind.i64 (Mem.scrub m)), (Value.int IntKind.i64 x5), (Value.bool (Mem.bl m)), (Value.int IntKind.i64 (Mem.fx m)), (Value.int IntKind.i64 (Mem.lo m)), (Value.int IntKind.i64 x9)] ty mv), (AObj.cells Bool.true (List.set (Mem.W m) (Int.toNat a) (Value.int IntKind.u64 x8)) ty2 mv2)]))) False) False)))))))) ((((0 : Int) ≤ w) ∧ ((w < (4294967296 : Int)) ∧ (∀ x1 : Int, ((x1 = (((Ham.encN (Int.toNat w)) : Nat) : Int)) → (cond ((decide (((0 : Int) ≤ a))) && (decide ((a < (((Mem.n m) : Nat) : Int))))) (cond (decide ((((Int.toNat a) + (1 : Nat) : Nat) ≤ (List.length (Mem.W m))))) (∀ x2 : Int, ((x2 = (iAdd IntKind.i64 (m).st (1 : Int))) → (K Go.undef [(AObj.cells Bool.false [(Value.slice (Option.some (Addr.mk (1 : Nat) 0 (Option.some 0))) (Mem.n m) (2 : Nat)), (Value.int IntKind.i64 (Mem.safe m)), (Value.int IntKind.i64 (Mem.scrub m)), (Value.int IntKind.i64 (Mem.fuse m)), (Value.bool (Mem.bl m)), (Value.int IntKind.i64 (Mem.fx m)), (Value.int IntKind.i64 (Mem.lo m)), (Value.int IntKind.i64 x2)] ty mv), (AObj.cells Bool.true (List.set (Mem.W m) (Int.toNat a) (Value.int IntKind.u64 x1)) ty2 mv2)]))) False) False))))) ∧ (((0 : Int) ≤ w) ∧ ((w < (4294967296 : Int)) ∧ (∀ x3 : Int, ((x3 = (((Ham.encN (Int.toNat w)) : Nat) : Int)) → (cond ((decide (((0 : Int) ≤ a))) && (decide ((a < (((Mem.n m) : Nat) : Int))))) (cond (decide ((((Int.toNat a) + (1 : Nat) : Nat) ≤ (List.length (Mem.W m))))) (∀ x4 : Int, ((x4 = (iAdd IntKind.i64 (m).st (1 : Int))) → (K Go.undef [(AObj.cells Bool.false [(Value.slice (Option.some (Addr.mk (1 : Nat) 0 (Option.some 0))) (Mem.n m) (2 : Nat)), (Value.int IntKind.i64 (Mem.safe m)), (Value.int IntKind.i64 (Mem.scrub m)), (Value.int IntKind.i64 (Mem.fuse m)), (Value.bool (Mem.bl m)), (Value.int IntKind.i64 (Mem.fx m)), (Value.int IntKind.i64 (Mem.lo m)), (Value.int IntKind.i64 x4)] ty mv), (AObj.cells Bool.true (List.set (Mem.W m) (Int.toNat a) (Value.int IntKind.u64 x3)) ty2 mv2)]))) False) False)))))))) := by
  kernel_rfl
theorem bCount_eq (m : Mem) (ty ty2 : TypeId) (mv mv2 : Bool) (k : Int) (K : Value → AHeap → Prop) : bCount m ty ty2 mv mv2 k K = (cond (decide ((k = (1 : Int)))) (∀ x2 : Int, ((x2 = (iAdd IntKind.i64 (m).fx (1 : Int))) → (K Go.undef [(AObj.cells Bool.false [(Value.slice (Option.some (Addr.mk (1 : Nat) 0 (Option.some 0))) (Mem.n m) (2 : Nat)), (Value.int IntKind.i64 (Mem.safe m)), (Value.int IntKind.i64 (Mem.scrub m)), (Value.int IntKind.i64 (Mem.fuse m)), (Value.bool (Mem.bl m)), (Value.int IntKind.i64 x2), (Value.int IntKind.i64 (Mem.lo m)), (Value.int IntKind.i64 (Mem.st m))] ty mv), (AObj.cells Bool.true (Mem.W m) ty2 mv2)]))) (cond (decide ((k = (2 : Int)))) (∀ x1 : Int, ((x1 = (iAdd IntKind.i64 (m).lo (1 : Int))) → (K Go.undef [(AObj.cells Bool.false [(Value.slice (Option.some (Addr.mk (1 : Nat) 0 (Option.some 0))) (Mem.n m) (2 : Nat)), (Value.int IntKind.i64 (Mem.safe m)), (Value.int IntKind.i64 (Mem.scrub m)), (Value.int IntKind.i64 (Mem.fuse m)), (Value.bool (Mem.bl m)), (Value.int IntKind.i64 (Mem.fx m)), (Value.int IntKind.i64 x1), (Value.int IntKind.i64 (Mem.st m))] ty mv), (AObj.cells Bool.true (Mem.W m) ty2 mv2)]))) (K Go.undef (memH m ty ty2 mv mv2)))) := by
  kernel_rfl
theorem bThere_eq (m : Mem) (ty ty2 : TypeId) (mv mv2 : Bool) (a : Int) (K : Value → AHeap → Prop) : bThere m ty ty2 mv mv2 a K = (cond (decide ((a ≥ (0 : Int)))) (∀ x1 : Int, ((x1 = (((Mem.n m) : Nat) : Int)) → (K (Value.bool (decide ((a < x1)))) (memH m ty ty2 mv mv2)))) (K (Value.bool Bool.false) (memH m ty ty2 mv mv2))) := by
  kernel_rfl
theorem bStoreC_eq (m : Mem) (ty ty2 : TypeId) (mv mv2 : Bool) (a c : Int) (K : Value → AHeap → Prop) : bStoreC m ty ty2 mv mv2 a c K = (cond (decide (((m).fuse = (0 : Int)))) (K Go.undef [(AObj.cells Bool.false [(Value.slice (Option.some (Addr.mk (1 : Nat) 0 (Option.some 0))) (Mem.n m) (2 : Nat)), (Value.int IntKind.i64 (Mem.safe m)), (Value.int IntKind.i64 (Mem.scrub m)), (Value.int IntKind.i64 (Mem.fuse m)), (Value.bool Bool.true), (Value.int IntKind.i64 (Mem.fx m)), (Value.int IntKind.i64 (Mem.lo m)), (Value.int IntKind.i64 (Mem.st m))] ty mv), (AObj.cells Bool.true (Mem.W m) ty2 mv2)]) (cond ((decide (((0 : Int) ≤ a))) && (decide ((a < (((Mem.n m) : Nat) : Int))))) (cond (decide ((((Int.toNat a) + (1 : Nat) : Nat) ≤ (List.length (Mem.W m))))) (∀ x1 : Int, ((x1 = (iAdd IntKind.i64 (m).st (1 : Int))) → (cond (decide (((m).fuse > (0 : Int)))) (∀ x2 : Int, ((x2 = (iSub IntKind.i64 (m).fuse (1 : Int))) → (K Go.undef [(AObj.cells Bool.false [(Value.slice (Option.some (Addr.mk (1 : Nat) 0 (Option.some 0))) (Mem.n m) (2 : Nat)), (Value.int IntKind.i64 (Mem.safe m)), (Value.int IntKind.i64 (Mem.scrub m)), (Value.int IntKind.i64 x2), (Value.bool (Mem.bl m)), (Value.int IntKind.i64 (Mem.fx m)), (Value.int IntKind.i64 (Mem.lo m)), (Value.int IntKind.i64 x1)] ty mv), (AObj.cells Bool.true (List.set (Mem.W m) (Int.toNat a) (Value.int IntKind.u64 c)) ty2 mv2)]))) (K Go.undef [(AObj.cells Bool.false [(Value.slice (Option.some (Addr.mk (1 : Nat) 0 (Option.some 0))) (Mem.n m) (2 : Nat)), (Value.int IntKind.i64 (Mem.safe m)), (Value.int IntKind.i64 (Mem.scrub m)), (Value.int IntKind.i64 (Mem.fuse m)), (Value.bool (Mem.bl m)), (Value.int IntKind.i64 (Mem.fx m)), (Value.int IntKind.i64 (Mem.lo m)), (Value.int IntKind.i64 x1)] ty mv), (AObj.cells Bool.true (List.set (Mem.W m) (Int.toNat a) (Value.int IntKind.u64 c)) ty2 mv2)])))) False) False)) := by
  kernel_rfl
theorem bFit_eq (m : Mem) (ty ty2 : TypeId) (mv mv2 : Bool) (a n : Int) (K : Value → AHeap → Prop) : bFit m ty ty2 mv mv2 a n K = (cond (decide ((a ≥ (0 : Int)))) (cond (decide ((n ≥ (0 : Int)))) (∀ x1 : Int, ((x1 = (((Mem.n m) : Nat) : Int)) → (cond (decide ((a ≤ x1))) (∀ x2 : Int, ((x2 = (((Mem.n m) : Nat) : Int)) → (∀ x3 : Int, ((x3 = (iSub IntKind.i64 x2 a)) → (∀ x4 : Int, ((x4 = (iMul IntKind.i64 (4 : Int) x3)) → (K (Value.bool (decide ((n ≤ x4)))) (memH m ty ty2 mv mv2)))))))) (K (Value.bool Bool.false) (memH m ty ty2 mv mv2))))) (K (Value.bool Bool.false) (memH m ty ty2 mv mv2))) (K (Value.bool Bool.false) (memH m ty ty2 mv mv2))) := by
  kernel_rfl
end Go.Am.Mem
