/-
  Patches: committed, PatchesWhole, PatchesNone: what their texts compute. Own work.
-/
import Derived.Test.YtecocfcaeenaoaaDoorPatX
namespace Go.Am.Pat
open Go Go.Am Go.Am.Ham Go.Am.Mem Go.Proofs
set_option maxRecDepth 100000

noncomputable def cPick : FCfg := mkG Tryd.prog G0 [] 15 [(0, [0, 1]), (1, [1, 5]), (2, [1, 5, 10]), (3, [5]), (4, [4])] [] [] [] [] [] 40 0
noncomputable def bPick (n m : Int) (K : Value → AHeap → Prop) : Prop := bodyK cPick (codeOf Tryd.f26) Tryd.f26.results.toList [.int .i64 n, .int .i64 m] [] K
def sPick : Spec := fun args h K => match args, h with
  | [.int .i64 n, .int .i64 m], [] => 0 < m ∧ m < 2 ^ 62 ∧ ∀ x, x = n % m → K (.int .i64 x) []
  | _, _ => False
/-- load, where it succeeds -/
def sLoadT : Spec := fun args h K => match args with
  | [.pointer (some ⟨0, 0, some 0⟩), .int .u32 id, .string d] => asSto h (fun s m t => OkS s ∧ OkM m ∧ Fits s m ∧ U32 id ∧ ((d.size : Nat) : Int) ≤ s.size ∧ fullB s m = false ∧ ldOk s m d = true ∧ ∀ m', m' = ld6 s m id d → K (.bool true) (stA s m' t)) (fun _ _ _ _ => False)
  | _ => False
theorem iLoadT (args h K) (hk : sLoadT args h K) : sLoad args h K := by
  unfold sLoadT at hk
  unfold sLoad
  split at hk
  · rcases asSto_elim hk with ⟨s, m, t, rfl, o, hm, f, ui, hd, h1, h2, hk⟩ | ⟨s, m, g, t, rfl, hk⟩
    · exact ⟨o, hm, f, ui, hd, fun _ => hk, fun h => (by rw [h1] at h; cases h), fun _ h => (by rw [h2] at h; cases h)⟩
    · exact hk.elim
  · exact hk.elim
/-- load, where a patch may be staged and not loaded -/
def sLoad2 : Spec := fun args h K => match args with
  | [.pointer (some ⟨0, 0, some 0⟩), .int .u32 id, .string d] => asSto h (fun s m t => OkS s ∧ OkM m ∧ Fits s m ∧ U32 id ∧ ((d.size : Nat) : Int) ≤ s.size ∧ fullB s m = false ∧ (ldOk s m d = true → ∀ m', m' = ld6 s m id d → K (.bool true) (stA s m' t)) ∧
      (ldOk s m d = false → ∀ m', m' = ldF s m d → ∀ g, g = ldG s m id d → K (.bool false) (stB' s m' g (tyB t)))) (fun _ _ _ _ => False)
  | _ => False
theorem iLoad2 (args h K) (hk : sLoad2 args h K) : sLoad args h K := by
  unfold sLoad2 at hk
  unfold sLoad
  split at hk
  · rcases asSto_elim hk with ⟨s, m, t, rfl, o, hm, f, ui, hd, h1, h2, hk⟩ | ⟨s, m, g, t, rfl, hk⟩
    · exact ⟨o, hm, f, ui, hd, h2, fun h => (by rw [h1] at h; cases h), fun _ => hk⟩
    · exact hk.elim
  · exact hk.elim
def sPNewT : Spec := fun args h K => match args with
  | [.pointer (some ⟨0, 0, some 0⟩), .int .i64 b, .int .i64 z] => asMem h fun m ty ty2 mv mv2 => OkM m ∧ newOk m b z = true ∧
      ∀ s, s = Sto.mk b z → OkS s → K (.tuple ⟨[ptr 2, .int .i64 0]⟩) [.cells false (memC m) ty mv, .cells true m.W ty2 mv2, .cells false [ptr 0, .int .i64 s.base, .int .i64 s.size, .pointer none] 59 false]
  | _ => False
theorem iPNewT (args h K) (hk : sPNewT args h K) : sPNew args h K := by
  unfold sPNewT at hk
  unfold sPNew
  split at hk
  · replace hk := asMem_elim hk
    obtain ⟨m, ty, ty2, mv, mv2, rfl, h1, h2, hk⟩ := hk
    exact ⟨h1, fun _ => hk, fun h => (by rw [h2] at h; cases h)⟩
  · exact hk.elim
def sNewT : Spec := fun args h K => match args, h with
  | [.int .i64 n, .int .i64 s], [] => newB n s = true ∧ ∀ m', m' = newM n.toNat s → K (.tuple #[.pointer (some ⟨0, 0, some 0⟩), .int .i64 0]) (memH m' 66 83 false false)
  | _, _ => False
theorem iNewT (args h K) (hk : sNewT args h K) : sNewX 66 args h K := by
  unfold sNewT at hk
  unfold sNewX
  split at hk
  · obtain ⟨h1, hk⟩ := hk
    exact ⟨fun _ => hk, fun h => (by rw [h1] at h; cases h)⟩
  · exact hk.elim
def tC2 : List (Nat × Spec) := [(13, sLoadT), (12, sPNewT), (10, sNewT), (11, sWords)]
theorem tC2_ok : AllOk Tryd.prog G0 tC2 := ⟨weaken okLoad iLoadT, weaken okPNew iPNewT, weaken (weaken okNew (iNew _)) iNewT, okWords, trivial⟩
noncomputable def cCom : FCfg := mkG Tryd.prog G0 tC2 39 [(0, [0, 1]), (1, [0, 1, 7]), (2, [0, 1, 8, 9]), (3, [1, 8, 9, 10, 11]), (4, [1, 8, 10, 33]), (5, [4, 5, 6]), (6, [4, 5, 6])] [] [] [] [] [] 40 0
noncomputable def bCom (z : Int) (d : ByteArray) (K : Value → AHeap → Prop) : Prop := bodyK cCom (codeOf Tryd.f18) Tryd.f18.results.toList [.int .i64 z, .string d] [] K
/-- the memory of a new store that has a patch -/
def comM (z : Int) (d : ByteArray) : Mem := ld6 ⟨1, z⟩ (newM (wordsN z + 3).toNat (wordsN z + 2)) 1 d
def memS (m : Mem) (b z : Int) : AHeap := [.cells false (memC m) 66 false, .cells true m.W 83 false, .cells false [ptr 0, .int .i64 b, .int .i64 z, .pointer none] 59 false]
def sCom : Spec := fun args h K => match args, h with
  | [.int .i64 z, .string d], [] => 4 ≤ z ∧ z ≤ 8192 ∧ ((d.size : Nat) : Int) ≤ z ∧ ∀ m, m = comM z d → K (.tuple ⟨[ptr 0, ptr 2, .bool true]⟩) (memS m 1 z)
  | _, _ => False
def tWh : List (Nat × Spec) := [(13, sLoad2), (14, sIs), (18, sCom), (9, sAwk), (12, sPNewT), (26, sPick), (27, sFuseX), (28, sBlown), (29, sReset)]
noncomputable def cWh : FCfg := mkG Tryd.prog G0 tWh 116 [(0, [0, 1, 2]), (1, [0, 1, 2, 22]), (2, [6]), (3, [0, 1, 2, 7]), (4, [0, 1, 2, 7, 8, 9, 10]), (5, [0, 1, 2, 7, 8, 9, 43]), (6, [6]), (7, [0, 1, 2, 7, 8, 9, 11]), (8, [0, 1, 7, 8, 9, 11, 12]), (9, [0, 1, 7, 8, 9, 11, 12, 67]), (10, [6]), (11, [0, 1, 7, 8, 11, 12, 80]), (12, [6]), (13, [0, 1, 7, 8, 11, 12]), (14, [0, 1, 11, 12, 13, 14]), (15, [0, 1, 11, 12, 13, 90]), (16, [6]), (17, [0, 1, 13, 93]), (18, [6]), (19, [6])] [] [] [] [] [] 40 0
noncomputable def bWh (a b : ByteArray) (n : Int) (K : Value → AHeap → Prop) : Prop := bodyK cWh (codeOf Tryd.f8) Tryd.f8.results.toList [.string a, .string b, .int .i64 n] [] K
theorem bPick_eq (n m : Int) (K : Value → AHeap → Prop) : bPick n m K = (cond (!(decide ((m = (0 : Int))))) (∀ x1 : Int, ((x1 = (Int.tmod n m)) → (cond (decide ((x1 < (0 : Int)))) (∀ x2 : Int, ((x2 = (iAdd IntKind.i64 x1 m)) → (K (Value.int IntKind.i64 x2) []))) (K (Value.int IntKind.i64 x1) [])))) False) := by
  kernel_rfl
theorem bCom_eq (z : Int) (d : ByteArray) (K : Value → AHeap → Prop) : bCom z d K = (∀ x1 : Int, ((x1 = (wordsN z)) → (∀ x2 : Int, ((x2 = (iAdd IntKind.i64 x1 (3 : Int))) → (∀ x3 : Int, ((x3 = (iAdd IntKind.i64 x1 (2 : Int))) → (((Mem.newB x2 x3) = Bool.true) ∧ (∀ x4 : Mem.Mem, ((x4 = (Mem.newM (Int.toNat x2) x3)) → (∀ x5 : Int, ((x5 = (0 : Int)) → ((Mem.OkM x4) ∧ (((newOk x4 (1 : Int) z) = Bool.true) ∧ (∀ x6 : Sto, ((x6 = (Sto.mk (1 : Int) z)) → ((OkS x6) → (∀ x7 : Int, ((x7 = (0 : Int)) → (cond (!(decide ((x5 = (0 : Int))))) (K (Value.tuple (Array.mk [(Value.pointer Option.none), (Value.pointer Option.none), (Value.bool Bool.false)])) []) (cond (!(decide ((x7 = (0 : Int))))) (K (Value.tuple (Array.mk [(Value.pointer Option.none), (Value.pointer Option.none), (Value.bool Bool.false)])) []) ((OkS x6) ∧ ((Mem.OkM x4) ∧ ((Fits x6 x4) ∧ ((U32 (1 : Int)) ∧ (((((ByteArray.size d) : Nat) : Int) ≤ (Sto.size x6)) ∧ (((fullB x6 x4) = Bool.false) ∧ (((ldOk x6 x4 d) = Bool.true) ∧ (∀ x8 : Mem.Mem, ((x8 = (ld6 x6 x4 (1 : Int) d)) → (K (Value.tuple (Array.mk [(ptr 0), (ptr (2 : Nat)), (Value.bool Bool.true)])) (memS x8 (Sto.base x6) (Sto.size x6)))))))))))))))))))))))))))))))) := by
  kernel_rfl
theorem bWh_eq (a b : ByteArray) (n : Int) (K : Value → AHeap → Prop) : bWh a b n K = (∀ x1 : Int, ((x1 = (((ByteArray.size a) : Nat) : Int)) → (cond (decide ((x1 > (300 : Int)))) (K (Value.bool Bool.true) []) (∀ x2 : Int, ((x2 = (((ByteArray.size b) : Nat) : Int)) → (cond (decide ((x2 > (300 : Int)))) (K (Value.bool Bool.true) []) (∀ x3 : Int, ((x3 = (((ByteArray.size a) : Nat) : Int)) → (∀ x4 : Int, ((x4 = (((ByteArray.size b) : Nat) : Int)) → (∀ x5 : Int, ((x5 = (ite (x4 > (ite (x3 > (4 : Int)) x3 (4 : Int))) x4 (ite (x3 > (4 : Int)) x3 (4 : Int)))) → (((4 : Int) ≤ x5) ∧ ((x5 ≤ (8192 : Int)) ∧ (((((ByteArray.size a) : Nat) : Int) ≤ x5) ∧ (∀ x6 : Mem.Mem, ((x6 = (comM x5 a)) → ((OkS (Sto.mk (1 : Int) x5)) ∧ ((Mem.OkM x6) ∧ ((Fits (Sto.mk (1 : Int) x5) x6) ∧ (∀ x7 : Mem.Mem, ((x7 = (acM (Sto.mk (1 : Int) x5) x6)) → (∀ x8 : Bool, ((x8 = (isB (Sto.mk (1 : Int) x5) x6 (1 : Int) a (1 : Int))) → (cond (!x8) (K (Value.bool Bool.false) []) (∀ x9 : Int, ((x9 = (((ByteArray.size b) : Nat) : Int)) → (∀ x10 : Int, ((x10 = (iAdd IntKind.i64 x9 (3 : Int))) → (∀ x11 : Int, ((x11 = (IntKind.wrap IntKind.i64 (Int.tdiv x10 (4 : Int)))) → (∀ x12 : Int, ((x12 = (iAdd IntKind.i64 (6 : Int) x11)) → (∀ x13 : Int, ((x13 = (iAdd IntKind.i64 x12 (2 : Int))) → (((0 : Int) < x13) ∧ ((x13 < (4611686018427387904 : Int)) ∧ (∀ x14 : Int, ((x14 = (Int.emod n x13)) → (∀ x15 : Int, ((x15 = x14) → ((Mem.OkM x7) ∧ (∀ x16 : Mem.Mem, ((x16 = (Mem.fuseS x7 x15)) → (∀ x17 : Int, ((x17 = (((Mem.fuseR x15) : Nat) : Int)) → (cond (!(decide ((x17 = (0 : Int))))) (K (Value.bool Bool.false) []) ((OkS (Sto.mk (1 : Int) x5)) ∧ ((Mem.OkM x16) ∧ ((Fits (Sto.mk (1 : Int) x5) x16) ∧ ((U32 (2 : Int)) ∧ (((((ByteArray.size b) : Nat) : Int) ≤ x5) ∧ (((fullB (Sto.mk (1 : Int) x5) x16) = Bool.false) ∧ ((((ldOk (Sto.mk (1 : Int) x5) x16 b) = Bool.true) → (∀ x18 : Mem.Mem, ((x18 = (ld6 (Sto.mk (1 : Int) x5) x16 (2 : Int) b)) → (cond (decide ((x15 ≥ x12))) (cond (Mem.Mem.bl x18) (K (Value.bool Bool.false) []) ((OkS (Sto.mk (1 : Int) x5)) ∧ ((Mem.OkM x18) ∧ ((Fits (Sto.mk (1 : Int) x5) x18) ∧ (∀ x31 : Mem.Mem, ((x31 = (acM (Sto.mk (1 : Int) x5) x18)) → (∀ x32 : Bool, ((x32 = (isB (Sto.mk (1 : Int) x5) x18 (2 : Int) b (2 : Int))) → (cond (!x32) (K (Value.bool Bool.false) []) ((Mem.OkM x31) ∧ (∀ x33 : Mem.Mem, ((x33 = (Mem.resetM x31)) → ((Mem.OkM x33) ∧ (((newOk x33 (1 : Int) x5) = Bool.true) ∧ (∀ x34 : Sto, ((x34 = (Sto.mk (1 : Int) x5)) → ((OkS x34) → (∀ x35 : Int, ((x35 = (0 : Int)) → (cond (!(decide ((x35 = (0 : Int))))) (K (Value.bool Bool.false) []) (cond (decide ((x15 < x12))) ((OkS x34) ∧ ((Mem.OkM x33) ∧ ((Fits x34 x33) ∧ (∀ x38 : Mem.Mem, ((x38 = (acM x34 x33)) → (∀ x39 : Bool, ((x39 = (isB x34 x33 (1 : Int) a (1 : Int))) → (cond x39 ((OkS x34) ∧ ((Mem.OkM x38) ∧ ((Fits x34 x38) ∧ ((U32 (3 : Int)) ∧ (((((ByteArray.size b) : Nat) : Int) ≤ (Sto.size x34)) ∧ (((fullB x34 x38) = Bool.false) ∧ ((((ldOk x34 x38 b) = Bool.true) → (∀ x40 : Mem.Mem, ((x40 = (ld6 x34 x38 (3 : Int) b)) → ((OkS x34) ∧ ((Mem.OkM x40) ∧ ((Fits x34 x40) ∧ (∀ x41 : Mem.Mem, ((x41 = (acM x34 x40)) → (∀ x42 : Bool, ((x42 = (isB x34 x40 (3 : Int) b (2 : Int))) → (cond x42 (K (Value.bool Bool.true) []) (K (Value.bool Bool.false) [])))))))))))) ∧ (((ldOk x34 x38 b) = Bool.false) → (∀ x43 : Mem.Mem, ((x43 = (ldF x34 x38 b)) → (∀ x44 : Stg, ((x44 = (ldG x34 x38 (3 : Int) b)) → (K (Value.bool Bool.false) []))))))))))))) (K (Value.bool Bool.false) []))))))))) ((OkS x34) ∧ ((Mem.OkM x33) ∧ ((Fits x34 x33) ∧ (∀ x36 : Mem.Mem, ((x36 = (acM x34 x33)) → (∀ x37 : Bool, ((x37 = (isB x34 x33 (2 : Int) b (2 : Int))) → (cond x37 (K (Value.bool Bool.true) []) (K (Value.bool Bool.false) [])))))))))))))))))))))))))))))) ((Mem.OkM x18) ∧ (∀ x19 : Mem.Mem, ((x19 = (Mem.resetM x18)) → ((Mem.OkM x19) ∧ (((newOk x19 (1 : Int) x5) = Bool.true) ∧ (∀ x20 : Sto, ((x20 = (Sto.mk (1 : Int) x5)) → ((OkS x20) → (∀ x21 : Int, ((x21 = (0 : Int)) → (cond (!(decide ((x21 = (0 : Int))))) (K (Value.bool Bool.false) []) (cond (decide ((x15 < x12))) ((OkS x20) ∧ ((Mem.OkM x19) ∧ ((Fits x20 x19) ∧ (∀ x24 : Mem.Mem, ((x24 = (acM x20 x19)) → (∀ x25 : Bool, ((x25 = (isB x20 x19 (1 : Int) a (1 : Int))) → (cond x25 ((OkS x20) ∧ ((Mem.OkM x24) ∧ ((Fits x20 x24) ∧ ((U32 (3 : Int)) ∧ (((((ByteArray.size b) : Nat) : Int) ≤ (Sto.size x20)) ∧ (((fullB x20 x24) = Bool.false) ∧ ((((ldOk x20 x24 b) = Bool.true) → (∀ x26 : Mem.Mem, ((x26 = (ld6 x20 x24 (3 : Int) b)) → ((OkS x20) ∧ ((Mem.OkM x26) ∧ ((Fits x20 x26) ∧ (∀ x27 : Mem.Mem, ((x27 = (acM x20 x26)) → (∀ x28 : Bool, ((x28 = (isB x20 x26 (3 : Int) b (2 : Int))) → (cond x28 (K (Value.bool Bool.true) []) (K (Value.bool Bool.false) [])))))))))))) ∧ (((ldOk x20 x24 b) = Bool.false) → (∀ x29 : Mem.Mem, ((x29 = (ldF x20 x24 b)) → (∀ x30 : Stg, ((x30 = (ldG x20 x24 (3 : Int) b)) → (K (Value.bool Bool.false) []))))))))))))) (K (Value.bool Bool.false) []))))))))) ((OkS x20) ∧ ((Mem.OkM x19) ∧ ((Fits x20 x19) ∧ (∀ x22 : Mem.Mem, ((x22 = (acM x20 x19)) → (∀ x23 : Bool, ((x23 = (isB x20 x19 (2 : Int) b (2 : Int))) → (cond x23 (K (Value.bool Bool.true) []) (K (Value.bool Bool.false) []))))))))))))))))))))))))) ∧ (((ldOk (Sto.mk (1 : Int) x5) x16 b) = Bool.false) → (∀ x45 : Mem.Mem, ((x45 = (ldF (Sto.mk (1 : Int) x5) x16 b)) → (∀ x46 : Stg, ((x46 = (ldG (Sto.mk (1 : Int) x5) x16 (2 : Int) b)) → (cond (decide ((x15 ≥ x12))) (K (Value.bool Bool.false) []) (cond (decide ((x15 ≥ x12))) (cond (Mem.Mem.bl x45) (K (Value.bool Bool.false) []) ((OkS (Sto.mk (1 : Int) x5)) ∧ ((Mem.OkM x45) ∧ ((Fits (Sto.mk (1 : Int) x5) x45) ∧ (∀ x59 : Mem.Mem, ((x59 = (acM (Sto.mk (1 : Int) x5) x45)) → (∀ x60 : Bool, ((x60 = (isB (Sto.mk (1 : Int) x5) x45 (2 : Int) b (2 : Int))) → (cond (!x60) (K (Value.bool Bool.false) []) ((Mem.OkM x59) ∧ (∀ x61 : Mem.Mem, ((x61 = (Mem.resetM x59)) → ((Mem.OkM x61) ∧ (((newOk x61 (1 : Int) x5) = Bool.true) ∧ (∀ x62 : Sto, ((x62 = (Sto.mk (1 : Int) x5)) → ((OkS x62) → (∀ x63 : Int, ((x63 = (0 : Int)) → (cond (!(decide ((x63 = (0 : Int))))) (K (Value.bool Bool.false) []) (cond (decide ((x15 < x12))) ((OkS x62) ∧ ((Mem.OkM x61) ∧ ((Fits x62 x61) ∧ (∀ x66 : Mem.Mem, ((x66 = (acM x62 x61)) → (∀ x67 : Bool, ((x67 = (isB x62 x61 (1 : Int) a (1 : Int))) → (cond x67 ((OkS x62) ∧ ((Mem.OkM x66) ∧ ((Fits x62 x66) ∧ ((U32 (3 : Int)) ∧ (((((ByteArray.size b) : Nat) : Int) ≤ (Sto.size x62)) ∧ (((fullB x62 x66) = Bool.false) ∧ ((((ldOk x62 x66 b) = Bool.true) → (∀ x68 : Mem.Mem, ((x68 = (ld6 x62 x66 (3 : Int) b)) → ((OkS x62) ∧ ((Mem.OkM x68) ∧ ((Fits x62 x68) ∧ (∀ x69 : Mem.Mem, ((x69 = (acM x62 x68)) → (∀ x70 : Bool, ((x70 = (isB x62 x68 (3 : Int) b (2 : Int))) → (cond x70 (K (Value.bool Bool.true) []) (K (Value.bool Bool.false) [])))))))))))) ∧ (((ldOk x62 x66 b) = Bool.false) → (∀ x71 : Mem.Mem, ((x71 = (ldF x62 x66 b)) → (∀ x72 : Stg, ((x72 = (ldG x62 x66 (3 : Int) b)) → (K (Value.bool Bool.false) []))))))))))))) (K (Value.bool Bool.false) []))))))))) ((OkS x62) ∧ ((Mem.OkM x61) ∧ ((Fits x62 x61) ∧ (∀ x64 : Mem.Mem, ((x64 = (acM x62 x61)) → (∀ x65 : Bool, ((x65 = (isB x62 x61 (2 : Int) b (2 : Int))) → (cond x65 (K (Value.bool Bool.true) []) (K (Value.bool Bool.false) [])))))))))))))))))))))))))))))) ((Mem.OkM x45) ∧ (∀ x47 : Mem.Mem, ((x47 = (Mem.resetM x45)) → ((Mem.OkM x47) ∧ (((newOk x47 (1 : Int) x5) = Bool.true) ∧ (∀ x48 : Sto, ((x48 = (Sto.mk (1 : Int) x5)) → ((OkS x48) → (∀ x49 : Int, ((x49 = (0 : Int)) → (cond (!(decide ((x49 = (0 : Int))))) (K (Value.bool Bool.false) []) (cond (decide ((x15 < x12))) ((OkS x48) ∧ ((Mem.OkM x47) ∧ ((Fits x48 x47) ∧ (∀ x52 : Mem.Mem, ((x52 = (acM x48 x47)) → (∀ x53 : Bool, ((x53 = (isB x48 x47 (1 : Int) a (1 : Int))) → (cond x53 ((OkS x48) ∧ ((Mem.OkM x52) ∧ ((Fits x48 x52) ∧ ((U32 (3 : Int)) ∧ (((((ByteArray.size b) : Nat) : Int) ≤ (Sto.size x48)) ∧ (((fullB x48 x52) = Bool.false) ∧ ((((ldOk x48 x52 b) = Bool.true) → (∀ x54 : Mem.Mem, ((x54 = (ld6 x48 x52 (3 : Int) b)) → ((OkS x48) ∧ ((Mem.OkM x54) ∧ ((Fits x48 x54) ∧ (∀ x55 : Mem.Mem, ((x55 = (acM x48 x54)) → (∀ x56 : Bool, ((x56 = (isB x48 x54 (3 : Int) b (2 : Int))) → (cond x56 (K (Value.bool Bool.true) []) (K (Value.bool Bool.false) [])))))))))))) ∧ (((ldOk x48 x52 b) = Bool.false) → (∀ x57 : Mem.Mem, ((x57 = (ldF x48 x52 b)) → (∀ x58 : Stg, ((x58 = (ldG x48 x52 (3 : Int) b)) → (K (Value.bool Bool.false) []))))))))))))) (K (Value.bool Bool.false) []))))))))) ((OkS x48) ∧ ((Mem.OkM x47) ∧ ((Fits x48 x47) ∧ (∀ x50 : Mem.Mem, ((x50 = (acM x48 x47)) → (∀ x51 : Bool, ((x51 = (isB x48 x47 (2 : Int) b (2 : Int))) → (cond x51 (K (Value.bool Bool.true) []) (K (Value.bool Bool.false) [])))))))))))))))))))))))))))))))))))))))))))))))))))))))))))))))))))))))))))))))))) := by
  kernel_rfl
end Go.Am.Pat
