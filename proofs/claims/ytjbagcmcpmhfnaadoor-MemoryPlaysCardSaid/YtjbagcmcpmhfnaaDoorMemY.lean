/-
  Memory: MemoryPlays's parts: what their texts compute. Own work.
-/
import Derived.Test.YtjbagcmcpmhfnaaDoorMemX
import Derived.Test.YtjbagcmcpmhfnaaDoorAmY
namespace Go.Am.Mem
open Go Go.Am Go.Am.Ham Go.Proofs
set_option maxRecDepth 100000

def memP (b : Nat) (m : Mem) : List Value := [.slice (some ⟨b, 0, some 0⟩) m.n 2, .int .i64 m.safe, .int .i64 m.scrub, .int .i64 m.fuse, .bool m.bl, .int .i64 m.fx, .int .i64 m.lo, .int .i64 m.st]
/-- Two memories that are alike, and what holds them. -/
def bothH (m : Mem) (tb ty ty2 ty3 ty4 : TypeId) (v1 v2 v3 v4 v5 : Bool) : AHeap := [.cells false [.pointer (some ⟨1, 0, some 0⟩), .pointer (some ⟨3, 0, some 0⟩)] tb v1, .cells false (memP 2 m) ty v2, .cells true m.W ty2 v3, .cells false (memP 4 m) ty3 v4, .cells true m.W ty4 v5]
def asBoth (h : AHeap) (k : Mem → Mem → TypeId → TypeId → TypeId → TypeId → TypeId → Bool → Bool → Bool → Bool → Bool → Prop) : Prop := match h with
  | [.cells false [.pointer (some ⟨1, 0, some 0⟩), .pointer (some ⟨3, 0, some 0⟩)] tb v1, .cells false [.slice (some ⟨2, 0, some 0⟩) n 2, .int .i64 safe, .int .i64 scrub, .int .i64 fuse, .bool bl, .int .i64 fx, .int .i64 lo, .int .i64 st] ty v2, .cells true W ty2 v3,
      .cells false [.slice (some ⟨4, 0, some 0⟩) n' 2, .int .i64 safe', .int .i64 scrub', .int .i64 fuse', .bool bl', .int .i64 fx', .int .i64 lo', .int .i64 st'] ty3 v4, .cells true W' ty4 v5] =>
    k ⟨W, n, safe, scrub, fuse, bl, fx, lo, st⟩ ⟨W', n', safe', scrub', fuse', bl', fx', lo', st'⟩ tb ty ty2 ty3 ty4 v1 v2 v3 v4 v5
  | _ => False
theorem asBoth_elim {h : AHeap} {k : Mem → Mem → TypeId → TypeId → TypeId → TypeId → TypeId → Bool → Bool → Bool → Bool → Bool → Prop} {p : Mem → TypeId → TypeId → TypeId → TypeId → TypeId → Bool → Bool → Bool → Bool → Bool → Prop}
    (hk : asBoth h k) (hp : ∀ m m2 tb ty ty2 ty3 ty4 v1 v2 v3 v4 v5, k m m2 tb ty ty2 ty3 ty4 v1 v2 v3 v4 v5 → m2 = m ∧ p m tb ty ty2 ty3 ty4 v1 v2 v3 v4 v5) : ∃ m tb ty ty2 ty3 ty4 v1 v2 v3 v4 v5, h = bothH m tb ty ty2 ty3 ty4 v1 v2 v3 v4 v5 ∧ p m tb ty ty2 ty3 ty4 v1 v2 v3 v4 v5 := by
  unfold asBoth at hk
  split at hk
  · obtain ⟨e, hq⟩ := hp _ _ _ _ _ _ _ _ _ _ _ _ hk
    cases e
    exact ⟨_, _, _, _, _, _, _, _, _, _, _, rfl, hq⟩
  · exact hk.elim
def sDo : Spec := fun args h K => match args with
  | [.pointer (some ⟨0, 0, some 0⟩), .agg ⟨[.int .u8 _, .int .i64 _, .int .i64 _, .int .u32 w, .string _]⟩] => asBoth h fun m m2 tb ty ty2 ty3 ty4 v1 v2 v3 v4 v5 => m2 = m ∧ OkM m ∧ CntM m ∧ 0 ≤ w ∧ w < 2 ^ 32 ∧ ∀ m', OkM m' → CntM m' → K (.bool true) (bothH m' tb ty ty2 ty3 ty4 v1 v2 v3 v4 v5)
  | _ => False
def sAlike : Spec := fun args h K => match args with
  | [.pointer (some ⟨0, 0, some 0⟩)] => asBoth h fun m m2 tb ty ty2 ty3 ty4 v1 v2 v3 v4 v5 => m2 = m ∧ OkM m ∧ K (.bool true) (bothH m tb ty ty2 ty3 ty4 v1 v2 v3 v4 v5)
  | _ => False
def TAl : LSpec := fun e h k => match e with
  | [(0, .pointer (some ⟨0, 0, some 0⟩)), (3, .int .i64 n), (5, .int .i64 i)] => asBoth h fun m m2 tb ty ty2 ty3 ty4 v1 v2 v3 v4 v5 => m2 = m ∧ OkM m ∧ n = m.n ∧ i = 0 ∧ k (.exit 0) [] (bothH m tb ty ty2 ty3 ty4 v1 v2 v3 v4 v5)
  | _ => False
def tQ : List (Nat × Spec) := [(22, sWriteX), (26, sReadX), (25, sUpsX), (34, sRB), (33, sWB),
  (28, sScrub), (32, sReset), (29, sCounts), (31, sBlown), (30, sFuseX), (23, sRaw), (39, sSize),
  (79, sWriteX), (80, sReadX), (83, sUpsX), (82, sRB), (81, sWB),
  (84, sScrub), (86, sReset), (85, sFuseX), (87, sRaw)]
theorem tQ_ok : AllOk Tryd.prog G0 tQ := ⟨weaken okWrite iWrite, weaken okRead iRead, weaken okUps iUps, okRB, okWB, okScrub, okReset, okCounts, okBlown, weaken okFuse iFuse, okRaw, okSize,
  weaken okRWrite iWrite, weaken okRRead iRead, weaken okRUps iUps, okRRB, okRWB, okRScrub, okRReset, weaken okRFuse iFuse, okRRaw, trivial⟩
noncomputable def cDo : FCfg := { mkG Tryd.prog G0 tQ 265 [(0, [0, 3]), (1, [0, 3, 28]), (2, [0, 3, 28, 29]), (3, [4]), (4, [0, 3, 28, 50]), (5, [0, 3, 5, 6, 7]), (6, [5, 6, 7, 8, 9, 10]), (7, [4]), (8, [0, 3, 28, 87]), (9, [4]), (10, [0, 3, 28, 108]), (11, [0, 3, 11, 12]), (12, [11, 12, 13, 14]), (13, [4]), (14, [0, 3, 28, 142]), (15, [4]), (16, [0, 3, 28, 163]), (17, [0, 15]), (18, [0, 15, 172]), (19, [0, 15]), (20, [0, 15, 16, 17, 18]), (21, [16, 17, 18, 19, 20, 21]), (22, [4]), (23, [0, 3, 28, 208]), (24, [4]), (25, [0, 3, 225]), (26, [0]), (27, []), (28, [4]), (29, [0, 3, 22, 23]), (30, [22, 23, 24, 25]), (31, [4])] [] [] [] [] [] 40 5 with hold := lookL [(3, [0, 5]), (5, [0, 5]), (6, [0, 5]), (9, [0, 5]), (11, [0, 5]), (12, [0, 5]), (15, [0, 5]), (24, [0, 5]), (29, [0, 5]), (30, [0, 5])] }
noncomputable def bDo (m : Mem) (tb ty ty2 ty3 ty4 : TypeId) (v1 v2 v3 v4 v5 : Bool) (p a n w : Int) (s : ByteArray) (K : Value → AHeap → Prop) : Prop := bodyK cDo (codeOf Tryd.f37) Tryd.f37.results.toList [.pointer (some ⟨0, 0, some 0⟩), .agg ⟨[.int .u8 p, .int .i64 a, .int .i64 n, .int .u32 w, .string s]⟩] (bothH m tb ty ty2 ty3 ty4 v1 v2 v3 v4 v5) K
def Lim (l : Nat) : Prop := l ≤ 9223372036854775807
/-- The acts, five cells each. -/
structure OkA (vs : List Value) (l : Nat) : Prop where
  len : vs.length = l * 5
  c0 : ∀ j, j < l → isInt .u8 (vs.getD (j * 5) undef) = true
  c1 : ∀ j, j < l → isInt .i64 (vs.getD (j * 5 + 1) undef) = true
  c2 : ∀ j, j < l → isInt .i64 (vs.getD (j * 5 + 2) undef) = true
  c3 : ∀ j, j < l → isInt .u32 (vs.getD (j * 5 + 3) undef) = true ∧ 0 ≤ intOf (vs.getD (j * 5 + 3) undef) ∧ intOf (vs.getD (j * 5 + 3) undef) < 2 ^ 32
  c4 : ∀ j, j < l → isStr (vs.getD (j * 5 + 4) undef) = true
def TGr : LSpec := fun e h k => match e, h with
  | [(0, .slice (some ⟨0, 0, some 0⟩) l c), (1, .int .i64 w), (5, .int .i64 i)], [.ro vs t] => OkA vs l ∧ Lim l ∧ i = 0 ∧ k .ret [(4, .bool true)] [.ro vs t] ∧ k (.exit 0) [(0, .slice (some ⟨0, 0, some 0⟩) l c), (1, .int .i64 w)] [.ro vs t]
  | _, _ => False
def sGreat : Spec := fun args h K => match args, h with
  | [.slice (some ⟨0, 0, some 0⟩) l _, .int .i64 _], [.ro vs t] => OkA vs l ∧ Lim l ∧ K (.bool true) [.ro vs t] ∧ K (.bool false) [.ro vs t]
  | _, _ => False
noncomputable def cGr : FCfg := mkG Tryd.prog G0 [] 30 [(0, [0, 1]), (1, [0, 1, 5]), (2, [0, 1, 5, 9]), (3, [0, 1, 5]), (4, [0, 1, 5, 18]), (5, [4]), (6, [4])] [(2, [0, 1, 5])] [(2, [0, 1, 4])] [(2, TGr)] [] [] 40 1
noncomputable def tGr (vs : List Value) (t : TypeId) (l c : Nat) (w i : Int) (k : AExit → Env → AHeap → Prop) : Prop := codeK cGr (nthLoop 0 (codeOf Tryd.f35)) [(0, .slice (some ⟨0, 0, some 0⟩) l c), (1, .int .i64 w), (5, .int .i64 i)] [.ro vs t] k
noncomputable def bGr (vs : List Value) (t : TypeId) (l c : Nat) (w : Int) (K : Value → AHeap → Prop) : Prop := bodyK cGr (codeOf Tryd.f35) Tryd.f35.results.toList [.slice (some ⟨0, 0, some 0⟩) l c, .int .i64 w] [.ro vs t] K
def sGreatN : Spec := fun args h K => match args, h with
  | [.slice none 0 0, .int .i64 _], [] => K (.bool true) [] ∧ K (.bool false) []
  | _, _ => False
noncomputable def cGrN : FCfg := mkG Tryd.prog G0 [] 30 [(0, [0, 1]), (1, [0, 1, 5]), (2, [0, 1, 5, 9]), (3, [0, 1, 5]), (4, [0, 1, 5, 18]), (5, [4]), (6, [4])] [(2, [0, 1, 5])] [(2, [0, 1, 4])] [] [] [] 40 0
noncomputable def bGrN (w : Int) (K : Value → AHeap → Prop) : Prop := bodyK cGrN (codeOf Tryd.f35) Tryd.f35.results.toList [.slice none 0 0, .int .i64 w] [] K
noncomputable def cAl : FCfg := { mkG Tryd.prog G0 tQ 97 [(0, [0]), (1, [0, 3, 4]), (2, [0, 3, 66]), (3, [2]), (4, [0, 3, 5]), (5, [0, 3, 5, 69]), (6, [0, 3, 5]), (7, [0, 3, 5, 6, 7]), (8, [0, 3, 5, 96]), (9, [2]), (10, [2])] [(5, [0, 3, 5])] [(5, [2])] [(5, TAl)] [] [] 40 5 with hold := lookL [(2, [0, 3, 4])] }
noncomputable def tAl (m : Mem) (tb ty ty2 ty3 ty4 : TypeId) (v1 v2 v3 v4 v5 : Bool) (n i : Int) (k : AExit → Env → AHeap → Prop) : Prop := codeK cAl (nthLoop 0 (codeOf Tryd.f38)) [(0, .pointer (some ⟨0, 0, some 0⟩)), (3, .int .i64 n), (5, .int .i64 i)] (bothH m tb ty ty2 ty3 ty4 v1 v2 v3 v4 v5) k
noncomputable def bAl (m : Mem) (tb ty ty2 ty3 ty4 : TypeId) (v1 v2 v3 v4 v5 : Bool) (K : Value → AHeap → Prop) : Prop := bodyK cAl (codeOf Tryd.f38) Tryd.f38.results.toList [.pointer (some ⟨0, 0, some 0⟩)] (bothH m tb ty ty2 ty3 ty4 v1 v2 v3 v4 v5) K
end Go.Am.Mem
