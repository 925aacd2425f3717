/-
  Packet: the calls that all laws make first. Own work.
-/
import Derived.Test.YtbpfhjmiaaaoiaaPktX
namespace Go.Am.Pkt
open Go Go.Am Go.Proofs
set_option maxRecDepth 100000

noncomputable def iNone : FCfg := { mkG Try.prog G0 [] 12 [(0, [0]), (1, [2])] [] [] [] [] [] 40 9 with shut := fun _ => 0, gc := none }
noncomputable def tFeed : List (Nat × Spec) := [(34, inl iNone (codeOf Try.f34) Try.f34.results.toList), (13, sVal)]
noncomputable def cFeed : FCfg := { mkG Try.prog G0 tFeed 125 [(0, [0, 3, 4]), (1, [0, 3, 4, 10]), (2, [4, 5]), (3, [0, 3, 4, 14]), (4, [4, 5]), (5, [0, 3, 4, 18]), (6, [4, 5]), (7, [0, 3, 4, 6]), (8, [0, 3, 4, 6, 7, 8]), (9, [0, 3, 4, 6, 7, 30]), (10, [0, 3, 4, 6, 7]), (11, [0, 3, 4, 6, 7]), (12, [0, 3, 4, 6, 7, 55]), (13, [0, 3, 4, 6, 7]), (14, [0, 3, 4, 6, 7, 59]), (15, [0, 3, 4, 6, 7, 59, 60]), (16, [0, 3, 4, 6, 7, 59, 62]), (17, [0, 3, 4, 6, 7, 59, 64]), (18, [0, 3, 4, 6, 7, 66]), (19, [0, 3, 4, 6, 7]), (20, [0, 3, 4, 6, 7]), (21, [0, 3, 4, 6, 7, 88]), (22, [0, 3, 4, 6, 7]), (23, [0, 3, 4, 6, 7, 100]), (24, [0, 3, 4, 6, 7]), (25, [0, 3, 4, 6, 7, 110]), (26, [0, 3, 4, 6, 7]), (27, [0, 3, 4, 6, 7, 115]), (28, [0, 3, 4, 6, 7]), (29, [4, 6]), (30, [4, 5])] [] [] [] [] [] 40 9 with shut := fun _ => 0, gc := none, hold := lookL [(8, [0, 2]), (29, [0, 2, 5])] }
noncomputable def cFeedO : FCfg := { mkG Try.prog G0 tFeed 125 [(0, [0, 3, 4]), (1, [0, 3, 4, 10]), (2, [4, 5]), (3, [0, 3, 4, 14]), (4, [4, 5]), (5, [0, 3, 4, 18]), (6, [4, 5]), (7, [0, 3, 4, 6]), (8, [0, 3, 4, 6, 7, 8]), (9, [0, 3, 4, 6, 7, 30]), (10, [0, 3, 4, 6, 7]), (11, [0, 3, 4, 6, 7]), (12, [0, 3, 4, 6, 7, 55]), (13, [0, 3, 4, 6, 7]), (14, [0, 3, 4, 6, 7, 59]), (15, [0, 3, 4, 6, 7, 59, 60]), (16, [0, 3, 4, 6, 7, 59, 62]), (17, [0, 3, 4, 6, 7, 59, 64]), (18, [0, 3, 4, 6, 7, 66]), (19, [0, 3, 4, 6, 7]), (20, [0, 3, 4, 6, 7]), (21, [0, 3, 4, 6, 7, 88]), (22, [0, 3, 4, 6, 7]), (23, [0, 3, 4, 6, 7, 100]), (24, [0, 3, 4, 6, 7]), (25, [0, 3, 4, 6, 7, 110]), (26, [0, 3, 4, 6, 7]), (27, [0, 3, 4, 6, 7, 115]), (28, [0, 3, 4, 6, 7]), (29, [4, 6]), (30, [4, 5])] [] [] [] [] [] 40 9 with shut := fun _ => 0, gc := none, hold := lookL [(8, [0, 3]), (22, [3]), (29, [0, 3, 6])] }
noncomputable def bFeed (c : FCfg) (p : Value) (h : AHeap) (K : Value → AHeap → Prop) : Prop := bodyK c (codeOf Try.f16) Try.f16.results.toList [.pointer (some ⟨0, 0, some 0⟩), p] h K
def p1 : Value := pkV false 5 1 16383 ⟨⟨[97, 98]⟩⟩
def p2 : Value := pkV false 5 0 0 ⟨⟨[99, 100]⟩⟩
def p3 : Value := pkV false 5 2 1 ⟨⟨[101]⟩⟩
def joH (es : List (Value × Value)) (r : AHeap) : AHeap := .cells false [.map (some 1)] 38 false :: .map es :: r
noncomputable def bFeed1 (K : Value → AHeap → Prop) : Prop := bFeed cFeed p1 (joH [] []) K
def k1 : List (Value × Value) := [(.int .i64 5, .agg ⟨[.int .i64 0, .bool true, .slice (some ⟨2, 0, some 0⟩) 2 2]⟩)]
def k2 : List (Value × Value) := [(.int .i64 5, .agg ⟨[.int .i64 1, .bool true, .slice (some ⟨2, 0, some 0⟩) 4 2]⟩)]
def k3 : List (Value × Value) := [(.int .i64 5, .agg ⟨[.int .i64 2, .bool false, .slice none 0 0]⟩)]
def t1 (mv : Bool) : AHeap := [.cells true [.int .u8 97, .int .u8 98] 5 mv]
def t2 (mv : Bool) : AHeap := [.cells true [.int .u8 97, .int .u8 98, .int .u8 99, .int .u8 100] 5 mv]
def rNo : Value := .tuple ⟨[.agg ⟨[.bool false, .string ⟨⟨[]⟩⟩, .int .i64 0, .bool false]⟩, .int .i64 0]⟩
def rYes : Value := .tuple ⟨[.agg ⟨[.bool true, .string ⟨⟨[97, 98, 99, 100, 101]⟩⟩, .int .i64 0, .bool false]⟩, .int .i64 0]⟩
noncomputable def bFeed2 (K : Value → AHeap → Prop) : Prop := bFeed cFeedO p2 (joH k1 (t1 false)) K
noncomputable def bFeed3 (K : Value → AHeap → Prop) : Prop := bFeed cFeedO p3 (joH k2 (t2 false)) K
noncomputable def cOpen : FCfg := { mkG Try.prog G0 tFeed 22 [(0, [0]), (1, [0, 7]), (2, [2]), (3, [0, 3]), (4, [3, 12]), (5, [3, 12, 14]), (6, [3, 5, 12]), (7, [3, 12, 18]), (8, [3, 12]), (9, [2])] [(5, [3, 12])] [(5, [3])] [] [] [] 40 9 with shut := fun _ => 0, gc := none }
noncomputable def cNew : FCfg := { mkG Try.prog G0 [] 4 [(0, []), (1, [0])] [] [] [] [] [] 40 9 with shut := fun _ => 0, gc := none }
def pk3 (mv : Bool) : AHeap := [.cells true [.bool false, .int .i64 5, .int .i64 1, .int .i64 16383, .string ⟨⟨[97, 98]⟩⟩, .bool false, .int .i64 5, .int .i64 0, .int .i64 0, .string ⟨⟨[99, 100]⟩⟩, .bool false, .int .i64 5, .int .i64 2, .int .i64 1, .string ⟨⟨[101]⟩⟩] 23 mv]
def sSplX : Spec := fun args h K => match args, h with
  | [.bool c, .int .i64 a, .int .i64 n, .string d, .int .i64 m], [] => (c = false ∧ a = 5 ∧ n = 16383 ∧ d = ⟨⟨[97, 98, 99, 100, 101]⟩⟩ ∧ m = 2) ∧ K (.tuple ⟨[.slice (some ⟨0, 0, some 0⟩) 3 10, .int .i64 0]⟩) (pk3 true)
  | _, _ => False
def tSpl : List (Nat × Spec) := [(36, sClone)]
noncomputable def iSpl : FCfg := { mkG Try.prog G0 tSpl 85 [(0, [0, 1, 2, 3, 4]), (1, [0, 1, 2, 3, 4, 39]), (2, [10, 11]), (3, [0, 1, 2, 3, 4, 42]), (4, [10, 11]), (5, [0, 1, 2, 3, 4, 12]), (6, [0, 1, 2, 3, 4, 12, 44]), (7, [0, 1, 2, 3, 4, 12, 13]), (8, [0, 1, 2, 3, 4, 12, 13]), (9, [0, 1, 2, 3, 4, 12]), (10, [12]), (11, [12]), (12, [10, 11])] [(6, [0, 1, 2, 3, 4, 12])] [(6, [12])] [] [] [] 40 9 with shut := fun _ => 0, gc := none }
def sFeedX : Spec := fun args h K => match args with
  | [.pointer (some ⟨0, 0, some 0⟩), .agg ⟨[.bool c, .int .i64 a, .int .i64 1, .int .i64 n, .string d]⟩] => pkV c a 1 n d = p1 ∧ h = joH [] [] ∧ K rNo (joH k1 (t1 false))
  | [.pointer (some ⟨0, 0, some 0⟩), .agg ⟨[.bool c, .int .i64 a, .int .i64 0, .int .i64 n, .string d]⟩] => pkV c a 0 n d = p2 ∧ h = joH k1 (t1 false) ∧ K rNo (joH k2 (t2 true))
  | [.pointer (some ⟨0, 0, some 0⟩), .agg ⟨[.bool c, .int .i64 a, .int .i64 2, .int .i64 n, .string d]⟩] => pkV c a 2 n d = p3 ∧ h = joH k2 (t2 false) ∧ K rYes (joH k3 (t2 false))
  | _ => False
noncomputable def bSplX (K : Value → AHeap → Prop) : Prop := bodyK iSpl (codeOf Try.f20) Try.f20.results.toList [.bool false, .int .i64 5, .int .i64 16383, .string ⟨⟨[97, 98, 99, 100, 101]⟩⟩, .int .i64 2] [] K
noncomputable def tShown : List (Nat × Spec) := [(11, sPut), (28, sTake), (20, sSplX), (15, inl cNew (codeOf Try.f15) Try.f15.results.toList),
  (16, sFeedX), (18, inl cOpen (codeOf Try.f18) Try.f18.results.toList)]
noncomputable def cShown : FCfg := { mkG Try.prog G0 tShown 142 [(0, []), (1, [1, 2]), (2, [1, 2, 3, 4, 5]), (3, [1, 2, 3, 4, 5, 8]), (4, [1, 2, 3, 4, 5, 8, 11]), (5, [1, 2, 3, 4, 5, 8, 11, 12, 13]), (6, [12, 92]), (7, [0]), (8, [12, 14]), (9, [12, 14, 95]), (10, [0]), (11, [12, 14, 15]), (12, [12, 14, 15, 17]), (13, [14, 15, 17, 19]), (14, [0])] [] [] [] [] [] 40 9 with shut := fun _ => 0, gc := none }
noncomputable def bShown (K : Value → AHeap → Prop) : Prop := bodyK cShown (codeOf Try.f10) Try.f10.results.toList [] [] K
theorem bFeed1_eq (K : Value → AHeap → Prop) : bFeed1 K = (((K rNo (joH k1 (t1 false)) ∧ K rNo (joH k1 (t1 false))) ∧ K rNo (joH k1 (t1 false))) ∧ ((K rNo (joH k1 (t1 false)) ∧ K rNo (joH k1 (t1 false))) ∧ K rNo (joH k1 (t1 false)))) := by
  kernel_rfl
theorem bFeed2_eq (K : Value → AHeap → Prop) : bFeed2 K = (K rNo (joH k2 (t2 true)) ∧ K rNo (joH k2 (t2 true))) := by
  kernel_rfl
theorem bFeed3_eq (K : Value → AHeap → Prop) : bFeed3 K = (((K rYes (joH k3 (t2 false)) ∧ K rYes (joH k3 (t2 false))) ∧ K rYes (joH k3 (t2 false))) ∧ ((K rYes (joH k3 (t2 false)) ∧ K rYes (joH k3 (t2 false))) ∧ K rYes (joH k3 (t2 false)))) := by
  kernel_rfl
theorem bSplX_eq (K : Value → AHeap → Prop) : bSplX K = ((2 : Nat) ≤ 140737488355328 ∧ (2 : Nat) ≤ 140737488355328 ∧ (1 : Nat) ≤ 140737488355328 ∧ K (.tuple ⟨[.slice (some ⟨0, 0, some 0⟩) 3 10, .int .i64 0]⟩) (pk3 true)) := by
  kernel_rfl
theorem bShown_eq (K : Value → AHeap → Prop) : bShown K = ((((false = false) ∧ ((5 : Int) = 5) ∧ ((16383 : Int) = 16383) ∧ ((⟨⟨[97, 98, 99, 100, 101]⟩⟩ : ByteArray) = ⟨⟨[97, 98, 99, 100, 101]⟩⟩) ∧ ((2 : Int) = 2)) ∧ (p1 = p1 ∧ joH [] [] = joH [] [] ∧ p2 = p2 ∧ joH k1 (t1 false) = joH k1 (t1 false) ∧ p3 = p3 ∧ joH k2 (t2 false) = joH k2 (t2 false) ∧ (K (.bool true) [] ∧ True)))) := by
  kernel_rfl

theorem ok_or {P : Program} {G : Nat → Option (List Value)} {fid : Nat} {s s1 s2 : Spec} (h1 : SpecOk P G fid s1) (h2 : SpecOk P G fid s2) (h : ∀ args hp K, s args hp K → s1 args hp K ∨ s2 args hp K) : SpecOk P G fid s :=
  fun W hG args hp K hk => (h args hp K hk).elim (fun a => h1 W hG args hp K a) (fun a => h2 W hG args hp K a)
theorem okNone : SpecOk Try.prog G0 34 (inl iNone (codeOf Try.f34) Try.f34.results.toList) :=
  inl_ok mixed none_ok Try.func34 (by kernel_rfl : Try.f34.body = some (codeOf Try.f34)) iNone rfl rfl rfl (by kernel_rfl) (fun _ => rfl)
theorem tFeed_ok : AllOk Try.prog G0 tFeed := ⟨okNone, okVal, trivial⟩
def sFeedA : Spec := fun args h K => args = [.pointer (some ⟨0, 0, some 0⟩), p1] ∧ h = joH [] [] ∧ K rNo (joH k1 (t1 false))
def sFeedB : Spec := fun args h K => (args = [.pointer (some ⟨0, 0, some 0⟩), p2] ∧ h = joH k1 (t1 false) ∧ K rNo (joH k2 (t2 true))) ∨ (args = [.pointer (some ⟨0, 0, some 0⟩), p3] ∧ h = joH k2 (t2 false) ∧ K rYes (joH k3 (t2 false)))
theorem okFeedA : SpecOk Try.prog G0 16 sFeedA :=
  spec2 mixed tFeed_ok Try.func16 (by kernel_rfl : Try.f16.body = some (codeOf Try.f16)) cFeed rfl rfl rfl (by kernel_rfl) rfl (eachNone (fun _ => rfl) _ 0) (by
    rintro args h K ⟨rfl, rfl, hk⟩
    show bFeed1 K
    rw [bFeed1_eq]
    exact ⟨⟨⟨hk, hk⟩, hk⟩, ⟨hk, hk⟩, hk⟩)
theorem okFeedB : SpecOk Try.prog G0 16 sFeedB :=
  spec2 mixed tFeed_ok Try.func16 (by kernel_rfl : Try.f16.body = some (codeOf Try.f16)) cFeedO rfl rfl rfl (by kernel_rfl) rfl (eachNone (fun _ => rfl) _ 0) (by
    rintro args h K (⟨rfl, rfl, hk⟩ | ⟨rfl, rfl, hk⟩)
    · show bFeed2 K
      rw [bFeed2_eq]
      exact ⟨hk, hk⟩
    · show bFeed3 K
      rw [bFeed3_eq]
      exact ⟨⟨⟨hk, hk⟩, hk⟩, ⟨hk, hk⟩, hk⟩)
theorem okFeedX : SpecOk Try.prog G0 16 sFeedX := ok_or okFeedA okFeedB (by
  intro args h K hk
  unfold sFeedX at hk
  split at hk
  · obtain ⟨e, rfl, hk⟩ := hk
    exact .inl ⟨by rw [← e]; rfl, rfl, hk⟩
  · obtain ⟨e, rfl, hk⟩ := hk
    exact .inr (.inl ⟨by rw [← e]; rfl, rfl, hk⟩)
  · obtain ⟨e, rfl, hk⟩ := hk
    exact .inr (.inr ⟨by rw [← e]; rfl, rfl, hk⟩)
  · exact hk.elim)
theorem tSpl_ok : AllOk Try.prog G0 tSpl := ⟨okClone, trivial⟩
theorem okSplX : SpecOk Try.prog G0 20 sSplX :=
  spec2 mixed tSpl_ok Try.func20 (by kernel_rfl : Try.f20.body = some (codeOf Try.f20)) iSpl rfl rfl rfl (by kernel_rfl) rfl (eachNone (fun _ => rfl) _ 0) (by
    intro args h K hk
    unfold sSplX at hk
    split at hk
    · obtain ⟨⟨rfl, rfl, rfl, rfl, rfl⟩, hk⟩ := hk
      show bSplX K
      rw [bSplX_eq]
      exact ⟨by decide, by decide, by decide, hk⟩
    · exact hk.elim)
theorem tShown_ok : AllOk Try.prog G0 tShown := ⟨okPut, okTake, okSplX,
  inl_ok mixed none_ok Try.func15 (by kernel_rfl : Try.f15.body = some (codeOf Try.f15)) cNew rfl rfl rfl (by kernel_rfl) (fun _ => rfl), okFeedX,
  inl_ok mixed tFeed_ok Try.func18 (by kernel_rfl : Try.f18.body = some (codeOf Try.f18)) cOpen rfl rfl rfl (by kernel_rfl) (fun _ => rfl), trivial⟩
def sShown : Spec := fun args h K => match args, h with
  | [], [] => K (.bool true) []
  | _, _ => False
theorem okShown : SpecOk Try.prog G0 10 sShown :=
  spec2 mixed tShown_ok Try.func10 (by kernel_rfl : Try.f10.body = some (codeOf Try.f10)) cShown rfl rfl rfl (by kernel_rfl) rfl (eachNone (fun _ => rfl) _ 0) (by
    intro args h K hk
    unfold sShown at hk
    split at hk
    · show bShown K
      rw [bShown_eq]
      exact ⟨⟨rfl, rfl, rfl, rfl, rfl⟩, rfl, rfl, rfl, rfl, rfl, rfl, hk, trivial⟩
    · exact hk.elim)
end Go.Am.Pkt
