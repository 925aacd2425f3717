/-
  Packet: the functions, their summaries. Own work.
-/
import Derived.Test.YtlgpalokjckdcaaAmY
import Derived.Test.YtlgpalokjckdcaaProg
import Derived.KernelRfl
namespace Go.Am.Pkt
open Go Go.Am Go.Proofs
set_option maxRecDepth 100000

def G0 (_:Nat):Option (List Value):=none
def codeOf (f:Func):Code:=match f.body with | some c=>c | none=>.skip
theorem mixed:Try.prog.follows .mixedOrders = true:=by kernel_rfl
theorem none_ok:AllOk Try.prog G0 []:=trivial

theorem dT {p:Prop} [Decidable p] (h:p) {A B:Prop}:cond (decide p) A B = A:=by rw [decide_eq_true h,cond_true]
theorem dF {p:Prop} [Decidable p] (h:¬ p) {A B:Prop}:cond (decide p) A B = B:=by rw [decide_eq_false h,cond_false]
theorem dnT {p:Prop} [Decidable p] (h:p) {A B:Prop}:cond (!decide p) A B = B:=by rw [decide_eq_true h,Bool.not_true,cond_false]
theorem dnF {p:Prop} [Decidable p] (h:¬ p) {A B:Prop}:cond (!decide p) A B = A:=by rw [decide_eq_false h,Bool.not_false,cond_true]
theorem dT2 {p q:Prop} [Decidable p] [Decidable q] (hp:p) (hq:q) {A B:Prop}:cond (decide p && decide q) A B = A:=by rw [decide_eq_true hp,decide_eq_true hq,Bool.and_self,cond_true]

/-! ### strings.Clone -/
noncomputable def cSlc:FCfg:=mkG Try.prog G0 [] 18 [(0,[0]),(1,[0,6]),(2,[2]),(3,[0,3]),(4,[3]),(5,[2])] [] [] [] [] [] 40 0
noncomputable def bSlc (s:ByteArray) (K:Value → AHeap → Prop):Prop:=bodyK cSlc (codeOf Try.f56) Try.f56.results.toList [.string s] [] K
/-! ### a packet -/
def pkV (c:Bool) (a f n:Int) (d:ByteArray):Value:=.agg ⟨[.bool c,.int .i64 a,.int .i64 f,.int .i64 n,.string d]⟩
noncomputable def cVal:FCfg:=mkG Try.prog G0 [] 30 [(0,[1]),(1,[1,3]),(2,[1,3]),(3,[1,3]),(4,[1,3]),(5,[2]),(6,[1,16]),(7,[1,16]),(8,[1,16]),(9,[16]),(10,[2]),(11,[2])] [] [] [] [] [] 40 0
noncomputable def bVal (c:Bool) (a f n:Int) (d:ByteArray) (K:Value → AHeap → Prop):Prop:=bodyK cVal (codeOf Try.f68) Try.f68.results.toList [pkV c a f n d] [] K
noncomputable def iWords:FCfg:={ mkG Try.prog G0 [] 22 [(0,[0]),(1,[0,3]),(2,[3,6,7,8]),(3,[3,6,7,8,9]),(4,[3,5,6,7,8]),(5,[3,6,7,8]),(6,[3,6,7,8]),(7,[2])] [(3,[3,6,7,8])] [(3,[3])] [] [] [] 40 1 with shut:=fun _=>0 }
noncomputable def bWords (a b c:Int) (cc:Nat) (mv:Bool) (K:Value → AHeap → Prop):Prop:=bodyK iWords (codeOf Try.f94) Try.f94.results.toList [.slice (some ⟨0,0,some 0⟩) 3 cc] [.cells true [.int .i64 a,.int .i64 b,.int .i64 c] 3 mv] K
def six (a b c:Int):List Value:=[.int .u8 (IntKind.u8.wrap (Int.fdiv a 256)),.int .u8 (IntKind.u8.wrap a),.int .u8 (IntKind.u8.wrap (Int.fdiv b 256)),.int .u8 (IntKind.u8.wrap b),.int .u8 (IntKind.u8.wrap (Int.fdiv c 256)),.int .u8 (IntKind.u8.wrap c)]
def sWords:Spec:=fun args h K=>match args,h with
 | [.slice (some ⟨0,0,some 0⟩) 3 _],[.cells true [.int .i64 a,.int .i64 b,.int .i64 c] 3 mv]=>K (.slice (some ⟨1,0,some 0⟩) 6 2) [.cells true [.int .i64 a,.int .i64 b,.int .i64 c] 3 mv,.cells true (six a b c) 5 true]
 | _,_=>False
def tWords:List (Nat × Spec):=[(94,sWords)]
noncomputable def cEnc:FCfg:={ mkG Try.prog G0 tWords 27 [(0,[1]),(1,[1,3]),(2,[1,3,7]),(3,[1,3]),(4,[2])] [] [] [] [] [] 40 0 with hold:=lookL [(4,[0])] }
noncomputable def bEnc (c:Bool) (a f n:Int) (d:ByteArray) (K:Value → AHeap → Prop):Prop:=bodyK cEnc (codeOf Try.f69) Try.f69.results.toList [pkV c a f n d] [] K
noncomputable def cTwo:FCfg:=mkG Try.prog G0 [] 11 [(0,[0]),(1,[2])] [] [] [] [] [] 40 0
noncomputable def bTwo (n:Int) (K:Value → AHeap → Prop):Prop:=bodyK cTwo (codeOf Try.f106) Try.f106.results.toList [.int .i64 n] [] K
theorem bWords_eq (a b c:Int) (cc:Nat) (mv:Bool) (K:Value → AHeap → Prop):bWords a b c cc mv K = (K (Value.slice (Option.some (Addr.mk (1:Nat) 0 (Option.some 0))) (6:Nat) (2:Nat)) [(AObj.cells Bool.true [(Value.int IntKind.i64 a),(Value.int IntKind.i64 b),(Value.int IntKind.i64 c)] (3:Nat) mv),(AObj.cells Bool.true [(Value.int IntKind.u8 (IntKind.wrap IntKind.u8 (Int.fdiv a (256:Int)))),(Value.int IntKind.u8 (IntKind.wrap IntKind.u8 a)),(Value.int IntKind.u8 (IntKind.wrap IntKind.u8 (Int.fdiv b (256:Int)))),(Value.int IntKind.u8 (IntKind.wrap IntKind.u8 b)),(Value.int IntKind.u8 (IntKind.wrap IntKind.u8 (Int.fdiv c (256:Int)))),(Value.int IntKind.u8 (IntKind.wrap IntKind.u8 c))] (5:Nat) Bool.true)]):=by
 kernel_rfl
theorem bSlc_eq (s:ByteArray) (K:Value → AHeap → Prop):bSlc s K = (∀ x1:Int,((x1 = (((ByteArray.size s):Nat):Int)) → (cond (decide ((x1 = (0:Int)))) (K (Value.string (ByteArray.mk (Array.mk []))) []) (∀ x2:Int,((x2 = (((ByteArray.size s):Nat):Int)) → (cond (((((((decide (((0:Int) ≤ x2))) && (decide ((x2 ≤ x2)))) && (decide ((x2 ≤ (9223372036854775807:Int))))) && (decide ((((1:Int) * x2:Int) ≤ (281474976710656:Int))))) && Bool.true) && Bool.true) && Bool.true) (cond (decide (((0 + ((Int.toNat x2) * (1:Nat):Nat):Nat) ≤ (List.length (List.replicate (Int.toNat x2) (Value.int IntKind.u8 (0:Int))))))) (∀ x3:Int,((x3 = (((ite ((ByteArray.size s) ≤ (Int.toNat x2)) (ByteArray.size s) (Int.toNat x2)):Nat):Int)) → (cond (decide (((0:Int) < (((Int.toNat x2):Nat):Int)))) (∀ x4:Int,((x4 = (((Int.toNat x2):Nat):Int)) → (cond (((decide (((0:Int) < x4))) && (decide ((x4 ≤ (9223372036854775807:Int))))) && (decide (((0 + (Int.toNat x4):Nat) ≤ (List.length (setCells (List.replicate (Int.toNat x2) (Value.int IntKind.u8 (0:Int))) 0 (List.take ((ite ((ByteArray.size s) ≤ (Int.toNat x2)) (ByteArray.size s) (Int.toNat x2)) * (1:Nat):Nat) (bytesV s)))))))) (cond (u8B (List.take (Int.toNat x4) (List.drop 0 (setCells (List.replicate (Int.toNat x2) (Value.int IntKind.u8 (0:Int))) 0 (List.take ((ite ((ByteArray.size s) ≤ (Int.toNat x2)) (ByteArray.size s) (Int.toNat x2)) * (1:Nat):Nat) (bytesV s)))))) (∀ x5:ByteArray,((x5 = (bytesOf (List.take (Int.toNat x4) (List.drop 0 (setCells (List.replicate (Int.toNat x2) (Value.int IntKind.u8 (0:Int))) 0 (List.take ((ite ((ByteArray.size s) ≤ (Int.toNat x2)) (ByteArray.size s) (Int.toNat x2)) * (1:Nat):Nat) (bytesV s))))))) → (K (Value.string x5) []))) False) False))) False))) False) False)))))):=by
 kernel_rfl
theorem bVal_eq (c:Bool) (a f n:Int) (d:ByteArray) (K:Value → AHeap → Prop):bVal c a f n d K = (cond (decide ((a < (0:Int)))) (K (Value.bool Bool.false) []) (cond (decide ((a > (2047:Int)))) (K (Value.bool Bool.false) []) (cond (decide ((f < (0:Int)))) (K (Value.bool Bool.false) []) (cond (decide ((f > (3:Int)))) (K (Value.bool Bool.false) []) (cond (decide ((n < (0:Int)))) (K (Value.bool Bool.false) []) (cond (decide ((n > (16383:Int)))) (K (Value.bool Bool.false) []) (cond (strEq d (ByteArray.mk (Array.mk []))) (K (Value.bool Bool.false) []) (∀ x1:Int,((x1 = (((ByteArray.size d):Nat):Int)) → (cond (decide ((x1 > (1024:Int)))) (K (Value.bool Bool.false) []) (K (Value.bool Bool.true) []))))))))))):=by
 kernel_rfl
theorem bEnc_eq (c:Bool) (a f n:Int) (d:ByteArray) (K:Value → AHeap → Prop):bEnc c a f n d K = (cond c (∀ x7:Int,((x7 = (iOr IntKind.i64 a (4096:Int))) → (∀ x8:Int,((x8 = (iMul IntKind.i64 f (16384:Int))) → (∀ x9:Int,((x9 = (iOr IntKind.i64 x8 n)) → (∀ x10:Int,((x10 = (((ByteArray.size d):Nat):Int)) → (∀ x11:Int,((x11 = (iSub IntKind.i64 x10 (1:Int))) → (∀ x12:ByteArray,((x12 = (bytesOf [(Value.int IntKind.u8 (IntKind.wrap IntKind.u8 (Int.fdiv x7 (256:Int)))),(Value.int IntKind.u8 (IntKind.wrap IntKind.u8 x7)),(Value.int IntKind.u8 (IntKind.wrap IntKind.u8 (Int.fdiv x9 (256:Int)))),(Value.int IntKind.u8 (IntKind.wrap IntKind.u8 x9)),(Value.int IntKind.u8 (IntKind.wrap IntKind.u8 (Int.fdiv x11 (256:Int)))),(Value.int IntKind.u8 (IntKind.wrap IntKind.u8 x11))])) → (cond (decide ((((((ByteArray.size x12) + (ByteArray.size d):Nat):Nat):Int) ≤ (9223372036854775807:Int)))) (∀ x13:ByteArray,((x13 = (ByteArray.append x12 d)) → (K (Value.string x13) []))) False))))))))))))) (∀ x1:Int,((x1 = (iMul IntKind.i64 f (16384:Int))) → (∀ x2:Int,((x2 = (iOr IntKind.i64 x1 n)) → (∀ x3:Int,((x3 = (((ByteArray.size d):Nat):Int)) → (∀ x4:Int,((x4 = (iSub IntKind.i64 x3 (1:Int))) → (∀ x5:ByteArray,((x5 = (bytesOf [(Value.int IntKind.u8 (IntKind.wrap IntKind.u8 (Int.fdiv a (256:Int)))),(Value.int IntKind.u8 (IntKind.wrap IntKind.u8 a)),(Value.int IntKind.u8 (IntKind.wrap IntKind.u8 (Int.fdiv x2 (256:Int)))),(Value.int IntKind.u8 (IntKind.wrap IntKind.u8 x2)),(Value.int IntKind.u8 (IntKind.wrap IntKind.u8 (Int.fdiv x4 (256:Int)))),(Value.int IntKind.u8 (IntKind.wrap IntKind.u8 x4))])) → (cond (decide ((((((ByteArray.size x5) + (ByteArray.size d):Nat):Nat):Int) ≤ (9223372036854775807:Int)))) (∀ x6:ByteArray,((x6 = (ByteArray.append x5 d)) → (K (Value.string x6) []))) False)))))))))))):=by
 kernel_rfl
theorem bTwo_eq (n:Int) (K:Value → AHeap → Prop):bTwo n K = (∀ x1:Int,((x1 = (IntKind.wrap IntKind.i64 (Int.tdiv n (256:Int)))) → (∀ x2:Int,((x2 = (IntKind.wrap IntKind.u8 x1)) → (∀ x3:Int,((x3 = (Int.tmod n (256:Int))) → (∀ x4:Int,((x4 = (IntKind.wrap IntKind.u8 x3)) → (∀ x5:ByteArray,((x5 = (bytesOf [(Value.int IntKind.u8 x2),(Value.int IntKind.u8 x4)])) → (K (Value.string x5) []))))))))))):=by
 kernel_rfl
end Go.Am.Pkt

namespace Go.Am.Pkt
open Go Go.Am Go.Proofs
set_option maxRecDepth 100000

theorem strEq_iff {a b:ByteArray}:strEq a b = true ↔ a = b:=by
 have key:∀ (x y:List UInt8),eqLB x y = true ↔ x = y:=by
  intro x
  induction x with
  | nil=>intro y;cases y <;> simp [eqLB]
  | cons c x ih =>
   intro y
   cases y with
   | nil=>simp [eqLB]
   | cons d y =>
    simp only [eqLB,Bool.and_eq_true,ih,List.cons.injEq]
    constructor
    · rintro ⟨h1,h2⟩;exact ⟨UInt8.toNat_inj.1 (Nat.eq_of_beq_eq_true h1),h2⟩
    · rintro ⟨rfl,h2⟩;exact ⟨Nat.beq_refl _,h2⟩
 unfold strEq
 rw [key]
 constructor
 · intro h;cases a;cases b;simpa [Array.ext_iff] using Array.toList_inj.1 h
 · rintro rfl;rfl
theorem strEq_ne {a b:ByteArray} (h:a ≠ b):strEq a b = false:=by
 cases e:strEq a b
 · rfl
 · exact absurd (strEq_iff.1 e) h
theorem size_zero {d:ByteArray} (h:d.size = 0):d = ⟨⟨[]⟩⟩:=ByteArray.ext (Array.eq_empty_of_size_eq_zero h)

/-! ### Clone -/
def sClone:Spec:=fun args h K=>match args,h with
 | [.string s],[]=>s.size ≤ 2 ^ 47 ∧ K (.string s) []
 | _,_=>False
theorem bytes_self (s:ByteArray):(s.data.toList.map fun b=>(Value.int .u8 ((b.toNat:Nat):Int))).map (fun v=>UInt8.ofNat (intOf v).toNat) = s.data.toList:=by
 rw [List.map_map]
 conv=>rhs;rw [← List.map_id s.data.toList]
 apply List.map_congr_left
 intro b _
 simp [intOf]
theorem okSlc:SpecOk Try.prog G0 56 sClone :=
 spec2 mixed none_ok Try.func56 (by kernel_rfl:Try.f56.body = some (codeOf Try.f56)) cSlc rfl rfl rfl (by kernel_rfl) (ids:=[]) (by kernel_rfl) trivial (by
  intro args h K hk
  unfold sClone at hk
  split at hk
  · rename_i s
    obtain ⟨hs,hk⟩:=hk
    show bSlc s K
    rw [bSlc_eq]
    rintro _ rfl
    by_cases h0:s.size = 0
    · rw [dT (by omega)]
      rw [size_zero h0] at hk
      exact hk
    · rw [dF (by omega)]
      rintro _ rfl
      have hl:(bytesV s).length = s.size:=by unfold bytesV;rw [List.length_map];rfl
      have hmin:(if s.size ≤ ((s.size:Nat):Int).toNat then s.size else ((s.size:Nat):Int).toNat) = s.size:=by split <;> omega
      rw [hmin,Int.toNat_natCast,Nat.mul_one,List.take_of_length_le (by rw [hl];omega)]
      have e:setCells (List.replicate s.size (Value.int IntKind.u8 0)) 0 (bytesV s) = bytesV s:=by
       rw [setCells_eq _ _ _ (by rw [hl,List.length_replicate];omega),hl]
       simp
      rw [e,hl,List.length_replicate]
      rw [decide_eq_true (show (0:Int) ≤ ((s.size:Nat):Int) by omega),decide_eq_true (show ((s.size:Nat):Int) ≤ ((s.size:Nat):Int) by omega),decide_eq_true (show ((s.size:Nat):Int) ≤ 9223372036854775807 by omega),decide_eq_true (show 1 * ((s.size:Nat):Int) ≤ 281474976710656 by omega)]
      simp only [Bool.and_self,cond_true]
      rw [dT (by omega)]
      rintro _ rfl
      rw [dT (by omega)]
      rintro _ rfl
      rw [decide_eq_true (show (0:Int) < ((s.size:Nat):Int) by omega),decide_eq_true (show ((s.size:Nat):Int) ≤ 9223372036854775807 by omega),decide_eq_true (show 0 + ((s.size:Nat):Int).toNat ≤ s.size by omega)]
      simp only [Bool.and_self,cond_true]
      rw [Int.toNat_natCast,List.drop_zero,List.take_of_length_le (by rw [hl];omega)]
      have hu:u8B (bytesV s) = true:=by
       unfold u8B
       rw [List.all_eq_true]
       intro v hv
       obtain ⟨b,_,rfl⟩:=List.mem_map.1 hv
       rfl
      rw [hu,cond_true]
      rintro x rfl
      have:bytesOf (bytesV s) = s:=by
       unfold bytesOf
       have:=bytes_self s
       apply ByteArray.ext
       rw [← Array.toList_inj]
       exact this
      rw [this]
      exact hk
  · exact hk.elim)
def tSlc:List (Nat × Spec):=[(56,sClone)]
theorem tSlc_ok:AllOk Try.prog G0 tSlc:=⟨okSlc,trivial⟩
noncomputable def cClone:FCfg:=mkG Try.prog G0 tSlc 5 [(0,[0]),(1,[2])] [] [] [] [] [] 40 0
noncomputable def bClone (s:ByteArray) (K:Value → AHeap → Prop):Prop:=bodyK cClone (codeOf Try.f31) Try.f31.results.toList [.string s] [] K
def validB (a f n:Int) (d:ByteArray):Bool:=decide (0 ≤ a ∧ a ≤ 2047 ∧ 0 ≤ f ∧ f ≤ 3 ∧ 0 ≤ n ∧ n ≤ 16383 ∧ 1 ≤ d.size ∧ d.size ≤ 1024)
def sVal:Spec:=fun args h K=>match args,h with
 | [.agg ⟨[.bool _,.int .i64 a,.int .i64 f,.int .i64 n,.string d]⟩],[]=>K (.bool (validB a f n d)) []
 | _,_=>False
def by2 (n:Nat):List UInt8:=[UInt8.ofNat (n / 256),UInt8.ofNat (n % 256)]
def encS (c:Bool) (a f n:Nat) (d:ByteArray):ByteArray:=⟨(by2 (a + if c then 4096 else 0) ++ (by2 (f * 16384 + n) ++ by2 (d.size - 1))).toArray⟩ ++ d
def sTwo:Spec:=fun args h K=>match args,h with
 | [.int .i64 n],[]=>0 ≤ n ∧ n < 65536 ∧ K (.string ⟨(by2 n.toNat).toArray⟩) []
 | _,_=>False
def sEnc:Spec:=fun args h K=>match args,h with
 | [.agg ⟨[.bool c,.int .i64 a,.int .i64 f,.int .i64 n,.string d]⟩],[]=>validB a f n d = true ∧ K (.string (encS c a.toNat f.toNat n.toNat d)) []
 | _,_=>False
def tCode:List (Nat × Spec):=[(106,sTwo)]
noncomputable def cCode:FCfg:={ mkG Try.prog G0 tCode 29 [(0,[1]),(1,[1,3]),(2,[1,3,7]),(3,[1,3]),(4,[2])] [] [] [] [] [] 40 0 with hold:=lookL [(4,[0])] }
noncomputable def bCode (c:Bool) (a f n:Int) (d:ByteArray) (K:Value → AHeap → Prop):Prop:=bodyK cCode (codeOf Try.f101) Try.f101.results.toList [pkV c a f n d] [] K
def tPut:List (Nat × Spec):=[(68,sVal),(69,sEnc),(101,sEnc)]
noncomputable def cPut:FCfg:=mkG Try.prog G0 tPut 9 [(0,[1]),(1,[1,6]),(2,[2,3]),(3,[2,3])] [] [] [] [] [] 40 0
noncomputable def bPut (c:Bool) (a f n:Int) (d:ByteArray) (K:Value → AHeap → Prop):Prop:=bodyK cPut (codeOf Try.f40) Try.f40.results.toList [pkV c a f n d] [] K
theorem bClone_eq (s:ByteArray) (K:Value → AHeap → Prop):bClone s K = (((ByteArray.size s) ≤ (140737488355328:Nat)) ∧ (∀ x1:ByteArray,((x1 = s) → (K (Value.string x1) [])))):=by
 kernel_rfl
theorem okClone:SpecOk Try.prog G0 31 sClone :=
 spec2 mixed tSlc_ok Try.func31 (by kernel_rfl:Try.f31.body = some (codeOf Try.f31)) cClone rfl rfl rfl (by kernel_rfl) (ids:=[]) (by kernel_rfl) trivial (by
  intro args h K hk
  unfold sClone at hk
  split at hk
  · rename_i s
    show bClone s K
    rw [bClone_eq]
    exact ⟨hk.1,fun x h=>by rw [h];exact hk.2⟩
  · exact hk.elim)
theorem validB_iff {a f n:Int} {d:ByteArray}:validB a f n d = true ↔ (0 ≤ a ∧ a ≤ 2047 ∧ 0 ≤ f ∧ f ≤ 3 ∧ 0 ≤ n ∧ n ≤ 16383 ∧ 1 ≤ d.size ∧ d.size ≤ 1024):=by
 unfold validB;rw [decide_eq_true_eq]
theorem okVal:SpecOk Try.prog G0 68 sVal :=
 spec2 mixed none_ok Try.func68 (by kernel_rfl:Try.f68.body = some (codeOf Try.f68)) cVal rfl rfl rfl (by kernel_rfl) (ids:=[]) (by kernel_rfl) trivial (by
  intro args h K hk
  unfold sVal at hk
  split at hk
  · rename_i c a f n d
    show bVal c a f n d K
    rw [bVal_eq]
    have key:∀ b,validB a f n d = b → K (.bool b) []:=fun b hb=>by rw [← hb];exact hk
    have no:¬ (0 ≤ a ∧ a ≤ 2047 ∧ 0 ≤ f ∧ f ≤ 3 ∧ 0 ≤ n ∧ n ≤ 16383 ∧ 1 ≤ d.size ∧ d.size ≤ 1024) → K (.bool false) []:=fun h=>key _ (by unfold validB;rw [decide_eq_false h])
    by_cases h1:a < 0
    · rw [dT h1];exact no (by omega)
    rw [dF h1]
    by_cases h2:a > 2047
    · rw [dT h2];exact no (by omega)
    rw [dF h2]
    by_cases h3:f < 0
    · rw [dT h3];exact no (by omega)
    rw [dF h3]
    by_cases h4:f > 3
    · rw [dT h4];exact no (by omega)
    rw [dF h4]
    by_cases h5:n < 0
    · rw [dT h5];exact no (by omega)
    rw [dF h5]
    by_cases h6:n > 16383
    · rw [dT h6];exact no (by omega)
    rw [dF h6]
    by_cases h7:d.size = 0
    · rw [strEq_iff.2 (size_zero h7)];exact no (by omega)
    rw [strEq_ne (fun e=>h7 (by rw [e];rfl))]
    rintro _ rfl
    by_cases h8:((d.size:Nat):Int) > 1024
    · rw [dT h8];exact no (by omega)
    rw [dF h8]
    exact key _ (validB_iff.2 (by omega))
  · exact hk.elim)
/-! ### the encoding -/
theorem cap64:cap .i64 = 9223372036854775808:=by decide
theorem cap8:cap .u8 = 256:=by decide
theorem wrap8 (N:Nat):IntKind.u8.wrap ((N:Nat):Int) = ((N % 256:Nat):Int):=by rw [wrap_u rfl];simp [IntKind.bits]
theorem hi8 {N:Nat} (h:N < 65536):IntKind.u8.wrap (Int.fdiv ((N:Nat):Int) 256) = ((N / 256:Nat):Int):=by
 rw [show (256:Int) = ((256:Nat):Int) from rfl,fdiv_cast,wrap8,Nat.mod_eq_of_lt (by omega)]
theorem or_add {x y k:Nat} (h:y < 2 ^ k):(x * 2 ^ k) ||| y = x * 2 ^ k + y:=by
 rw [Nat.mul_comm];exact (Nat.two_pow_add_eq_or_of_lt h x).symm
theorem mk_append (l r:List UInt8):(ByteArray.mk ⟨l⟩).append (ByteArray.mk ⟨r⟩) = ByteArray.mk ⟨l ++ r⟩:=by
 show (ByteArray.mk ⟨l⟩) ++ (ByteArray.mk ⟨r⟩) = _
 apply ByteArray.ext
 rw [ByteArray.data_append]
 apply Array.toList_inj.1
 simp
theorem okTwo:SpecOk Try.prog G0 106 sTwo :=
 spec2 mixed none_ok Try.func106 (by kernel_rfl:Try.f106.body = some (codeOf Try.f106)) cTwo rfl rfl rfl (by kernel_rfl) (ids:=[]) (by kernel_rfl) trivial (by
  intro args h K hk
  unfold sTwo at hk
  split at hk
  · rename_i n
    obtain ⟨h0,h1,hk⟩:=hk
    obtain ⟨n,rfl⟩:=nat_of h0
    show bTwo _ K
    rw [bTwo_eq]
    rintro x1 e1 x2 e2 x3 e3 x4 e4 x5 e5
    rw [show (256:Int) = ((256:Nat):Int) from rfl] at e1 e3
    rw [tdiv_cast,wrap_cast .i64 (by rw [cap64];omega)] at e1
    rw [e1,wrap8,Nat.mod_eq_of_lt (by omega)] at e2
    rw [tmod_cast] at e3
    rw [e3,wrap8,Nat.mod_eq_of_lt (by omega)] at e4
    have:x5 = ⟨(by2 n).toArray⟩:=by rw [e5,e2,e4];rfl
    rw [this]
    rw [Int.toNat_natCast] at hk
    exact hk
  · exact hk.elim)
theorem tCode_ok:AllOk Try.prog G0 tCode:=⟨okTwo,trivial⟩
theorem okWords:SpecOk Try.prog G0 94 sWords :=
 spec2 mixed none_ok Try.func94 (by kernel_rfl:Try.f94.body = some (codeOf Try.f94)) iWords rfl rfl rfl (by kernel_rfl) rfl (eachNone (fun _=>rfl) _ 0) (by
  intro args h K hk
  unfold sWords at hk
  split at hk
  · rename_i cc a b c mv
    show bWords a b c cc mv K
    rw [bWords_eq]
    exact hk
  · exact hk.elim)
theorem tWords_ok:AllOk Try.prog G0 tWords:=⟨okWords,trivial⟩
/-- What the three words are. -/
theorem first_or {a:Nat} (ha:a ≤ 2047):iOr .i64 ((a:Nat):Int) 4096 = ((a + 4096:Nat):Int):=by
 rw [show (4096:Int) = ((4096:Nat):Int) from rfl,iOr_cast .i64 (by rw [cap64];omega) (by rw [cap64];omega),Nat.or_comm]
 congr 1
 have:=or_add (x:=1) (y:=a) (k:=12) (by omega)
 simpa [Nat.add_comm] using this
theorem mid_mul {f:Nat} (hf:f ≤ 3):iMul .i64 ((f:Nat):Int) 16384 = ((f * 16384:Nat):Int):=by
 rw [show (16384:Int) = ((16384:Nat):Int) from rfl,iMul_cast .i64 (by rw [cap64];omega)]
theorem mid_or {f n:Nat} (hf:f ≤ 3) (hn:n ≤ 16383):iOr .i64 ((f * 16384:Nat):Int) ((n:Nat):Int) = ((f * 16384 + n:Nat):Int):=by
 rw [iOr_cast .i64 (by rw [cap64];omega) (by rw [cap64];omega)]
 congr 1
 exact or_add (k:=14) (by omega)
theorem sixB {x y z:Nat} (hx:x < 65536) (hy:y < 65536) (hz:z < 65536):bytesOf (six x y z) = ⟨(by2 x ++ (by2 y ++ by2 z)).toArray⟩:=by
 unfold six
 rw [hi8 hx,hi8 hy,hi8 hz,wrap8,wrap8,wrap8]
 rfl
theorem okEnc:SpecOk Try.prog G0 69 sEnc :=
 spec2 mixed tWords_ok Try.func69 (by kernel_rfl:Try.f69.body = some (codeOf Try.f69)) cEnc rfl rfl rfl (by kernel_rfl) (ids:=[]) (by kernel_rfl) trivial (by
  intro args h K hk
  unfold sEnc at hk
  split at hk
  · rename_i c a f n d
    obtain ⟨hv,hk⟩:=hk
    obtain ⟨a0,a1,f0,f1,n0,n1,d0,d1⟩:=validB_iff.1 hv
    obtain ⟨a,rfl⟩:=nat_of a0
    obtain ⟨f,rfl⟩:=nat_of f0
    obtain ⟨n,rfl⟩:=nat_of n0
    rw [Int.toNat_natCast,Int.toNat_natCast,Int.toNat_natCast] at hk
    show bEnc c _ _ _ d K
    rw [bEnc_eq]
    have fin:∀ (A:Nat) (x5:ByteArray),A < 65536 → A = a + (if c then 4096 else 0) → x5 = bytesOf (six A (f * 16384 + n:Nat) (d.size - 1:Nat)) →
     cond (decide (((x5.size + d.size:Nat):Int) ≤ 9223372036854775807)) (∀ x6:ByteArray,x6 = x5.append d → K (.string x6) []) False:=by
     intro A x5 hA hAe h5
     rw [sixB hA (by omega) (by omega)] at h5
     rw [dT (by rw [h5];show (((6 + d.size:Nat):Nat):Int) ≤ _;omega)]
     rintro x6 h6
     have:x6 = encS c a f n d:=by rw [h6,h5,hAe];rfl
     rw [this];exact hk
    cases c with
    | true =>
     rintro x7 h7 x8 h8 x9 h9 x10 h10 x11 h11 x12 h12
     rw [first_or (by omega)] at h7
     rw [mid_mul (by omega)] at h8
     rw [h8,mid_or (by omega) (by omega)] at h9
     rw [h10,show (1:Int) = ((1:Nat):Int) from rfl,iSub_cast .i64 (by omega) (by rw [cap64];omega)] at h11
     rw [h7,h9,h11] at h12
     exact fin (a + 4096) x12 (by omega) rfl h12
    | false =>
     rintro x1 h8 x2 h9 x10 h10 x11 h11 x12 h12
     rw [mid_mul (by omega)] at h8
     rw [h8,mid_or (by omega) (by omega)] at h9
     rw [h10,show (1:Int) = ((1:Nat):Int) from rfl,iSub_cast .i64 (by omega) (by rw [cap64];omega)] at h11
     rw [h9,h11] at h12
     exact fin a x12 (by omega) rfl h12
  · exact hk.elim)
theorem bCode_eq (c:Bool) (a f n:Int) (d:ByteArray) (K:Value → AHeap → Prop):bCode c a f n d K = (cond c (∀ x26:Int,((x26 = (iAdd IntKind.i64 a (4096:Int))) → (∀ x27:Int,((x27 = (iMul IntKind.i64 f (16384:Int))) → (∀ x28:Int,((x28 = (iAdd IntKind.i64 x27 n)) → ((((0:Int) ≤ x26) ∧ ((x26 < (65536:Int)) ∧ (∀ x29:ByteArray,((x29 = (ByteArray.mk (Array.mk (by2 (Int.toNat x26))))) → ((((0:Int) ≤ x28) ∧ ((x28 < (65536:Int)) ∧ (∀ x30:ByteArray,((x30 = (ByteArray.mk (Array.mk (by2 (Int.toNat x28))))) → (cond (decide ((((((ByteArray.size x29) + (ByteArray.size x30):Nat):Nat):Int) ≤ (9223372036854775807:Int)))) (∀ x31:ByteArray,((x31 = (ByteArray.append x29 x30)) → (∀ x32:Int,((x32 = (((ByteArray.size d):Nat):Int)) → (∀ x33:Int,((x33 = (iSub IntKind.i64 x32 (1:Int))) → (((0:Int) ≤ x33) ∧ ((x33 < (65536:Int)) ∧ (∀ x34:ByteArray,((x34 = (ByteArray.mk (Array.mk (by2 (Int.toNat x33))))) → (cond (decide ((((((ByteArray.size x31) + (ByteArray.size x34):Nat):Nat):Int) ≤ (9223372036854775807:Int)))) (∀ x35:ByteArray,((x35 = (ByteArray.append x31 x34)) → (cond (decide ((((((ByteArray.size x35) + (ByteArray.size d):Nat):Nat):Int) ≤ (9223372036854775807:Int)))) (∀ x36:ByteArray,((x36 = (ByteArray.append x35 d)) → (K (Value.string x36) []))) False))) False))))))))))) False))))) ∧ (∀ x37:Int,((x37 = (((ByteArray.size d):Nat):Int)) → (∀ x38:Int,((x38 = (iSub IntKind.i64 x37 (1:Int))) → (((0:Int) ≤ x28) ∧ ((x28 < (65536:Int)) ∧ (∀ x39:ByteArray,((x39 = (ByteArray.mk (Array.mk (by2 (Int.toNat x28))))) → (cond (decide ((((((ByteArray.size x29) + (ByteArray.size x39):Nat):Nat):Int) ≤ (9223372036854775807:Int)))) (∀ x40:ByteArray,((x40 = (ByteArray.append x29 x39)) → (((0:Int) ≤ x38) ∧ ((x38 < (65536:Int)) ∧ (∀ x41:ByteArray,((x41 = (ByteArray.mk (Array.mk (by2 (Int.toNat x38))))) → (cond (decide ((((((ByteArray.size x40) + (ByteArray.size x41):Nat):Nat):Int) ≤ (9223372036854775807:Int)))) (∀ x42:ByteArray,((x42 = (ByteArray.append x40 x41)) → (cond (decide ((((((ByteArray.size x42) + (ByteArray.size d):Nat):Nat):Int) ≤ (9223372036854775807:Int)))) (∀ x43:ByteArray,((x43 = (ByteArray.append x42 d)) → (K (Value.string x43) []))) False))) False))))))) False)))))))))))))) ∧ (∀ x44:Int,((x44 = (((ByteArray.size d):Nat):Int)) → (∀ x45:Int,((x45 = (iSub IntKind.i64 x44 (1:Int))) → (((0:Int) ≤ x26) ∧ ((x26 < (65536:Int)) ∧ (∀ x46:ByteArray,((x46 = (ByteArray.mk (Array.mk (by2 (Int.toNat x26))))) → (((0:Int) ≤ x28) ∧ ((x28 < (65536:Int)) ∧ (∀ x47:ByteArray,((x47 = (ByteArray.mk (Array.mk (by2 (Int.toNat x28))))) → (cond (decide ((((((ByteArray.size x46) + (ByteArray.size x47):Nat):Nat):Int) ≤ (9223372036854775807:Int)))) (∀ x48:ByteArray,((x48 = (ByteArray.append x46 x47)) → (((0:Int) ≤ x45) ∧ ((x45 < (65536:Int)) ∧ (∀ x49:ByteArray,((x49 = (ByteArray.mk (Array.mk (by2 (Int.toNat x45))))) → (cond (decide ((((((ByteArray.size x48) + (ByteArray.size x49):Nat):Nat):Int) ≤ (9223372036854775807:Int)))) (∀ x50:ByteArray,((x50 = (ByteArray.append x48 x49)) → (cond (decide ((((((ByteArray.size x50) + (ByteArray.size d):Nat):Nat):Int) ≤ (9223372036854775807:Int)))) (∀ x51:ByteArray,((x51 = (ByteArray.append x50 d)) → (K (Value.string x51) []))) False))) False))))))) False)))))))))))))))))))) (∀ x1:Int,((x1 = (iMul IntKind.i64 f (16384:Int))) → (∀ x2:Int,((x2 = (iAdd IntKind.i64 x1 n)) → ((((0:Int) ≤ a) ∧ ((a < (65536:Int)) ∧ (∀ x3:ByteArray,((x3 = (ByteArray.mk (Array.mk (by2 (Int.toNat a))))) → ((((0:Int) ≤ x2) ∧ ((x2 < (65536:Int)) ∧ (∀ x4:ByteArray,((x4 = (ByteArray.mk (Array.mk (by2 (Int.toNat x2))))) → (cond (decide ((((((ByteArray.size x3) + (ByteArray.size x4):Nat):Nat):Int) ≤ (9223372036854775807:Int)))) (∀ x5:ByteArray,((x5 = (ByteArray.append x3 x4)) → (∀ x6:Int,((x6 = (((ByteArray.size d):Nat):Int)) → (∀ x7:Int,((x7 = (iSub IntKind.i64 x6 (1:Int))) → (((0:Int) ≤ x7) ∧ ((x7 < (65536:Int)) ∧ (∀ x8:ByteArray,((x8 = (ByteArray.mk (Array.mk (by2 (Int.toNat x7))))) → (cond (decide ((((((ByteArray.size x5) + (ByteArray.size x8):Nat):Nat):Int) ≤ (9223372036854775807:Int)))) (∀ x9:ByteArray,((x9 = (ByteArray.append x5 x8)) → (cond (decide ((((((ByteArray.size x9) + (ByteArray.size d):Nat):Nat):Int) ≤ (9223372036854775807:Int)))) (∀ x10:ByteArray,((x10 = (ByteArray.append x9 d)) → (K (Value.string x10) []))) False))) False))))))))))) False))))) ∧ (∀ x11:Int,((x11 = (((ByteArray.size d):Nat):Int)) → (∀ x12:Int,((x12 = (iSub IntKind.i64 x11 (1:Int))) → (((0:Int) ≤ x2) ∧ ((x2 < (65536:Int)) ∧ (∀ x13:ByteArray,((x13 = (ByteArray.mk (Array.mk (by2 (Int.toNat x2))))) → (cond (decide ((((((ByteArray.size x3) + (ByteArray.size x13):Nat):Nat):Int) ≤ (9223372036854775807:Int)))) (∀ x14:ByteArray,((x14 = (ByteArray.append x3 x13)) → (((0:Int) ≤ x12) ∧ ((x12 < (65536:Int)) ∧ (∀ x15:ByteArray,((x15 = (ByteArray.mk (Array.mk (by2 (Int.toNat x12))))) → (cond (decide ((((((ByteArray.size x14) + (ByteArray.size x15):Nat):Nat):Int) ≤ (9223372036854775807:Int)))) (∀ x16:ByteArray,((x16 = (ByteArray.append x14 x15)) → (cond (decide ((((((ByteArray.size x16) + (ByteArray.size d):Nat):Nat):Int) ≤ (9223372036854775807:Int)))) (∀ x17:ByteArray,((x17 = (ByteArray.append x16 d)) → (K (Value.string x17) []))) False))) False))))))) False)))))))))))))) ∧ (∀ x18:Int,((x18 = (((ByteArray.size d):Nat):Int)) → (∀ x19:Int,((x19 = (iSub IntKind.i64 x18 (1:Int))) → (((0:Int) ≤ a) ∧ ((a < (65536:Int)) ∧ (∀ x20:ByteArray,((x20 = (ByteArray.mk (Array.mk (by2 (Int.toNat a))))) → (((0:Int) ≤ x2) ∧ ((x2 < (65536:Int)) ∧ (∀ x21:ByteArray,((x21 = (ByteArray.mk (Array.mk (by2 (Int.toNat x2))))) → (cond (decide ((((((ByteArray.size x20) + (ByteArray.size x21):Nat):Nat):Int) ≤ (9223372036854775807:Int)))) (∀ x22:ByteArray,((x22 = (ByteArray.append x20 x21)) → (((0:Int) ≤ x19) ∧ ((x19 < (65536:Int)) ∧ (∀ x23:ByteArray,((x23 = (ByteArray.mk (Array.mk (by2 (Int.toNat x19))))) → (cond (decide ((((((ByteArray.size x22) + (ByteArray.size x23):Nat):Nat):Int) ≤ (9223372036854775807:Int)))) (∀ x24:ByteArray,((x24 = (ByteArray.append x22 x23)) → (cond (decide ((((((ByteArray.size x24) + (ByteArray.size d):Nat):Nat):Int) ≤ (9223372036854775807:Int)))) (∀ x25:ByteArray,((x25 = (ByteArray.append x24 d)) → (K (Value.string x25) []))) False))) False))))))) False))))))))))))))))))):=by
 kernel_rfl
theorem okCode:SpecOk Try.prog G0 101 sEnc :=
 spec2 mixed tCode_ok Try.func101 (by kernel_rfl:Try.f101.body = some (codeOf Try.f101)) cCode rfl rfl rfl (by kernel_rfl) (ids:=[]) (by kernel_rfl) trivial (by
  intro args h K hk
  unfold sEnc at hk
  split at hk
  · rename_i c a f n d
    obtain ⟨hv,hk⟩:=hk
    obtain ⟨a0,a1,f0,f1,n0,n1,d0,d1⟩:=validB_iff.1 hv
    obtain ⟨a,rfl⟩:=nat_of a0
    obtain ⟨f,rfl⟩:=nat_of f0
    obtain ⟨n,rfl⟩:=nat_of n0
    rw [Int.toNat_natCast,Int.toNat_natCast,Int.toNat_natCast] at hk
    show bCode c _ _ _ d K
    rw [bCode_eq]
    have e1:iAdd .i64 ((a:Nat):Int) 4096 = ((a + 4096:Nat):Int):=by rw [show (4096:Int) = ((4096:Nat):Int) from rfl,iAdd_cast .i64 (by rw [cap64];omega)]
    have e2:=mid_mul (f:=f) (by omega)
    have e3:iAdd .i64 ((f * 16384:Nat):Int) ((n:Nat):Int) = ((f * 16384 + n:Nat):Int):=iAdd_cast .i64 (by rw [cap64];omega)
    have e4:iSub .i64 ((d.size:Nat):Int) 1 = ((d.size - 1:Nat):Int):=by rw [show (1:Int) = ((1:Nat):Int) from rfl,iSub_cast .i64 (by omega) (by rw [cap64];omega)]
    have c1:∀ (x y:Nat) {A:Prop},cond (decide (((((ByteArray.mk ⟨by2 x⟩).size + (ByteArray.mk ⟨by2 y⟩).size:Nat):Nat):Int) ≤ 9223372036854775807)) A False = A:=fun x y A=>dT (by show (((2 + 2:Nat):Nat):Int) ≤ _;omega)
    have c3:∀ (x y z:Nat) {A:Prop},cond (decide (((((ByteArray.mk ⟨by2 x ++ by2 y⟩).size + (ByteArray.mk ⟨by2 z⟩).size:Nat):Nat):Int) ≤ 9223372036854775807)) A False = A:=fun x y z A=>dT (by show (((4 + 2:Nat):Nat):Int) ≤ _;omega)
    have c2:∀ (x y z:Nat) {A:Prop},cond (decide (((((ByteArray.mk ⟨by2 x ++ by2 y ++ by2 z⟩).size + d.size:Nat):Nat):Int) ≤ 9223372036854775807)) A False = A:=fun x y z A=>dT (by show (((6 + d.size:Nat):Nat):Int) ≤ _;omega)
    have fin:∀ A:Nat,A = a + (if c then 4096 else 0) → K (.string ((ByteArray.mk ⟨(by2 A ++ by2 (f * 16384 + n)) ++ by2 (d.size - 1)⟩).append d)) []:=by
     intro A hA
     have:(ByteArray.mk ⟨(by2 A ++ by2 (f * 16384 + n)) ++ by2 (d.size - 1)⟩).append d = encS c a f n d:=by rw [hA,List.append_assoc];rfl
     rw [this];exact hk
    cases c with
    | true =>
     have hf:=fin (a + 4096) rfl
     simp only [forall_eq,cond_true,e1,e2,e3,e4,Int.toNat_natCast,mk_append,c1,c2,c3]
     and_intros <;> first | exact hf | omega
    | false =>
     have hf:=fin a rfl
     simp only [forall_eq,cond_false,e1,e2,e3,e4,Int.toNat_natCast,mk_append,c1,c2,c3]
     and_intros <;> first | exact hf | omega
  · exact hk.elim)
theorem tPut_ok:AllOk Try.prog G0 tPut:=⟨okVal,okEnc,okCode,trivial⟩
theorem bPut_eq (c:Bool) (a f n:Int) (d:ByteArray) (K:Value → AHeap → Prop):bPut c a f n d K = (cond (!(validB a f n d)) (K (Value.tuple (Array.mk [(Value.string (ByteArray.mk (Array.mk []))),(Value.int IntKind.i64 (2:Int))])) []) (((validB a f n d) = Bool.true) ∧ (∀ x1:ByteArray,((x1 = (encS c (Int.toNat a) (Int.toNat f) (Int.toNat n) d)) → (K (Value.tuple (Array.mk [(Value.string x1),(Value.int IntKind.i64 (0:Int))])) []))))):=by
 kernel_rfl
def putS (c:Bool) (a f n:Int) (d:ByteArray):ByteArray:=if validB a f n d = true then encS c a.toNat f.toNat n.toNat d else ⟨⟨[]⟩⟩
def putE (a f n:Int) (d:ByteArray):Int:=if validB a f n d = true then 0 else 2
def sPut:Spec:=fun args h K=>match args,h with
 | [.agg ⟨[.bool c,.int .i64 a,.int .i64 f,.int .i64 n,.string d]⟩],[]=>K (.tuple ⟨[.string (putS c a f n d),.int .i64 (putE a f n d)]⟩) []
 | _,_=>False
theorem put_key {c:Bool} {a f n:Int} {d:ByteArray} {K:Value → AHeap → Prop} (hk:K (.tuple ⟨[.string (putS c a f n d),.int .i64 (putE a f n d)]⟩) []) :
 (cond (!(validB a f n d)) (K (Value.tuple (Array.mk [(Value.string (ByteArray.mk (Array.mk []))),(Value.int IntKind.i64 (2:Int))])) []) (((validB a f n d) = Bool.true) ∧ (∀ x1:ByteArray,((x1 = (encS c (Int.toNat a) (Int.toNat f) (Int.toNat n) d)) → (K (Value.tuple (Array.mk [(Value.string x1),(Value.int IntKind.i64 (0:Int))])) []))))):=by
 unfold putS putE at hk
 cases h:validB a f n d with
 | true=>rw [if_pos h,if_pos h] at hk;exact ⟨rfl,fun x e=>by rw [e];exact hk⟩
 | false=>rw [if_neg (by rw [h];simp),if_neg (by rw [h];simp)] at hk;exact hk
theorem okPut:SpecOk Try.prog G0 40 sPut :=
 spec2 mixed tPut_ok Try.func40 (by kernel_rfl:Try.f40.body = some (codeOf Try.f40)) cPut rfl rfl rfl (by kernel_rfl) (ids:=[]) (by kernel_rfl) trivial (by
  intro args h K hk
  unfold sPut at hk
  split at hk
  · rename_i c a f n d
    show bPut c a f n d K
    rw [bPut_eq]
    exact put_key hk
  · exact hk.elim)
end Go.Am.Pkt

namespace Go.Am.Pkt
open Go Go.Am Go.Proofs
set_option maxRecDepth 100000

def byt (s:ByteArray) (i:Nat):Nat:=(s.data.toList.getD i 0).toNat
def badP (s:ByteArray):Prop:=(0 < s.size ∧ (32 ≤ byt s 0 ∨ byt s 0 / 8 % 2 = 1)) ∨ (4 < s.size ∧ 4 ≤ byt s 4)
instance (s:ByteArray):Decidable (badP s):=inferInstanceAs (Decidable (_ ∨ _))
def lenT (s:ByteArray):Nat:=6 + byt s 4 * 256 + byt s 5 + 1
def takeE (s:ByteArray):Int:=if badP s then 6 else if s.size < 6 ∨ s.size < lenT s then 4 else 0
def third (s:ByteArray):Nat:=byt s 2 * 256 + byt s 3
def pC (s:ByteArray):Bool:=decide (takeE s = 0 ∧ 16 ≤ byt s 0)
def pA (s:ByteArray):Nat:=if takeE s = 0 then byt s 0 % 8 * 256 + byt s 1 else 0
def pF (s:ByteArray):Nat:=if takeE s = 0 then third s / 16384 else 0
def pN (s:ByteArray):Nat:=if takeE s = 0 then third s % 16384 else 0
def pD (s:ByteArray):ByteArray:=if takeE s = 0 then s.extract 6 (lenT s) else ⟨⟨[]⟩⟩
def pL (s:ByteArray):Nat:=if takeE s = 0 then lenT s else 0
def sTake:Spec:=fun args h K=>match args,h with
 | [.string s],[]=>K (.tuple ⟨[.agg ⟨[.bool (pC s),.int .i64 ((pA s:Nat):Int),.int .i64 ((pF s:Nat):Int),.int .i64 ((pN s:Nat):Int),.string (pD s)]⟩,.int .i64 ((pL s:Nat):Int),.int .i64 (takeE s)]⟩) []
 | _,_=>False
def sBeg:Spec:=fun args h K=>match args,h with
 | [.string s],[]=>K (.bool (!(decide (badP s)))) []
 | _,_=>False
def sWrd:Spec:=fun args h K=>match args,h with
 | [.int .i64 i,.pointer (some ⟨0,0,some 0⟩)],[.ro [.string s] ty]=>0 ≤ i ∧ i + 1 < s.size ∧ i + 1 < 1000 ∧ K (.int .i64 ((byt s i.toNat * 256 + byt s (i.toNat + 1):Nat):Int)) [.ro [.string s] ty]
 | _,_=>False
noncomputable def cBeg:FCfg:=mkG Try.prog G0 [] 22 [(0,[0]),(1,[2])] [] [] [] [] [] 40 0
noncomputable def bBeg (s:ByteArray) (K:Value → AHeap → Prop):Prop:=bodyK cBeg (codeOf Try.f90) Try.f90.results.toList [.string s] [] K
noncomputable def cWrd:FCfg:={ mkG Try.prog G0 [] 15 [(0,[0,1]),(1,[3])] [] [] [] [] [] 40 1 with hold:=lookL [(1,[0])] }
noncomputable def bWrd (s:ByteArray) (i:Int) (ty:TypeId) (K:Value → AHeap → Prop):Prop:=bodyK cWrd (codeOf Try.f91) Try.f91.results.toList [.int .i64 i,.pointer (some ⟨0,0,some 0⟩)] [.ro [.string s] ty] K
noncomputable def cRTake:FCfg:=mkG Try.prog G0 [] 83 [(0,[0,2]),(1,[0,2,32]),(2,[2,3,4]),(3,[0,2,36]),(4,[2,3,4]),(5,[0,2,5]),(6,[0,2,5,51]),(7,[2,3,4]),(8,[0,2,5,6]),(9,[2,5,7]),(10,[2,3,4])] [] [] [] [] [] 40 0
noncomputable def bRTake (s:ByteArray) (K:Value → AHeap → Prop):Prop:=bodyK cRTake (codeOf Try.f63) Try.f63.results.toList [.string s] [] K
theorem bBeg_eq (s:ByteArray) (K:Value → AHeap → Prop):bBeg s K = (∀ x1:Int,((x1 = (((ByteArray.size s):Nat):Int)) → (cond (decide ((x1 < (1:Int)))) (∀ x6:Int,((x6 = (((ByteArray.size s):Nat):Int)) → (cond (decide ((x6 < (5:Int)))) (K (Value.bool Bool.true) []) (cond (decide (((4:Int) < (((ByteArray.size s):Nat):Int)))) (∀ x7:Int,((x7 = (((BitVec.toNat ((List.getD ((s).data).toList (4:Nat) (UInt8.ofBitVec (BitVec.ofNat (8:Nat) 0)))).toBitVec):Nat):Int)) → (K (Value.bool (decide ((x7 < (4:Int))))) []))) False)))) (cond (decide (((0:Int) < (((ByteArray.size s):Nat):Int)))) (∀ x2:Int,((x2 = (((BitVec.toNat ((List.getD ((s).data).toList 0 (UInt8.ofBitVec (BitVec.ofNat (8:Nat) 0)))).toBitVec):Nat):Int)) → (∀ x3:Int,((x3 = (iAnd IntKind.u8 x2 (232:Int))) → (cond (decide ((x3 = (0:Int)))) (∀ x4:Int,((x4 = (((ByteArray.size s):Nat):Int)) → (cond (decide ((x4 < (5:Int)))) (K (Value.bool Bool.true) []) (cond (decide (((4:Int) < (((ByteArray.size s):Nat):Int)))) (∀ x5:Int,((x5 = (((BitVec.toNat ((List.getD ((s).data).toList (4:Nat) (UInt8.ofBitVec (BitVec.ofNat (8:Nat) 0)))).toBitVec):Nat):Int)) → (K (Value.bool (decide ((x5 < (4:Int))))) []))) False)))) (K (Value.bool Bool.false) [])))))) False)))):=by
 kernel_rfl
theorem bWrd_eq (s:ByteArray) (i:Int) (ty:TypeId) (K:Value → AHeap → Prop):bWrd s i ty K = (cond ((decide (((0:Int) ≤ i))) && (decide ((i < (((ByteArray.size s):Nat):Int))))) (∀ x1:Int,((x1 = (((BitVec.toNat ((List.getD ((s).data).toList (Int.toNat i) (UInt8.ofBitVec (BitVec.ofNat (8:Nat) 0)))).toBitVec):Nat):Int)) → (∀ x2:Int,((x2 = (IntKind.wrap IntKind.i64 x1)) → (∀ x3:Int,((x3 = (iMul IntKind.i64 x2 (256:Int))) → (∀ x4:Int,((x4 = (iAdd IntKind.i64 i (1:Int))) → (cond ((decide (((0:Int) ≤ x4))) && (decide ((x4 < (((ByteArray.size s):Nat):Int))))) (∀ x5:Int,((x5 = (((BitVec.toNat ((List.getD ((s).data).toList (Int.toNat x4) (UInt8.ofBitVec (BitVec.ofNat (8:Nat) 0)))).toBitVec):Nat):Int)) → (∀ x6:Int,((x6 = (IntKind.wrap IntKind.i64 x5)) → (∀ x7:Int,((x7 = (iOr IntKind.i64 x3 x6)) → (K (Value.int IntKind.i64 x7) [(AObj.ro [(Value.string s)] ty)]))))))) False))))))))) False):=by
 kernel_rfl
theorem bRTake_eq (s:ByteArray) (K:Value → AHeap → Prop):bRTake s K = (∀ x1:Int,((x1 = (((ByteArray.size s):Nat):Int)) → (cond (decide ((x1 > (0:Int)))) (cond (decide (((0:Int) < (((ByteArray.size s):Nat):Int)))) (∀ x60:Int,((x60 = (((BitVec.toNat ((List.getD ((s).data).toList 0 (UInt8.ofBitVec (BitVec.ofNat (8:Nat) 0)))).toBitVec):Nat):Int)) → (cond (decide ((x60 ≥ (32:Int)))) (K (Value.tuple (Array.mk [(Value.agg (Array.mk [(Value.bool Bool.false),(Value.int IntKind.i64 (0:Int)),(Value.int IntKind.i64 (0:Int)),(Value.int IntKind.i64 (0:Int)),(Value.string (ByteArray.mk (Array.mk [])))])),(Value.int IntKind.i64 (0:Int)),(Value.int IntKind.i64 (6:Int))])) []) (cond (decide (((0:Int) < (((ByteArray.size s):Nat):Int)))) (∀ x61:Int,((x61 = (((BitVec.toNat ((List.getD ((s).data).toList 0 (UInt8.ofBitVec (BitVec.ofNat (8:Nat) 0)))).toBitVec):Nat):Int)) → (∀ x62:Int,((x62 = (IntKind.wrap IntKind.u8 (Int.tdiv x61 (8:Int)))) → (∀ x63:Int,((x63 = (Int.tmod x62 (2:Int))) → (cond (decide ((x63 = (1:Int)))) (K (Value.tuple (Array.mk [(Value.agg (Array.mk [(Value.bool Bool.false),(Value.int IntKind.i64 (0:Int)),(Value.int IntKind.i64 (0:Int)),(Value.int IntKind.i64 (0:Int)),(Value.string (ByteArray.mk (Array.mk [])))])),(Value.int IntKind.i64 (0:Int)),(Value.int IntKind.i64 (6:Int))])) []) (∀ x64:Int,((x64 = (((ByteArray.size s):Nat):Int)) → (cond (decide ((x64 > (4:Int)))) (cond (decide (((4:Int) < (((ByteArray.size s):Nat):Int)))) (∀ x93:Int,((x93 = (((BitVec.toNat ((List.getD ((s).data).toList (4:Nat) (UInt8.ofBitVec (BitVec.ofNat (8:Nat) 0)))).toBitVec):Nat):Int)) → (cond (decide ((x93 ≥ (4:Int)))) (K (Value.tuple (Array.mk [(Value.agg (Array.mk [(Value.bool Bool.false),(Value.int IntKind.i64 (0:Int)),(Value.int IntKind.i64 (0:Int)),(Value.int IntKind.i64 (0:Int)),(Value.string (ByteArray.mk (Array.mk [])))])),(Value.int IntKind.i64 (0:Int)),(Value.int IntKind.i64 (6:Int))])) []) (∀ x94:Int,((x94 = (((ByteArray.size s):Nat):Int)) → (cond (decide ((x94 < (6:Int)))) (K (Value.tuple (Array.mk [(Value.agg (Array.mk [(Value.bool Bool.false),(Value.int IntKind.i64 (0:Int)),(Value.int IntKind.i64 (0:Int)),(Value.int IntKind.i64 (0:Int)),(Value.string (ByteArray.mk (Array.mk [])))])),(Value.int IntKind.i64 (0:Int)),(Value.int IntKind.i64 (4:Int))])) []) (cond (decide (((4:Int) < (((ByteArray.size s):Nat):Int)))) (∀ x95:Int,((x95 = (((BitVec.toNat ((List.getD ((s).data).toList (4:Nat) (UInt8.ofBitVec (BitVec.ofNat (8:Nat) 0)))).toBitVec):Nat):Int)) → (∀ x96:Int,((x96 = (IntKind.wrap IntKind.i64 x95)) → (∀ x97:Int,((x97 = (iMul IntKind.i64 x96 (256:Int))) → (∀ x98:Int,((x98 = (iAdd IntKind.i64 (6:Int) x97)) → (cond (decide (((5:Int) < (((ByteArray.size s):Nat):Int)))) (∀ x99:Int,((x99 = (((BitVec.toNat ((List.getD ((s).data).toList (5:Nat) (UInt8.ofBitVec (BitVec.ofNat (8:Nat) 0)))).toBitVec):Nat):Int)) → (∀ x100:Int,((x100 = (IntKind.wrap IntKind.i64 x99)) → (∀ x101:Int,((x101 = (iAdd IntKind.i64 x98 x100)) → (∀ x102:Int,((x102 = (iAdd IntKind.i64 x101 (1:Int))) → (∀ x103:Int,((x103 = (((ByteArray.size s):Nat):Int)) → (cond (decide ((x103 < x102))) (K (Value.tuple (Array.mk [(Value.agg (Array.mk [(Value.bool Bool.false),(Value.int IntKind.i64 (0:Int)),(Value.int IntKind.i64 (0:Int)),(Value.int IntKind.i64 (0:Int)),(Value.string (ByteArray.mk (Array.mk [])))])),(Value.int IntKind.i64 (0:Int)),(Value.int IntKind.i64 (4:Int))])) []) (cond (decide (((2:Int) < (((ByteArray.size s):Nat):Int)))) (∀ x104:Int,((x104 = (((BitVec.toNat ((List.getD ((s).data).toList (2:Nat) (UInt8.ofBitVec (BitVec.ofNat (8:Nat) 0)))).toBitVec):Nat):Int)) → (∀ x105:Int,((x105 = (IntKind.wrap IntKind.i64 x104)) → (∀ x106:Int,((x106 = (iMul IntKind.i64 x105 (256:Int))) → (cond (decide (((3:Int) < (((ByteArray.size s):Nat):Int)))) (∀ x107:Int,((x107 = (((BitVec.toNat ((List.getD ((s).data).toList (3:Nat) (UInt8.ofBitVec (BitVec.ofNat (8:Nat) 0)))).toBitVec):Nat):Int)) → (∀ x108:Int,((x108 = (IntKind.wrap IntKind.i64 x107)) → (∀ x109:Int,((x109 = (iAdd IntKind.i64 x106 x108)) → (cond (decide (((0:Int) < (((ByteArray.size s):Nat):Int)))) (∀ x110:Int,((x110 = (((BitVec.toNat ((List.getD ((s).data).toList 0 (UInt8.ofBitVec (BitVec.ofNat (8:Nat) 0)))).toBitVec):Nat):Int)) → (cond (decide (((0:Int) < (((ByteArray.size s):Nat):Int)))) (∀ x111:Int,((x111 = (((BitVec.toNat ((List.getD ((s).data).toList 0 (UInt8.ofBitVec (BitVec.ofNat (8:Nat) 0)))).toBitVec):Nat):Int)) → (∀ x112:Int,((x112 = (IntKind.wrap IntKind.i64 x111)) → (∀ x113:Int,((x113 = (Int.tmod x112 (8:Int))) → (∀ x114:Int,((x114 = (iMul IntKind.i64 x113 (256:Int))) → (cond (decide (((1:Int) < (((ByteArray.size s):Nat):Int)))) (∀ x115:Int,((x115 = (((BitVec.toNat ((List.getD ((s).data).toList (1:Nat) (UInt8.ofBitVec (BitVec.ofNat (8:Nat) 0)))).toBitVec):Nat):Int)) → (∀ x116:Int,((x116 = (IntKind.wrap IntKind.i64 x115)) → (∀ x117:Int,((x117 = (iAdd IntKind.i64 x114 x116)) → (∀ x118:Int,((x118 = (IntKind.wrap IntKind.i64 (Int.tdiv x109 (16384:Int)))) → (∀ x119:Int,((x119 = (Int.tmod x109 (16384:Int))) → ((cond ((decide (((6:Int) ≤ x102))) && (decide ((x102 ≤ (((ByteArray.size s):Nat):Int))))) (∀ x120:ByteArray,((x120 = (ByteArray.extract s (6:Nat) (Int.toNat x102))) → ((K (Value.tuple (Array.mk [(Value.agg (Array.mk [(Value.bool (decide ((x110 ≥ (16:Int))))),(Value.int IntKind.i64 x117),(Value.int IntKind.i64 x118),(Value.int IntKind.i64 x119),(Value.string x120)])),(Value.int IntKind.i64 x102),(Value.int IntKind.i64 (0:Int))])) []) ∧ (K (Value.tuple (Array.mk [(Value.agg (Array.mk [(Value.bool (decide ((x110 ≥ (16:Int))))),(Value.int IntKind.i64 x117),(Value.int IntKind.i64 x118),(Value.int IntKind.i64 x119),(Value.string x120)])),(Value.int IntKind.i64 x102),(Value.int IntKind.i64 (0:Int))])) [])))) False) ∧ (cond ((decide (((6:Int) ≤ x102))) && (decide ((x102 ≤ (((ByteArray.size s):Nat):Int))))) (∀ x121:ByteArray,((x121 = (ByteArray.extract s (6:Nat) (Int.toNat x102))) → (K (Value.tuple (Array.mk [(Value.agg (Array.mk [(Value.bool (decide ((x110 ≥ (16:Int))))),(Value.int IntKind.i64 x117),(Value.int IntKind.i64 x118),(Value.int IntKind.i64 x119),(Value.string x121)])),(Value.int IntKind.i64 x102),(Value.int IntKind.i64 (0:Int))])) []))) False)))))))))))) False))))))))) False))) False))))))) False))))))) False)))))))))))) False))))))))) False))))))) False) (∀ x65:Int,((x65 = (((ByteArray.size s):Nat):Int)) → (cond (decide ((x65 < (6:Int)))) (K (Value.tuple (Array.mk [(Value.agg (Array.mk [(Value.bool Bool.false),(Value.int IntKind.i64 (0:Int)),(Value.int IntKind.i64 (0:Int)),(Value.int IntKind.i64 (0:Int)),(Value.string (ByteArray.mk (Array.mk [])))])),(Value.int IntKind.i64 (0:Int)),(Value.int IntKind.i64 (4:Int))])) []) (cond (decide (((4:Int) < (((ByteArray.size s):Nat):Int)))) (∀ x66:Int,((x66 = (((BitVec.toNat ((List.getD ((s).data).toList (4:Nat) (UInt8.ofBitVec (BitVec.ofNat (8:Nat) 0)))).toBitVec):Nat):Int)) → (∀ x67:Int,((x67 = (IntKind.wrap IntKind.i64 x66)) → (∀ x68:Int,((x68 = (iMul IntKind.i64 x67 (256:Int))) → (∀ x69:Int,((x69 = (iAdd IntKind.i64 (6:Int) x68)) → (cond (decide (((5:Int) < (((ByteArray.size s):Nat):Int)))) (∀ x70:Int,((x70 = (((BitVec.toNat ((List.getD ((s).data).toList (5:Nat) (UInt8.ofBitVec (BitVec.ofNat (8:Nat) 0)))).toBitVec):Nat):Int)) → (∀ x71:Int,((x71 = (IntKind.wrap IntKind.i64 x70)) → (∀ x72:Int,((x72 = (iAdd IntKind.i64 x69 x71)) → (∀ x73:Int,((x73 = (iAdd IntKind.i64 x72 (1:Int))) → (∀ x74:Int,((x74 = (((ByteArray.size s):Nat):Int)) → (cond (decide ((x74 < x73))) (K (Value.tuple (Array.mk [(Value.agg (Array.mk [(Value.bool Bool.false),(Value.int IntKind.i64 (0:Int)),(Value.int IntKind.i64 (0:Int)),(Value.int IntKind.i64 (0:Int)),(Value.string (ByteArray.mk (Array.mk [])))])),(Value.int IntKind.i64 (0:Int)),(Value.int IntKind.i64 (4:Int))])) []) (cond (decide (((2:Int) < (((ByteArray.size s):Nat):Int)))) (∀ x75:Int,((x75 = (((BitVec.toNat ((List.getD ((s).data).toList (2:Nat) (UInt8.ofBitVec (BitVec.ofNat (8:Nat) 0)))).toBitVec):Nat):Int)) → (∀ x76:Int,((x76 = (IntKind.wrap IntKind.i64 x75)) → (∀ x77:Int,((x77 = (iMul IntKind.i64 x76 (256:Int))) → (cond (decide (((3:Int) < (((ByteArray.size s):Nat):Int)))) (∀ x78:Int,((x78 = (((BitVec.toNat ((List.getD ((s).data).toList (3:Nat) (UInt8.ofBitVec (BitVec.ofNat (8:Nat) 0)))).toBitVec):Nat):Int)) → (∀ x79:Int,((x79 = (IntKind.wrap IntKind.i64 x78)) → (∀ x80:Int,((x80 = (iAdd IntKind.i64 x77 x79)) → (cond (decide (((0:Int) < (((ByteArray.size s):Nat):Int)))) (∀ x81:Int,((x81 = (((BitVec.toNat ((List.getD ((s).data).toList 0 (UInt8.ofBitVec (BitVec.ofNat (8:Nat) 0)))).toBitVec):Nat):Int)) → (cond (decide (((0:Int) < (((ByteArray.size s):Nat):Int)))) (∀ x82:Int,((x82 = (((BitVec.toNat ((List.getD ((s).data).toList 0 (UInt8.ofBitVec (BitVec.ofNat (8:Nat) 0)))).toBitVec):Nat):Int)) → (∀ x83:Int,((x83 = (IntKind.wrap IntKind.i64 x82)) → (∀ x84:Int,((x84 = (Int.tmod x83 (8:Int))) → (∀ x85:Int,((x85 = (iMul IntKind.i64 x84 (256:Int))) → (cond (decide (((1:Int) < (((ByteArray.size s):Nat):Int)))) (∀ x86:Int,((x86 = (((BitVec.toNat ((List.getD ((s).data).toList (1:Nat) (UInt8.ofBitVec (BitVec.ofNat (8:Nat) 0)))).toBitVec):Nat):Int)) → (∀ x87:Int,((x87 = (IntKind.wrap IntKind.i64 x86)) → (∀ x88:Int,((x88 = (iAdd IntKind.i64 x85 x87)) → (∀ x89:Int,((x89 = (IntKind.wrap IntKind.i64 (Int.tdiv x80 (16384:Int)))) → (∀ x90:Int,((x90 = (Int.tmod x80 (16384:Int))) → ((cond ((decide (((6:Int) ≤ x73))) && (decide ((x73 ≤ (((ByteArray.size s):Nat):Int))))) (∀ x91:ByteArray,((x91 = (ByteArray.extract s (6:Nat) (Int.toNat x73))) → ((K (Value.tuple (Array.mk [(Value.agg (Array.mk [(Value.bool (decide ((x81 ≥ (16:Int))))),(Value.int IntKind.i64 x88),(Value.int IntKind.i64 x89),(Value.int IntKind.i64 x90),(Value.string x91)])),(Value.int IntKind.i64 x73),(Value.int IntKind.i64 (0:Int))])) []) ∧ (K (Value.tuple (Array.mk [(Value.agg (Array.mk [(Value.bool (decide ((x81 ≥ (16:Int))))),(Value.int IntKind.i64 x88),(Value.int IntKind.i64 x89),(Value.int IntKind.i64 x90),(Value.string x91)])),(Value.int IntKind.i64 x73),(Value.int IntKind.i64 (0:Int))])) [])))) False) ∧ (cond ((decide (((6:Int) ≤ x73))) && (decide ((x73 ≤ (((ByteArray.size s):Nat):Int))))) (∀ x92:ByteArray,((x92 = (ByteArray.extract s (6:Nat) (Int.toNat x73))) → (K (Value.tuple (Array.mk [(Value.agg (Array.mk [(Value.bool (decide ((x81 ≥ (16:Int))))),(Value.int IntKind.i64 x88),(Value.int IntKind.i64 x89),(Value.int IntKind.i64 x90),(Value.string x92)])),(Value.int IntKind.i64 x73),(Value.int IntKind.i64 (0:Int))])) []))) False)))))))))))) False))))))))) False))) False))))))) False))))))) False)))))))))))) False))))))))) False)))))))))))))) False)))) False) (∀ x2:Int,((x2 = (((ByteArray.size s):Nat):Int)) → (cond (decide ((x2 > (4:Int)))) (cond (decide (((4:Int) < (((ByteArray.size s):Nat):Int)))) (∀ x31:Int,((x31 = (((BitVec.toNat ((List.getD ((s).data).toList (4:Nat) (UInt8.ofBitVec (BitVec.ofNat (8:Nat) 0)))).toBitVec):Nat):Int)) → (cond (decide ((x31 ≥ (4:Int)))) (K (Value.tuple (Array.mk [(Value.agg (Array.mk [(Value.bool Bool.false),(Value.int IntKind.i64 (0:Int)),(Value.int IntKind.i64 (0:Int)),(Value.int IntKind.i64 (0:Int)),(Value.string (ByteArray.mk (Array.mk [])))])),(Value.int IntKind.i64 (0:Int)),(Value.int IntKind.i64 (6:Int))])) []) (∀ x32:Int,((x32 = (((ByteArray.size s):Nat):Int)) → (cond (decide ((x32 < (6:Int)))) (K (Value.tuple (Array.mk [(Value.agg (Array.mk [(Value.bool Bool.false),(Value.int IntKind.i64 (0:Int)),(Value.int IntKind.i64 (0:Int)),(Value.int IntKind.i64 (0:Int)),(Value.string (ByteArray.mk (Array.mk [])))])),(Value.int IntKind.i64 (0:Int)),(Value.int IntKind.i64 (4:Int))])) []) (cond (decide (((4:Int) < (((ByteArray.size s):Nat):Int)))) (∀ x33:Int,((x33 = (((BitVec.toNat ((List.getD ((s).data).toList (4:Nat) (UInt8.ofBitVec (BitVec.ofNat (8:Nat) 0)))).toBitVec):Nat):Int)) → (∀ x34:Int,((x34 = (IntKind.wrap IntKind.i64 x33)) → (∀ x35:Int,((x35 = (iMul IntKind.i64 x34 (256:Int))) → (∀ x36:Int,((x36 = (iAdd IntKind.i64 (6:Int) x35)) → (cond (decide (((5:Int) < (((ByteArray.size s):Nat):Int)))) (∀ x37:Int,((x37 = (((BitVec.toNat ((List.getD ((s).data).toList (5:Nat) (UInt8.ofBitVec (BitVec.ofNat (8:Nat) 0)))).toBitVec):Nat):Int)) → (∀ x38:Int,((x38 = (IntKind.wrap IntKind.i64 x37)) → (∀ x39:Int,((x39 = (iAdd IntKind.i64 x36 x38)) → (∀ x40:Int,((x40 = (iAdd IntKind.i64 x39 (1:Int))) → (∀ x41:Int,((x41 = (((ByteArray.size s):Nat):Int)) → (cond (decide ((x41 < x40))) (K (Value.tuple (Array.mk [(Value.agg (Array.mk [(Value.bool Bool.false),(Value.int IntKind.i64 (0:Int)),(Value.int IntKind.i64 (0:Int)),(Value.int IntKind.i64 (0:Int)),(Value.string (ByteArray.mk (Array.mk [])))])),(Value.int IntKind.i64 (0:Int)),(Value.int IntKind.i64 (4:Int))])) []) (cond (decide (((2:Int) < (((ByteArray.size s):Nat):Int)))) (∀ x42:Int,((x42 = (((BitVec.toNat ((List.getD ((s).data).toList (2:Nat) (UInt8.ofBitVec (BitVec.ofNat (8:Nat) 0)))).toBitVec):Nat):Int)) → (∀ x43:Int,((x43 = (IntKind.wrap IntKind.i64 x42)) → (∀ x44:Int,((x44 = (iMul IntKind.i64 x43 (256:Int))) → (cond (decide (((3:Int) < (((ByteArray.size s):Nat):Int)))) (∀ x45:Int,((x45 = (((BitVec.toNat ((List.getD ((s).data).toList (3:Nat) (UInt8.ofBitVec (BitVec.ofNat (8:Nat) 0)))).toBitVec):Nat):Int)) → (∀ x46:Int,((x46 = (IntKind.wrap IntKind.i64 x45)) → (∀ x47:Int,((x47 = (iAdd IntKind.i64 x44 x46)) → (cond (decide (((0:Int) < (((ByteArray.size s):Nat):Int)))) (∀ x48:Int,((x48 = (((BitVec.toNat ((List.getD ((s).data).toList 0 (UInt8.ofBitVec (BitVec.ofNat (8:Nat) 0)))).toBitVec):Nat):Int)) → (cond (decide (((0:Int) < (((ByteArray.size s):Nat):Int)))) (∀ x49:Int,((x49 = (((BitVec.toNat ((List.getD ((s).data).toList 0 (UInt8.ofBitVec (BitVec.ofNat (8:Nat) 0)))).toBitVec):Nat):Int)) → (∀ x50:Int,((x50 = (IntKind.wrap IntKind.i64 x49)) → (∀ x51:Int,((x51 = (Int.tmod x50 (8:Int))) → (∀ x52:Int,((x52 = (iMul IntKind.i64 x51 (256:Int))) → (cond (decide (((1:Int) < (((ByteArray.size s):Nat):Int)))) (∀ x53:Int,((x53 = (((BitVec.toNat ((List.getD ((s).data).toList (1:Nat) (UInt8.ofBitVec (BitVec.ofNat (8:Nat) 0)))).toBitVec):Nat):Int)) → (∀ x54:Int,((x54 = (IntKind.wrap IntKind.i64 x53)) → (∀ x55:Int,((x55 = (iAdd IntKind.i64 x52 x54)) → (∀ x56:Int,((x56 = (IntKind.wrap IntKind.i64 (Int.tdiv x47 (16384:Int)))) → (∀ x57:Int,((x57 = (Int.tmod x47 (16384:Int))) → ((cond ((decide (((6:Int) ≤ x40))) && (decide ((x40 ≤ (((ByteArray.size s):Nat):Int))))) (∀ x58:ByteArray,((x58 = (ByteArray.extract s (6:Nat) (Int.toNat x40))) → ((K (Value.tuple (Array.mk [(Value.agg (Array.mk [(Value.bool (decide ((x48 ≥ (16:Int))))),(Value.int IntKind.i64 x55),(Value.int IntKind.i64 x56),(Value.int IntKind.i64 x57),(Value.string x58)])),(Value.int IntKind.i64 x40),(Value.int IntKind.i64 (0:Int))])) []) ∧ (K (Value.tuple (Array.mk [(Value.agg (Array.mk [(Value.bool (decide ((x48 ≥ (16:Int))))),(Value.int IntKind.i64 x55),(Value.int IntKind.i64 x56),(Value.int IntKind.i64 x57),(Value.string x58)])),(Value.int IntKind.i64 x40),(Value.int IntKind.i64 (0:Int))])) [])))) False) ∧ (cond ((decide (((6:Int) ≤ x40))) && (decide ((x40 ≤ (((ByteArray.size s):Nat):Int))))) (∀ x59:ByteArray,((x59 = (ByteArray.extract s (6:Nat) (Int.toNat x40))) → (K (Value.tuple (Array.mk [(Value.agg (Array.mk [(Value.bool (decide ((x48 ≥ (16:Int))))),(Value.int IntKind.i64 x55),(Value.int IntKind.i64 x56),(Value.int IntKind.i64 x57),(Value.string x59)])),(Value.int IntKind.i64 x40),(Value.int IntKind.i64 (0:Int))])) []))) False)))))))))))) False))))))))) False))) False))))))) False))))))) False)))))))))))) False))))))))) False))))))) False) (∀ x3:Int,((x3 = (((ByteArray.size s):Nat):Int)) → (cond (decide ((x3 < (6:Int)))) (K (Value.tuple (Array.mk [(Value.agg (Array.mk [(Value.bool Bool.false),(Value.int IntKind.i64 (0:Int)),(Value.int IntKind.i64 (0:Int)),(Value.int IntKind.i64 (0:Int)),(Value.string (ByteArray.mk (Array.mk [])))])),(Value.int IntKind.i64 (0:Int)),(Value.int IntKind.i64 (4:Int))])) []) (cond (decide (((4:Int) < (((ByteArray.size s):Nat):Int)))) (∀ x4:Int,((x4 = (((BitVec.toNat ((List.getD ((s).data).toList (4:Nat) (UInt8.ofBitVec (BitVec.ofNat (8:Nat) 0)))).toBitVec):Nat):Int)) → (∀ x5:Int,((x5 = (IntKind.wrap IntKind.i64 x4)) → (∀ x6:Int,((x6 = (iMul IntKind.i64 x5 (256:Int))) → (∀ x7:Int,((x7 = (iAdd IntKind.i64 (6:Int) x6)) → (cond (decide (((5:Int) < (((ByteArray.size s):Nat):Int)))) (∀ x8:Int,((x8 = (((BitVec.toNat ((List.getD ((s).data).toList (5:Nat) (UInt8.ofBitVec (BitVec.ofNat (8:Nat) 0)))).toBitVec):Nat):Int)) → (∀ x9:Int,((x9 = (IntKind.wrap IntKind.i64 x8)) → (∀ x10:Int,((x10 = (iAdd IntKind.i64 x7 x9)) → (∀ x11:Int,((x11 = (iAdd IntKind.i64 x10 (1:Int))) → (∀ x12:Int,((x12 = (((ByteArray.size s):Nat):Int)) → (cond (decide ((x12 < x11))) (K (Value.tuple (Array.mk [(Value.agg (Array.mk [(Value.bool Bool.false),(Value.int IntKind.i64 (0:Int)),(Value.int IntKind.i64 (0:Int)),(Value.int IntKind.i64 (0:Int)),(Value.string (ByteArray.mk (Array.mk [])))])),(Value.int IntKind.i64 (0:Int)),(Value.int IntKind.i64 (4:Int))])) []) (cond (decide (((2:Int) < (((ByteArray.size s):Nat):Int)))) (∀ x13:Int,((x13 = (((BitVec.toNat ((List.getD ((s).data).toList (2:Nat) (UInt8.ofBitVec (BitVec.ofNat (8:Nat) 0)))).toBitVec):Nat):Int)) → (∀ x14:Int,((x14 = (IntKind.wrap IntKind.i64 x13)) → (∀ x15:Int,((x15 = (iMul IntKind.i64 x14 (256:Int))) → (cond (decide (((3:Int) < (((ByteArray.size s):Nat):Int)))) (∀ x16:Int,((x16 = (((BitVec.toNat ((List.getD ((s).data).toList (3:Nat) (UInt8.ofBitVec (BitVec.ofNat (8:Nat) 0)))).toBitVec):Nat):Int)) → (∀ x17:Int,((x17 = (IntKind.wrap IntKind.i64 x16)) → (∀ x18:Int,((x18 = (iAdd IntKind.i64 x15 x17)) → (cond (decide (((0:Int) < (((ByteArray.size s):Nat):Int)))) (∀ x19:Int,((x19 = (((BitVec.toNat ((List.getD ((s).data).toList 0 (UInt8.ofBitVec (BitVec.ofNat (8:Nat) 0)))).toBitVec):Nat):Int)) → (cond (decide (((0:Int) < (((ByteArray.size s):Nat):Int)))) (∀ x20:Int,((x20 = (((BitVec.toNat ((List.getD ((s).data).toList 0 (UInt8.ofBitVec (BitVec.ofNat (8:Nat) 0)))).toBitVec):Nat):Int)) → (∀ x21:Int,((x21 = (IntKind.wrap IntKind.i64 x20)) → (∀ x22:Int,((x22 = (Int.tmod x21 (8:Int))) → (∀ x23:Int,((x23 = (iMul IntKind.i64 x22 (256:Int))) → (cond (decide (((1:Int) < (((ByteArray.size s):Nat):Int)))) (∀ x24:Int,((x24 = (((BitVec.toNat ((List.getD ((s).data).toList (1:Nat) (UInt8.ofBitVec (BitVec.ofNat (8:Nat) 0)))).toBitVec):Nat):Int)) → (∀ x25:Int,((x25 = (IntKind.wrap IntKind.i64 x24)) → (∀ x26:Int,((x26 = (iAdd IntKind.i64 x23 x25)) → (∀ x27:Int,((x27 = (IntKind.wrap IntKind.i64 (Int.tdiv x18 (16384:Int)))) → (∀ x28:Int,((x28 = (Int.tmod x18 (16384:Int))) → ((cond ((decide (((6:Int) ≤ x11))) && (decide ((x11 ≤ (((ByteArray.size s):Nat):Int))))) (∀ x29:ByteArray,((x29 = (ByteArray.extract s (6:Nat) (Int.toNat x11))) → ((K (Value.tuple (Array.mk [(Value.agg (Array.mk [(Value.bool (decide ((x19 ≥ (16:Int))))),(Value.int IntKind.i64 x26),(Value.int IntKind.i64 x27),(Value.int IntKind.i64 x28),(Value.string x29)])),(Value.int IntKind.i64 x11),(Value.int IntKind.i64 (0:Int))])) []) ∧ (K (Value.tuple (Array.mk [(Value.agg (Array.mk [(Value.bool (decide ((x19 ≥ (16:Int))))),(Value.int IntKind.i64 x26),(Value.int IntKind.i64 x27),(Value.int IntKind.i64 x28),(Value.string x29)])),(Value.int IntKind.i64 x11),(Value.int IntKind.i64 (0:Int))])) [])))) False) ∧ (cond ((decide (((6:Int) ≤ x11))) && (decide ((x11 ≤ (((ByteArray.size s):Nat):Int))))) (∀ x30:ByteArray,((x30 = (ByteArray.extract s (6:Nat) (Int.toNat x11))) → (K (Value.tuple (Array.mk [(Value.agg (Array.mk [(Value.bool (decide ((x19 ≥ (16:Int))))),(Value.int IntKind.i64 x26),(Value.int IntKind.i64 x27),(Value.int IntKind.i64 x28),(Value.string x30)])),(Value.int IntKind.i64 x11),(Value.int IntKind.i64 (0:Int))])) []))) False)))))))))))) False))))))))) False))) False))))))) False))))))) False)))))))))))) False))))))))) False)))))))))):=by
 kernel_rfl
end Go.Am.Pkt

namespace Go.Am.Pkt
open Go Go.Am Go.Proofs
set_option maxRecDepth 100000

def tTake:List (Nat × Spec):=[(90,sBeg),(91,sWrd),(31,sClone)]
noncomputable def cTake:FCfg:={ mkG Try.prog G0 tTake 46 [(0,[1,2]),(1,[1,2,10]),(2,[2,3,4]),(3,[1,2,14]),(4,[2,3,4]),(5,[1,2,5]),(6,[1,2,5,6]),(7,[1,2,5,6,24]),(8,[2,3,4]),(9,[2,6,7]),(10,[2,3,4])] [] [] [] [] [] 40 0 with hold:=lookL [(9,[0])],ro:=[91],more:=true }
noncomputable def bTake (s:ByteArray) (K:Value → AHeap → Prop):Prop:=bodyK cTake (codeOf Try.f57) Try.f57.results.toList [.string s] [] K
def tGet:List (Nat × Spec):=[(57,sTake),(63,sTake)]
noncomputable def cGet:FCfg:=mkG Try.prog G0 tGet 23 [(0,[0,2]),(1,[0,2,4,5,6]),(2,[2,4,20]),(3,[2,3]),(4,[2,3])] [] [] [] [] [] 40 0
noncomputable def bGet (s:ByteArray) (K:Value → AHeap → Prop):Prop:=bodyK cGet (codeOf Try.f66) Try.f66.results.toList [.string s] [] K
theorem bTake_eq (s:ByteArray) (K:Value → AHeap → Prop):bTake s K = (cond (!(!(decide ((badP (strOf (List.getD (Array.toList (Value.cells (Value.string s))) (Addr.off (newAddr [])) Go.undef))))))) (K (Value.tuple (Array.mk [(Value.agg (Array.mk [(Value.bool Bool.false),(Value.int IntKind.i64 (0:Int)),(Value.int IntKind.i64 (0:Int)),(Value.int IntKind.i64 (0:Int)),(Value.string (ByteArray.mk (Array.mk [])))])),(Value.int IntKind.i64 (0:Int)),(Value.int IntKind.i64 (6:Int))])) []) (∀ x1:Int,((x1 = (((ByteArray.size s):Nat):Int)) → (cond (decide ((x1 < (6:Int)))) (K (Value.tuple (Array.mk [(Value.agg (Array.mk [(Value.bool Bool.false),(Value.int IntKind.i64 (0:Int)),(Value.int IntKind.i64 (0:Int)),(Value.int IntKind.i64 (0:Int)),(Value.string (ByteArray.mk (Array.mk [])))])),(Value.int IntKind.i64 (0:Int)),(Value.int IntKind.i64 (4:Int))])) []) (((0:Int) ≤ (4:Int)) ∧ (((5:Int) < (((ByteArray.size s):Nat):Int)) ∧ (((5:Int) < (1000:Int)) ∧ (∀ x2:Int,((x2 = (((((byt s (4:Nat)) * (256:Nat):Nat) + (byt s (5:Nat)):Nat):Nat):Int)) → (∀ x3:Int,((x3 = (iAdd IntKind.i64 (6:Int) x2)) → (∀ x4:Int,((x4 = (iAdd IntKind.i64 x3 (1:Int))) → (∀ x5:Int,((x5 = (((ByteArray.size s):Nat):Int)) → (cond (decide ((x5 < x4))) (K (Value.tuple (Array.mk [(Value.agg (Array.mk [(Value.bool Bool.false),(Value.int IntKind.i64 (0:Int)),(Value.int IntKind.i64 (0:Int)),(Value.int IntKind.i64 (0:Int)),(Value.string (ByteArray.mk (Array.mk [])))])),(Value.int IntKind.i64 (0:Int)),(Value.int IntKind.i64 (4:Int))])) []) (cond ((decide (((6:Int) ≤ x4))) && (decide ((x4 ≤ (((ByteArray.size s):Nat):Int))))) (∀ x6:ByteArray,((x6 = (ByteArray.extract s (6:Nat) (Int.toNat x4))) → ((((0:Int) ≤ (0:Int)) ∧ (((1:Int) < (((ByteArray.size s):Nat):Int)) ∧ (((1:Int) < (1000:Int)) ∧ (∀ x7:Int,((x7 = (((((byt s 0) * (256:Nat):Nat) + (byt s (1:Nat)):Nat):Nat):Int)) → (∀ x8:Int,((x8 = (iAnd IntKind.i64 x7 (4096:Int))) → ((((0:Int) ≤ (0:Int)) ∧ (((1:Int) < (((ByteArray.size s):Nat):Int)) ∧ (((1:Int) < (1000:Int)) ∧ (∀ x9:Int,((x9 = (((((byt s 0) * (256:Nat):Nat) + (byt s (1:Nat)):Nat):Nat):Int)) → (∀ x10:Int,((x10 = (iAnd IntKind.i64 x9 (2047:Int))) → ((((0:Int) ≤ (2:Int)) ∧ (((3:Int) < (((ByteArray.size s):Nat):Int)) ∧ (((3:Int) < (1000:Int)) ∧ (∀ x11:Int,((x11 = (((((byt s (2:Nat)) * (256:Nat):Nat) + (byt s (3:Nat)):Nat):Nat):Int)) → (∀ x12:Int,((x12 = (Int.fdiv x11 (16384:Int))) → ((((0:Int) ≤ (2:Int)) ∧ (((3:Int) < (((ByteArray.size s):Nat):Int)) ∧ (((3:Int) < (1000:Int)) ∧ (∀ x13:Int,((x13 = (((((byt s (2:Nat)) * (256:Nat):Nat) + (byt s (3:Nat)):Nat):Nat):Int)) → (∀ x14:Int,((x14 = (iAnd IntKind.i64 x13 (16383:Int))) → ((((ByteArray.size x6) ≤ (140737488355328:Nat)) ∧ (∀ x15:ByteArray,((x15 = x6) → ((K (Value.tuple (Array.mk [(Value.agg (Array.mk [(Value.bool (!(decide ((x8 = (0:Int)))))),(Value.int IntKind.i64 x10),(Value.int IntKind.i64 x12),(Value.int IntKind.i64 x14),(Value.string x15)])),(Value.int IntKind.i64 x4),(Value.int IntKind.i64 (0:Int))])) []) ∧ (K (Value.tuple (Array.mk [(Value.agg (Array.mk [(Value.bool (!(decide ((x8 = (0:Int)))))),(Value.int IntKind.i64 x10),(Value.int IntKind.i64 x12),(Value.int IntKind.i64 x14),(Value.string x15)])),(Value.int IntKind.i64 x4),(Value.int IntKind.i64 (0:Int))])) []))))) ∧ (((ByteArray.size x6) ≤ (140737488355328:Nat)) ∧ (∀ x16:ByteArray,((x16 = x6) → (K (Value.tuple (Array.mk [(Value.agg (Array.mk [(Value.bool (!(decide ((x8 = (0:Int)))))),(Value.int IntKind.i64 x10),(Value.int IntKind.i64 x12),(Value.int IntKind.i64 x14),(Value.string x16)])),(Value.int IntKind.i64 x4),(Value.int IntKind.i64 (0:Int))])) [])))))))))))) ∧ (((0:Int) ≤ (2:Int)) ∧ (((3:Int) < (((ByteArray.size s):Nat):Int)) ∧ (((3:Int) < (1000:Int)) ∧ (∀ x17:Int,((x17 = (((((byt s (2:Nat)) * (256:Nat):Nat) + (byt s (3:Nat)):Nat):Nat):Int)) → (∀ x18:Int,((x18 = (iAnd IntKind.i64 x17 (16383:Int))) → (((ByteArray.size x6) ≤ (140737488355328:Nat)) ∧ (∀ x19:ByteArray,((x19 = x6) → (K (Value.tuple (Array.mk [(Value.agg (Array.mk [(Value.bool (!(decide ((x8 = (0:Int)))))),(Value.int IntKind.i64 x10),(Value.int IntKind.i64 x12),(Value.int IntKind.i64 x18),(Value.string x19)])),(Value.int IntKind.i64 x4),(Value.int IntKind.i64 (0:Int))])) []))))))))))))))))))) ∧ (((0:Int) ≤ (2:Int)) ∧ (((3:Int) < (((ByteArray.size s):Nat):Int)) ∧ (((3:Int) < (1000:Int)) ∧ (∀ x20:Int,((x20 = (((((byt s (2:Nat)) * (256:Nat):Nat) + (byt s (3:Nat)):Nat):Nat):Int)) → (∀ x21:Int,((x21 = (Int.fdiv x20 (16384:Int))) → (((0:Int) ≤ (2:Int)) ∧ (((3:Int) < (((ByteArray.size s):Nat):Int)) ∧ (((3:Int) < (1000:Int)) ∧ (∀ x22:Int,((x22 = (((((byt s (2:Nat)) * (256:Nat):Nat) + (byt s (3:Nat)):Nat):Nat):Int)) → (∀ x23:Int,((x23 = (iAnd IntKind.i64 x22 (16383:Int))) → (((ByteArray.size x6) ≤ (140737488355328:Nat)) ∧ (∀ x24:ByteArray,((x24 = x6) → (K (Value.tuple (Array.mk [(Value.agg (Array.mk [(Value.bool (!(decide ((x8 = (0:Int)))))),(Value.int IntKind.i64 x10),(Value.int IntKind.i64 x21),(Value.int IntKind.i64 x23),(Value.string x24)])),(Value.int IntKind.i64 x4),(Value.int IntKind.i64 (0:Int))])) [])))))))))))))))))))))))))) ∧ (((0:Int) ≤ (0:Int)) ∧ (((1:Int) < (((ByteArray.size s):Nat):Int)) ∧ (((1:Int) < (1000:Int)) ∧ (∀ x25:Int,((x25 = (((((byt s 0) * (256:Nat):Nat) + (byt s (1:Nat)):Nat):Nat):Int)) → (∀ x26:Int,((x26 = (iAnd IntKind.i64 x25 (2047:Int))) → (((0:Int) ≤ (2:Int)) ∧ (((3:Int) < (((ByteArray.size s):Nat):Int)) ∧ (((3:Int) < (1000:Int)) ∧ (∀ x27:Int,((x27 = (((((byt s (2:Nat)) * (256:Nat):Nat) + (byt s (3:Nat)):Nat):Nat):Int)) → (∀ x28:Int,((x28 = (Int.fdiv x27 (16384:Int))) → (((0:Int) ≤ (2:Int)) ∧ (((3:Int) < (((ByteArray.size s):Nat):Int)) ∧ (((3:Int) < (1000:Int)) ∧ (∀ x29:Int,((x29 = (((((byt s (2:Nat)) * (256:Nat):Nat) + (byt s (3:Nat)):Nat):Nat):Int)) → (∀ x30:Int,((x30 = (iAnd IntKind.i64 x29 (16383:Int))) → (((ByteArray.size x6) ≤ (140737488355328:Nat)) ∧ (∀ x31:ByteArray,((x31 = x6) → (K (Value.tuple (Array.mk [(Value.agg (Array.mk [(Value.bool (!(decide ((x8 = (0:Int)))))),(Value.int IntKind.i64 x26),(Value.int IntKind.i64 x28),(Value.int IntKind.i64 x30),(Value.string x31)])),(Value.int IntKind.i64 x4),(Value.int IntKind.i64 (0:Int))])) []))))))))))))))))))))))))))))))))) ∧ (((0:Int) ≤ (0:Int)) ∧ (((1:Int) < (((ByteArray.size s):Nat):Int)) ∧ (((1:Int) < (1000:Int)) ∧ (∀ x32:Int,((x32 = (((((byt s 0) * (256:Nat):Nat) + (byt s (1:Nat)):Nat):Nat):Int)) → (∀ x33:Int,((x33 = (iAnd IntKind.i64 x32 (4096:Int))) → (((0:Int) ≤ (0:Int)) ∧ (((1:Int) < (((ByteArray.size s):Nat):Int)) ∧ (((1:Int) < (1000:Int)) ∧ (∀ x34:Int,((x34 = (((((byt s 0) * (256:Nat):Nat) + (byt s (1:Nat)):Nat):Nat):Int)) → (∀ x35:Int,((x35 = (iAnd IntKind.i64 x34 (2047:Int))) → (((0:Int) ≤ (2:Int)) ∧ (((3:Int) < (((ByteArray.size s):Nat):Int)) ∧ (((3:Int) < (1000:Int)) ∧ (∀ x36:Int,((x36 = (((((byt s (2:Nat)) * (256:Nat):Nat) + (byt s (3:Nat)):Nat):Nat):Int)) → (∀ x37:Int,((x37 = (Int.fdiv x36 (16384:Int))) → (((0:Int) ≤ (2:Int)) ∧ (((3:Int) < (((ByteArray.size s):Nat):Int)) ∧ (((3:Int) < (1000:Int)) ∧ (∀ x38:Int,((x38 = (((((byt s (2:Nat)) * (256:Nat):Nat) + (byt s (3:Nat)):Nat):Nat):Int)) → (∀ x39:Int,((x39 = (iAnd IntKind.i64 x38 (16383:Int))) → (((ByteArray.size x6) ≤ (140737488355328:Nat)) ∧ (∀ x40:ByteArray,((x40 = x6) → (K (Value.tuple (Array.mk [(Value.agg (Array.mk [(Value.bool (!(decide ((x33 = (0:Int)))))),(Value.int IntKind.i64 x35),(Value.int IntKind.i64 x37),(Value.int IntKind.i64 x39),(Value.string x40)])),(Value.int IntKind.i64 x4),(Value.int IntKind.i64 (0:Int))])) []))))))))))))))))))))))))))))))))))) False))))))))))))))))):=by
 kernel_rfl
theorem bGet_eq (s:ByteArray) (K:Value → AHeap → Prop):bGet s K = (∀ x1:Int,((x1 = (((pL s):Nat):Int)) → (∀ x2:Int,((x2 = (takeE s)) → (cond (!(decide ((x2 = (0:Int))))) (K (Value.tuple (Array.mk [(Value.agg (Array.mk [(Value.bool Bool.false),(Value.int IntKind.i64 (0:Int)),(Value.int IntKind.i64 (0:Int)),(Value.int IntKind.i64 (0:Int)),(Value.string (ByteArray.mk (Array.mk [])))])),(Value.int IntKind.i64 (6:Int))])) []) (∀ x3:Int,((x3 = (((ByteArray.size s):Nat):Int)) → (cond (!(decide ((x1 = x3)))) (K (Value.tuple (Array.mk [(Value.agg (Array.mk [(Value.bool Bool.false),(Value.int IntKind.i64 (0:Int)),(Value.int IntKind.i64 (0:Int)),(Value.int IntKind.i64 (0:Int)),(Value.string (ByteArray.mk (Array.mk [])))])),(Value.int IntKind.i64 (6:Int))])) []) (K (Value.tuple (Array.mk [(Value.agg (Array.mk [(Value.bool (pC s)),(Value.int IntKind.i64 (((pA s):Nat):Int)),(Value.int IntKind.i64 (((pF s):Nat):Int)),(Value.int IntKind.i64 (((pN s):Nat):Int)),(Value.string (pD s))])),(Value.int IntKind.i64 (0:Int))])) []))))))))):=by
 kernel_rfl
end Go.Am.Pkt

namespace Go.Am.Pkt
open Go Go.Am Go.Proofs
set_option maxRecDepth 100000

theorem byt_lt (s:ByteArray) (i:Nat):byt s i < 256:=UInt8.toNat_lt _
theorem byt_eq (s:ByteArray) (i:Nat):BitVec.toNat (UInt8.toBitVec (List.getD s.data.toList i (UInt8.ofBitVec (BitVec.ofNat 8 0)))) = byt s i:=rfl
theorem w64 {n:Nat} (h:n < 9223372036854775808):IntKind.i64.wrap ((n:Nat):Int) = n:=wrap_cast .i64 (by rw [cap64];exact h)
theorem and232 (b:Nat) (h:b < 256):iAnd .u8 ((b:Nat):Int) 232 = 0 ↔ ¬ (32 ≤ b ∨ b / 8 % 2 = 1):=by
 rw [show (232:Int) = ((232:Nat):Int) from rfl,iAnd_cast .u8 (by rw [cap8];exact h) (by rw [cap8];omega)]
 have:∀ b:Fin 256,(b.val &&& 232 = 0) ↔ ¬ (32 ≤ b.val ∨ b.val / 8 % 2 = 1):=by decide +kernel
 have:=this ⟨b,h⟩
 rw [← this]
 exact ⟨fun e=>Int.ofNat.inj e,fun e=>congrArg Int.ofNat e⟩
theorem okBeg:SpecOk Try.prog G0 90 sBeg :=
 spec2 mixed none_ok Try.func90 (by kernel_rfl:Try.f90.body = some (codeOf Try.f90)) cBeg rfl rfl rfl (by kernel_rfl) (ids:=[]) (by kernel_rfl) trivial (by
  intro args h K hk
  unfold sBeg at hk
  split at hk
  · rename_i s
    show bBeg s K
    rw [bBeg_eq]
    simp only [forall_eq,byt_eq]
    have l0:=byt_lt s 0
    have l4:=byt_lt s 4
    have no:badP s → K (.bool false) []:=fun h=>by rw [decide_eq_true h] at hk;exact hk
    have yes:¬ badP s → K (.bool true) []:=fun h=>by rw [decide_eq_false h] at hk;exact hk
    have tail:¬ (0 < s.size ∧ (32 ≤ byt s 0 ∨ byt s 0 / 8 % 2 = 1)) → cond (decide (((s.size:Nat):Int) < 5)) (K (.bool true) []) (cond (decide ((4:Int) < ((s.size:Nat):Int))) (K (.bool (decide (((byt s 4:Nat):Int) < 4))) []) False):=by
     intro hb
     by_cases h5:((s.size:Nat):Int) < 5
     · rw [dT h5];exact yes (fun h=>by rcases h with h | h;exact hb h;omega)
     · rw [dF h5,dT (by omega)]
       by_cases h4:((byt s 4:Nat):Int) < 4
       · rw [decide_eq_true h4];exact yes (fun h=>by rcases h with h | h;exact hb h;omega)
       · rw [decide_eq_false h4];exact no (.inr (by omega))
    by_cases h1:((s.size:Nat):Int) < 1
    · rw [dT h1];exact tail (by omega)
    · rw [dF h1,dT (by omega)]
      by_cases h2:iAnd .u8 ((byt s 0:Nat):Int) 232 = 0
      · rw [dT h2]
        exact tail (fun h=>(and232 _ l0).1 h2 h.2)
      · rw [dF h2]
        exact no (.inl ⟨by omega,by
         by_cases h:32 ≤ byt s 0 ∨ byt s 0 / 8 % 2 = 1
         · exact h
         · exact absurd ((and232 _ l0).2 h) h2⟩)
  · exact hk.elim)
theorem okWrd:SpecOk Try.prog G0 91 sWrd :=
 spec2 mixed none_ok Try.func91 (by kernel_rfl:Try.f91.body = some (codeOf Try.f91)) cWrd rfl rfl rfl (by kernel_rfl) (ids:=[]) (by kernel_rfl) trivial (by
  intro args h K hk
  unfold sWrd at hk
  split at hk
  · rename_i i s ty
    obtain ⟨h0,h1,h2,hk⟩:=hk
    obtain ⟨i,rfl⟩:=nat_of h0
    show bWrd s _ ty K
    rw [bWrd_eq]
    have e1:iAdd .i64 ((i:Nat):Int) 1 = ((i + 1:Nat):Int):=by rw [show (1:Int) = ((1:Nat):Int) from rfl,iAdd_cast .i64 (by rw [cap64];omega)]
    have l0:=byt_lt s i
    have l1:=byt_lt s (i + 1)
    simp only [forall_eq,byt_eq,Int.toNat_natCast,e1]
    rw [dT2 (by omega) (by omega),dT2 (by omega) (by omega),w64 (by omega),w64 (by omega)]
    rw [show (256:Int) = ((256:Nat):Int) from rfl,iMul_cast .i64 (by rw [cap64];omega),iOr_cast .i64 (by rw [cap64];omega) (by rw [cap64];omega),show (256:Nat) = 2 ^ 8 from rfl,or_add (by omega)]
    rw [Int.toNat_natCast] at hk
    exact hk
  · exact hk.elim)
/-- The result, when there is no packet. -/
theorem take_no {s:ByteArray} {K:Value → AHeap → Prop} (hk:K (.tuple ⟨[.agg ⟨[.bool (pC s),.int .i64 ((pA s:Nat):Int),.int .i64 ((pF s:Nat):Int),.int .i64 ((pN s:Nat):Int),.string (pD s)]⟩,.int .i64 ((pL s:Nat):Int),.int .i64 (takeE s)]⟩) []) {e:Int} (he:takeE s = e) (h0:e ≠ 0) :
 K (.tuple ⟨[.agg ⟨[.bool false,.int .i64 0,.int .i64 0,.int .i64 0,.string ⟨⟨[]⟩⟩]⟩,.int .i64 0,.int .i64 e]⟩) []:=by
 subst he
 have e1:pC s = false:=by unfold pC;rw [decide_eq_false (fun h=>h0 h.1)]
 unfold pA pF pN pD pL at hk
 rw [e1,if_neg h0,if_neg h0,if_neg h0,if_neg h0,if_neg h0] at hk
 exact hk
theorem take_yes {s:ByteArray} {K:Value → AHeap → Prop} (hk:K (.tuple ⟨[.agg ⟨[.bool (pC s),.int .i64 ((pA s:Nat):Int),.int .i64 ((pF s:Nat):Int),.int .i64 ((pN s:Nat):Int),.string (pD s)]⟩,.int .i64 ((pL s:Nat):Int),.int .i64 (takeE s)]⟩) []) (h0:takeE s = 0) :
 K (.tuple ⟨[.agg ⟨[.bool (decide (16 ≤ byt s 0)),.int .i64 ((byt s 0 % 8 * 256 + byt s 1:Nat):Int),.int .i64 ((third s / 16384:Nat):Int),.int .i64 ((third s % 16384:Nat):Int),.string (s.extract 6 (lenT s))]⟩,.int .i64 ((lenT s:Nat):Int),.int .i64 0]⟩) []:=by
 have e1:pC s = decide (16 ≤ byt s 0):=by unfold pC;simp [h0]
 unfold pA pF pN pD pL at hk
 rw [e1,if_pos h0,if_pos h0,if_pos h0,if_pos h0,if_pos h0,h0] at hk
 exact hk
theorem takeE_bad {s:ByteArray} (h:badP s):takeE s = 6:=by unfold takeE;rw [if_pos h]
theorem takeE_short {s:ByteArray} (h:¬ badP s) (h2:s.size < 6 ∨ s.size < lenT s):takeE s = 4:=by unfold takeE;rw [if_neg h,if_pos h2]
theorem takeE_ok {s:ByteArray} (h:¬ badP s) (h2:¬ (s.size < 6 ∨ s.size < lenT s)):takeE s = 0:=by unfold takeE;rw [if_neg h,if_neg h2]
theorem okRTake:SpecOk Try.prog G0 63 sTake :=
 spec2 mixed none_ok Try.func63 (by kernel_rfl:Try.f63.body = some (codeOf Try.f63)) cRTake rfl rfl rfl (by kernel_rfl) (ids:=[]) (by kernel_rfl) trivial (by
  intro args h K hk
  unfold sTake at hk
  split at hk
  · rename_i s
    show bRTake s K
    rw [bRTake_eq]
    have l0:=byt_lt s 0
    have l1:=byt_lt s 1
    have l2:=byt_lt s 2
    have l3:=byt_lt s 3
    have l4:=byt_lt s 4
    have l5:=byt_lt s 5
    have eb:Int.tmod (IntKind.u8.wrap (Int.tdiv ((byt s 0:Nat):Int) 8)) 2 = ((byt s 0 / 8 % 2:Nat):Int):=by
     rw [show (8:Int) = ((8:Nat):Int) from rfl,tdiv_cast,wrap8,Nat.mod_eq_of_lt (by omega),show (2:Int) = ((2:Nat):Int) from rfl,tmod_cast]
    have e4:iAdd .i64 (iAdd .i64 (iAdd .i64 6 (iMul .i64 (IntKind.i64.wrap ((byt s 4:Nat):Int)) 256)) (IntKind.i64.wrap ((byt s 5:Nat):Int))) 1 = ((lenT s:Nat):Int):=by
     rw [w64 (by omega),w64 (by omega),show (256:Int) = ((256:Nat):Int) from rfl,iMul_cast .i64 (by rw [cap64];omega),show (6:Int) = ((6:Nat):Int) from rfl,iAdd_cast .i64 (by rw [cap64];omega),iAdd_cast .i64 (by rw [cap64];omega),
      show (1:Int) = ((1:Nat):Int) from rfl,iAdd_cast .i64 (by rw [cap64];omega)]
     rfl
    have e3:iAdd .i64 (iMul .i64 (IntKind.i64.wrap ((byt s 2:Nat):Int)) 256) (IntKind.i64.wrap ((byt s 3:Nat):Int)) = ((third s:Nat):Int):=by
     rw [w64 (by omega),w64 (by omega),show (256:Int) = ((256:Nat):Int) from rfl,iMul_cast .i64 (by rw [cap64];omega),iAdd_cast .i64 (by rw [cap64];omega)]
     rfl
    have h3:third s < 65536:=by unfold third;omega
    have eA:iAdd .i64 (iMul .i64 (Int.tmod (IntKind.i64.wrap ((byt s 0:Nat):Int)) 8) 256) (IntKind.i64.wrap ((byt s 1:Nat):Int)) = ((byt s 0 % 8 * 256 + byt s 1:Nat):Int):=by
     rw [w64 (by omega),w64 (by omega),show (8:Int) = ((8:Nat):Int) from rfl,tmod_cast,show (256:Int) = ((256:Nat):Int) from rfl,iMul_cast .i64 (by rw [cap64];omega),iAdd_cast .i64 (by rw [cap64];omega)]
    have eF:IntKind.i64.wrap (Int.tdiv ((third s:Nat):Int) 16384) = ((third s / 16384:Nat):Int):=by
     rw [show (16384:Int) = ((16384:Nat):Int) from rfl,tdiv_cast,w64 (by omega)]
    have eN:Int.tmod ((third s:Nat):Int) 16384 = ((third s % 16384:Nat):Int):=by
     rw [show (16384:Int) = ((16384:Nat):Int) from rfl,tmod_cast]
    simp only [forall_eq,byt_eq,eb,e4,e3,eA,eF,eN,Int.toNat_natCast]
    have no6:badP s → _:=fun h=>take_no hk (takeE_bad h) (by decide)
    have no4:¬ badP s → (s.size < 6 ∨ s.size < lenT s) → _:=fun h h2=>take_no hk (takeE_short h h2) (by decide)
    by_cases z:s.size = 0
    · have nb:¬ badP s:=fun h=>by rcases h with h | h <;> omega
      rw [dF (by omega),dF (by omega),dT (by omega)]
      exact no4 nb (.inl (by omega))
    rw [dT (by omega),dT (by omega)]
    by_cases c1:32 ≤ byt s 0
    · rw [dT (by omega)];exact no6 (.inl ⟨by omega,.inl c1⟩)
    rw [dF (by omega),dT (by omega)]
    by_cases c2:byt s 0 / 8 % 2 = 1
    · rw [dT (by omega)];exact no6 (.inl ⟨by omega,.inr c2⟩)
    rw [dF (by omega)]
    by_cases z4:s.size ≤ 4
    · have nb:¬ badP s:=fun h=>by rcases h with ⟨_,h⟩ | h <;> omega
      rw [dF (by omega),dT (by omega)]
      exact no4 nb (.inl (by omega))
    rw [dT (by omega),dT (by omega)]
    by_cases c4:4 ≤ byt s 4
    · rw [dT (by omega)];exact no6 (.inr ⟨by omega,c4⟩)
    have nb:¬ badP s:=fun h=>by rcases h with ⟨_,h⟩ | h <;> omega
    rw [dF (by omega)]
    by_cases z6:s.size < 6
    · rw [dT (by omega)];exact no4 nb (.inl z6)
    rw [dF (by omega),dT (by omega),dT (by omega)]
    by_cases zl:s.size < lenT s
    · rw [dT (by omega)];exact no4 nb (.inr zl)
    have hl:6 ≤ lenT s:=by unfold lenT;omega
    have hy:=take_yes hk (takeE_ok nb (by omega))
    have e16:decide (((byt s 0:Nat):Int) ≥ 16) = decide (16 ≤ byt s 0):=by
     by_cases h:16 ≤ byt s 0
     · rw [decide_eq_true h,decide_eq_true (by omega)]
     · rw [decide_eq_false h,decide_eq_false (by omega)]
    rw [dF (by omega),dT (by omega),dT (by omega),dT (by omega),dT (by omega),dT (by omega),dT2 (by omega) (by omega),e16]
    and_intros <;> first | exact hy | (rw [dT2 (by omega) (by omega)];first | exact hy | exact ⟨hy,hy⟩)
  · exact hk.elim)
theorem tTake_ok:AllOk Try.prog G0 tTake:=⟨okBeg,okWrd,okClone,trivial⟩
theorem and_mod {x:Nat} (k:Nat) (hx:x < 65536) (hk:k ≤ 16):iAnd .i64 ((x:Nat):Int) ((2 ^ k - 1:Nat):Int) = ((x % 2 ^ k:Nat):Int):=by
 have:2 ^ k ≤ 2 ^ 16:=Nat.pow_le_pow_right (by omega) hk
 rw [iAnd_cast .i64 (by rw [cap64];omega) (by rw [cap64];omega),Nat.and_two_pow_sub_one_eq_mod]
theorem and_bit {x:Nat} (hx:x < 65536):iAnd .i64 ((x:Nat):Int) 4096 = ((x / 4096 % 2 * 4096:Nat):Int):=by
 rw [show (4096:Int) = ((4096:Nat):Int) from rfl,iAnd_cast .i64 (by rw [cap64];omega) (by rw [cap64];omega),show (4096:Nat) = 2 ^ 12 from rfl]
 congr 1
 apply Nat.eq_of_testBit_eq
 intro i
 rw [Nat.testBit_and,Nat.testBit_two_pow,Nat.testBit_mul_two_pow]
 by_cases h:12 = i
 · subst h
   simp [Nat.testBit_eq_decide_div_mod_eq]
 · rw [decide_eq_false h,Bool.and_false]
   by_cases h2:i ≥ 12
   · rw [Nat.testBit_lt_two_pow (x:=x / 2 ^ 12 % 2) (i:=i - 12) (by
      have:=Nat.pow_le_pow_right (n:=2) (by omega) (show 1 ≤ i - 12 by omega)
      have:x / 2 ^ 12 % 2 < 2:=Nat.mod_lt _ (by omega)
      omega),Bool.and_false]
   · rw [decide_eq_false h2,Bool.false_and]
theorem okTake:SpecOk Try.prog G0 57 sTake :=
 spec2 mixed tTake_ok Try.func57 (by kernel_rfl:Try.f57.body = some (codeOf Try.f57)) cTake rfl rfl rfl (by kernel_rfl) (ids:=[]) (by kernel_rfl) trivial (by
  intro args h K hk
  unfold sTake at hk
  split at hk
  · rename_i s
    show bTake s K
    rw [bTake_eq]
    have l0:=byt_lt s 0
    have l1:=byt_lt s 1
    have l2:=byt_lt s 2
    have l3:=byt_lt s 3
    have l4:=byt_lt s 4
    have l5:=byt_lt s 5
    have e4:iAdd .i64 (iAdd .i64 6 ((byt s 4 * 256 + byt s 5:Nat):Int)) 1 = ((lenT s:Nat):Int):=by
     rw [show (6:Int) = ((6:Nat):Int) from rfl,iAdd_cast .i64 (by rw [cap64];omega),show (1:Int) = ((1:Nat):Int) from rfl,iAdd_cast .i64 (by rw [cap64];omega)]
     congr 1
     unfold lenT;omega
    have eC:iAnd .i64 ((byt s 0 * 256 + byt s 1:Nat):Int) 4096 = (((byt s 0 * 256 + byt s 1) / 4096 % 2 * 4096:Nat):Int):=and_bit (by omega)
    have eA:iAnd .i64 ((byt s 0 * 256 + byt s 1:Nat):Int) 2047 = ((byt s 0 % 8 * 256 + byt s 1:Nat):Int):=by
     have:=and_mod (x:=byt s 0 * 256 + byt s 1) 11 (by omega) (by omega)
     rw [show (2047:Int) = ((2 ^ 11 - 1:Nat):Int) from rfl,this]
     congr 1;omega
    have e3:byt s 2 * 256 + byt s 3 = third s:=rfl
    have h3:third s < 65536:=by unfold third;omega
    have eN:iAnd .i64 ((third s:Nat):Int) 16383 = ((third s % 16384:Nat):Int):=and_mod (x:=third s) 14 h3 (by omega)
    have eF:Int.fdiv ((third s:Nat):Int) 16384 = ((third s / 16384:Nat):Int):=by
     rw [show (16384:Int) = ((16384:Nat):Int) from rfl,fdiv_cast]
    have e0:(strOf (List.getD (Array.toList (Value.cells (Value.string s))) (Addr.off (newAddr [])) Go.undef)) = s:=rfl
    simp only [forall_eq,e0,e4,eC,eA,e3,eN,eF,Int.toNat_natCast,Bool.not_not]
    have no6:badP s → _:=fun h=>take_no hk (takeE_bad h) (by decide)
    have no4:¬ badP s → (s.size < 6 ∨ s.size < lenT s) → _:=fun h h2=>take_no hk (takeE_short h h2) (by decide)
    by_cases nb:badP s
    · rw [dT nb];exact no6 nb
    rw [dF nb]
    by_cases z6:s.size < 6
    · rw [dT (by omega)];exact no4 nb (.inl z6)
    rw [dF (by omega)]
    refine ⟨by omega,by omega,by omega,?_⟩
    by_cases zl:s.size < lenT s
    · rw [dT (by omega)];exact no4 nb (.inr zl)
    have hl:6 ≤ lenT s:=by unfold lenT;omega
    have hl2:lenT s ≤ 1030:=by
     have:¬ 4 ≤ byt s 4:=fun h=>nb (.inr ⟨by omega,h⟩)
     unfold lenT;omega
    have hy:=take_yes hk (takeE_ok nb (by omega))
    have hb0:byt s 0 < 32:=by
     have:¬ 32 ≤ byt s 0:=fun h=>nb (.inl ⟨by omega,.inl h⟩)
     omega
    have e16:(!decide ((((byt s 0 * 256 + byt s 1) / 4096 % 2 * 4096:Nat):Int) = 0)) = decide (16 ≤ byt s 0):=by
     by_cases h:16 ≤ byt s 0
     · rw [decide_eq_true h,decide_eq_false (by omega)];rfl
     · rw [decide_eq_false h,decide_eq_true (by omega)];rfl
    have hsz:(s.extract 6 (lenT s)).size ≤ 140737488355328:=by
     rw [ByteArray.size_extract];omega
    rw [dF (by omega),dT2 (by omega) (by omega),e16]
    and_intros <;> first | exact hy | exact hsz | omega
  · exact hk.elim)
theorem tGet_ok:AllOk Try.prog G0 tGet:=⟨okTake,okRTake,trivial⟩
def getE (s:ByteArray):Int:=if takeE s = 0 ∧ pL s = s.size then 0 else 6
def gC (s:ByteArray):Bool:=decide (getE s = 0) && pC s
def gA (s:ByteArray):Nat:=if getE s = 0 then pA s else 0
def gF (s:ByteArray):Nat:=if getE s = 0 then pF s else 0
def gN (s:ByteArray):Nat:=if getE s = 0 then pN s else 0
def gD (s:ByteArray):ByteArray:=if getE s = 0 then pD s else ⟨⟨[]⟩⟩
def sGet:Spec:=fun args h K=>match args,h with
 | [.string s],[]=>K (.tuple ⟨[.agg ⟨[.bool (gC s),.int .i64 ((gA s:Nat):Int),.int .i64 ((gF s:Nat):Int),.int .i64 ((gN s:Nat):Int),.string (gD s)]⟩,.int .i64 (getE s)]⟩) []
 | _,_=>False
theorem get_key {s:ByteArray} {K:Value → AHeap → Prop} (hk:K (.tuple ⟨[.agg ⟨[.bool (gC s),.int .i64 ((gA s:Nat):Int),.int .i64 ((gF s:Nat):Int),.int .i64 ((gN s:Nat):Int),.string (gD s)]⟩,.int .i64 (getE s)]⟩) []) :
 (takeE s = 0 ∧ pL s = s.size → K (.tuple ⟨[.agg ⟨[.bool (pC s),.int .i64 ((pA s:Nat):Int),.int .i64 ((pF s:Nat):Int),.int .i64 ((pN s:Nat):Int),.string (pD s)]⟩,.int .i64 0]⟩) []) ∧
 (¬ (takeE s = 0 ∧ pL s = s.size) → K (.tuple ⟨[.agg ⟨[.bool false,.int .i64 0,.int .i64 0,.int .i64 0,.string ⟨⟨[]⟩⟩]⟩,.int .i64 6]⟩) []):=by
 constructor
 · intro h
   have e:getE s = 0:=by unfold getE;rw [if_pos h]
   unfold gC gA gF gN gD at hk
   rw [e] at hk
   simpa using hk
 · intro h
   have e:getE s = 6:=by unfold getE;rw [if_neg h]
   unfold gC gA gF gN gD at hk
   rw [e] at hk
   simpa using hk
theorem okGet:SpecOk Try.prog G0 66 sGet :=
 spec2 mixed tGet_ok Try.func66 (by kernel_rfl:Try.f66.body = some (codeOf Try.f66)) cGet rfl rfl rfl (by kernel_rfl) (ids:=[]) (by kernel_rfl) trivial (by
  intro args h K hk
  unfold sGet at hk
  split at hk
  · rename_i s
    show bGet s K
    rw [bGet_eq]
    obtain ⟨h1,h2⟩:=get_key hk
    simp only [forall_eq]
    by_cases c1:takeE s = 0
    · rw [dnT c1]
      by_cases c2:pL s = s.size
      · rw [dnT (by omega)];exact h1 ⟨c1,c2⟩
      · rw [dnF (by omega)];exact h2 (fun h=>c2 h.2)
    · rw [dnF c1];exact h2 (fun h=>c1 h.1)
  · exact hk.elim)
end Go.Am.Pkt
