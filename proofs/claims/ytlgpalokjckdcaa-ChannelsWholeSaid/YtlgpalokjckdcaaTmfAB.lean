/-
  Tmframe: the functions on plain values, their summaries. Own work.
-/
import Derived.Test.YtlgpalokjckdcaaTmfAA
import Derived.Test.YtlgpalokjckdcaaPktX
import Derived.Test.YtlgpalokjckdcaaOwnA
namespace Go.Am.Tmf
open Go Go.Am Go.Am.Lib Go.Proofs
open Go.Am.Pkt (G0 codeOf mixed none_ok)
set_option maxRecDepth 100000

/-- the table -/
def crcT:List Value:=[.int .u16 0,.int .u16 4129,.int .u16 8258,.int .u16 12387,.int .u16 16516,.int .u16 20645,.int .u16 24774,.int .u16 28903,.int .u16 33032,.int .u16 37161,.int .u16 41290,.int .u16 45419,.int .u16 49548,.int .u16 53677,.int .u16 57806,.int .u16 61935,.int .u16 4657,.int .u16 528,.int .u16 12915,.int .u16 8786,.int .u16 21173,.int .u16 17044,.int .u16 29431,.int .u16 25302,.int .u16 37689,.int .u16 33560,.int .u16 45947,.int .u16 41818,.int .u16 54205,.int .u16 50076,.int .u16 62463,.int .u16 58334,.int .u16 9314,.int .u16 13379,.int .u16 1056,.int .u16 5121,.int .u16 25830,.int .u16 29895,.int .u16 17572,.int .u16 21637,.int .u16 42346,.int .u16 46411,.int .u16 34088,.int .u16 38153,.int .u16 58862,.int .u16 62927,.int .u16 50604,.int .u16 54669,.int .u16 13907,.int .u16 9842,.int .u16 5649,.int .u16 1584,.int .u16 30423,.int .u16 26358,.int .u16 22165,.int .u16 18100,.int .u16 46939,.int .u16 42874,.int .u16 38681,.int .u16 34616,.int .u16 63455,.int .u16 59390,.int .u16 55197,.int .u16 51132,.int .u16 18628,.int .u16 22757,.int .u16 26758,.int .u16 30887,.int .u16 2112,.int .u16 6241,.int .u16 10242,.int .u16 14371,.int .u16 51660,.int .u16 55789,.int .u16 59790,.int .u16 63919,.int .u16 35144,.int .u16 39273,.int .u16 43274,.int .u16 47403,.int .u16 23285,.int .u16 19156,.int .u16 31415,.int .u16 27286,.int .u16 6769,.int .u16 2640,.int .u16 14899,.int .u16 10770,.int .u16 56317,.int .u16 52188,.int .u16 64447,.int .u16 60318,.int .u16 39801,.int .u16 35672,.int .u16 47931,.int .u16 43802,.int .u16 27814,.int .u16 31879,.int .u16 19684,.int .u16 23749,.int .u16 11298,.int .u16 15363,.int .u16 3168,.int .u16 7233,.int .u16 60846,.int .u16 64911,.int .u16 52716,.int .u16 56781,.int .u16 44330,.int .u16 48395,.int .u16 36200,.int .u16 40265,.int .u16 32407,.int .u16 28342,.int .u16 24277,.int .u16 20212,.int .u16 15891,.int .u16 11826,.int .u16 7761,.int .u16 3696,.int .u16 65439,.int .u16 61374,.int .u16 57309,.int .u16 53244,.int .u16 48923,.int .u16 44858,.int .u16 40793,.int .u16 36728,.int .u16 37256,.int .u16 33193,.int .u16 45514,.int .u16 41451,.int .u16 53516,.int .u16 49453,.int .u16 61774,.int .u16 57711,.int .u16 4224,.int .u16 161,.int .u16 12482,.int .u16 8419,.int .u16 20484,.int .u16 16421,.int .u16 28742,.int .u16 24679,.int .u16 33721,.int .u16 37784,.int .u16 41979,.int .u16 46042,.int .u16 49981,.int .u16 54044,.int .u16 58239,.int .u16 62302,.int .u16 689,.int .u16 4752,.int .u16 8947,.int .u16 13010,.int .u16 16949,.int .u16 21012,.int .u16 25207,.int .u16 29270,.int .u16 46570,.int .u16 42443,.int .u16 38312,.int .u16 34185,.int .u16 62830,.int .u16 58703,.int .u16 54572,.int .u16 50445,.int .u16 13538,.int .u16 9411,.int .u16 5280,.int .u16 1153,.int .u16 29798,.int .u16 25671,.int .u16 21540,.int .u16 17413,.int .u16 42971,.int .u16 47098,.int .u16 34713,.int .u16 38840,.int .u16 59231,.int .u16 63358,.int .u16 50973,.int .u16 55100,.int .u16 9939,.int .u16 14066,.int .u16 1681,.int .u16 5808,.int .u16 26199,.int .u16 30326,.int .u16 17941,.int .u16 22068,.int .u16 55628,.int .u16 51565,.int .u16 63758,.int .u16 59695,.int .u16 39368,.int .u16 35305,.int .u16 47498,.int .u16 43435,.int .u16 22596,.int .u16 18533,.int .u16 30726,.int .u16 26663,.int .u16 6336,.int .u16 2273,.int .u16 14466,.int .u16 10403,.int .u16 52093,.int .u16 56156,.int .u16 60223,.int .u16 64286,.int .u16 35833,.int .u16 39896,.int .u16 43963,.int .u16 48026,.int .u16 19061,.int .u16 23124,.int .u16 27191,.int .u16 31254,.int .u16 2801,.int .u16 6864,.int .u16 10931,.int .u16 14994,.int .u16 64814,.int .u16 60687,.int .u16 56684,.int .u16 52557,.int .u16 48554,.int .u16 44427,.int .u16 40424,.int .u16 36297,.int .u16 31782,.int .u16 27655,.int .u16 23652,.int .u16 19525,.int .u16 15522,.int .u16 11395,.int .u16 7392,.int .u16 3265,.int .u16 61215,.int .u16 65342,.int .u16 53085,.int .u16 57212,.int .u16 44955,.int .u16 49082,.int .u16 36825,.int .u16 40952,.int .u16 28183,.int .u16 32310,.int .u16 20053,.int .u16 24180,.int .u16 11923,.int .u16 16050,.int .u16 3793,.int .u16 7920]
def cellT (i:Nat):Value:=.int .u16 ((stpN 8 (i * 256):Nat):Int)
/-- the table, made up to i -/
def crcL:Nat → List Value → List Value
 | 0,L=>L
 | i + 1,L=>(crcL i L).set i (cellT i)
def zeroT:List Value:=List.replicate 256 (.int .u16 0)
def sB16:Spec:=fun args h K=>match args,h with
 | [],[]=>K (.agg ⟨crcT⟩) []
 | _,_=>False
def TB2:LSpec:=fun e h k=>match e,h with
 | [(0,.pointer (some ⟨0,0,some 0⟩)),(1,.pointer (some ⟨1,0,some 0⟩)),(2,.int .i64 i),(3,.int .u16 c),(5,.int .i64 i'),(11,.int .i64 j)],[.cells true L0 ty0 mv0,.cells true L ty mv] =>
  0 ≤ c ∧ c < 65536 ∧ j = 0 ∧ k (.exit 2) [(0,.pointer (some ⟨0,0,some 0⟩)),(1,.pointer (some ⟨1,0,some 0⟩)),(2,.int .i64 i),(3,.int .u16 ((stpN 8 c.toNat:Nat):Int)),(5,.int .i64 i')] [.cells true L0 ty0 mv0,.cells true L ty mv]
 | _,_=>False
def TB1:LSpec:=fun e h k=>match e,h with
 | [(0,.pointer (some ⟨0,0,some 0⟩)),(1,.pointer (some ⟨1,0,some 0⟩)),(5,.int .i64 i)],[.cells true L0 ty0 mv0,.cells true L ty mv] =>
  i = 0 ∧ L = zeroT ∧ k (.exit 0) [(0,.pointer (some ⟨0,0,some 0⟩)),(1,.pointer (some ⟨1,0,some 0⟩))] [.cells true L0 ty0 mv0,.cells true crcT ty mv]
 | _,_=>False
noncomputable def cB16:FCfg:=mkG Try.prog G0 [] 26 [(0,[0]),(1,[0,1]),(2,[0,1,5]),(3,[0,1,5,6]),(4,[0,1,2,5]),(5,[0,1,2,3,5]),(6,[0,1,2,3,5,11]),(7,[0,1,2,3,5,11,12]),(8,[0,1,2,3,4,5,11]),(9,[0,1,2,3,5,11]),(10,[0,1,2,3,5,11]),(11,[0,1,5]),(12,[0,1,5]),(13,[0])] [(3,[0,1,5]),(7,[0,1,2,3,5,11])] [(3,[0,1]),(7,[0,1,2,3,5])] [(3,TB1),(7,TB2)] [] [] 40 0
noncomputable def tB1 (L0 L:List Value) (ty0 ty:TypeId) (mv0 mv:Bool) (i:Int) (k:AExit → Env → AHeap → Prop):Prop:=codeK cB16 (nthLoop 0 (codeOf Try.f102)) [(0,.pointer (some ⟨0,0,some 0⟩)),(1,.pointer (some ⟨1,0,some 0⟩)),(5,.int .i64 i)] [.cells true L0 ty0 mv0,.cells true L ty mv] k
noncomputable def tB2 (L0 L:List Value) (ty0 ty:TypeId) (mv0 mv:Bool) (i i' j c:Int) (k:AExit → Env → AHeap → Prop):Prop:=codeK cB16 (nthLoop 1 (codeOf Try.f102)) [(0,.pointer (some ⟨0,0,some 0⟩)),(1,.pointer (some ⟨1,0,some 0⟩)),(2,.int .i64 i),(3,.int .u16 c),(5,.int .i64 i'),(11,.int .i64 j)] [.cells true L0 ty0 mv0,.cells true L ty mv] k
noncomputable def bB16 (K:Value → AHeap → Prop):Prop:=bodyK cB16 (codeOf Try.f102) Try.f102.results.toList [] [] K

def sNext:Spec:=fun args h K=>match args,h with
 | [.int .u16 c,.string s],[]=>0 ≤ c ∧ c < 65536 ∧ s.size < 2 ^ 62 ∧ K (.int .u16 ((crcGo s.size s 0 c.toNat:Nat):Int)) []
 | _,_=>False
def sSum:Spec:=fun args h K=>match args,h with
 | [.string s],[]=>s.size < 2 ^ 62 ∧ K (.int .u16 ((crc s:Nat):Int)) []
 | _,_=>False
def TNx:LSpec:=fun e h k=>match e,h with
 | [(0,.int .u16 c),(1,.string s),(5,.pointer (some ⟨0,0,some 0⟩)),(9,.int .i64 n),(10,.int .i64 i)],[.cells true L _ _] =>
  L = crcT ∧ 0 ≤ c ∧ c < 65536 ∧ n = s.size ∧ s.size < 2 ^ 62 ∧ i = 0 ∧ k (.exit 0) [(0,.int .u16 ((crcGo s.size s 0 c.toNat:Nat):Int))] []
 | _,_=>False
def tN:List (Nat × Spec):=[(102,sB16)]
noncomputable def cNx:FCfg:=mkG Try.prog G0 tN 27 [(0,[0,1]),(1,[0,1,5]),(2,[0,1,5,9,10]),(3,[0,1,5,9,10,11]),(4,[0,1,5,6,9,10]),(5,[0,1,5,9,10]),(6,[0,1,5,9,10]),(7,[4])] [(3,[0,1,5,9,10])] [(3,[0])] [(3,TNx)] [] [] 40 0
noncomputable def tNx (L:List Value) (ty:TypeId) (mv:Bool) (c n i:Int) (s:ByteArray) (k:AExit → Env → AHeap → Prop):Prop:=codeK cNx (nthLoop 0 (codeOf Try.f89)) [(0,.int .u16 c),(1,.string s),(5,.pointer (some ⟨0,0,some 0⟩)),(9,.int .i64 n),(10,.int .i64 i)] [.cells true L ty mv] k
noncomputable def bNx (c:Int) (s:ByteArray) (K:Value → AHeap → Prop):Prop:=bodyK cNx (codeOf Try.f89) Try.f89.results.toList [.int .u16 c,.string s] [] K

def sBit:Spec:=fun args h K=>match args,h with
 | [.int .u16 c,.int .u16 b],[]=>0 ≤ c ∧ c < 65536 ∧ 0 ≤ b ∧ b < 2 ∧ K (.int .u16 ((stB c.toNat b.toNat:Nat):Int)) []
 | _,_=>False
noncomputable def cBit:FCfg:=mkG Try.prog G0 [] 16 [(0,[0,1]),(1,[0,1,5]),(2,[0,1,5]),(3,[0,12]),(4,[0]),(5,[4])] [] [] [] [] [] 40 0
noncomputable def bBit (c b:Int) (K:Value → AHeap → Prop):Prop:=bodyK cBit (codeOf Try.f103) Try.f103.results.toList [.int .u16 c,.int .u16 b] [] K
def TR2:LSpec:=fun e h k=>match e,h with
 | [(0,.int .u16 c),(1,.string s),(5,.int .i64 i),(6,.int .i64 j)],[] =>
  0 ≤ c ∧ c < 65536 ∧ 0 ≤ i ∧ i < s.size ∧ s.size < 2 ^ 62 ∧ j = 7 ∧ k (.exit 2) [(0,.int .u16 ((stp8 c.toNat (byteAt s i.toNat):Nat):Int)),(1,.string s),(5,.int .i64 i)] []
 | _,_=>False
def TR1:LSpec:=fun e h k=>match e,h with
 | [(0,.int .u16 c),(1,.string s),(5,.int .i64 i)],[] =>
  0 ≤ c ∧ c < 65536 ∧ s.size < 2 ^ 62 ∧ i = 0 ∧ k (.exit 0) [(0,.int .u16 ((crcGo s.size s 0 c.toNat:Nat):Int))] []
 | _,_=>False
def tRN:List (Nat × Spec):=[(103,sBit)]
noncomputable def cRN:FCfg:=mkG Try.prog G0 tRN 28 [(0,[0,1]),(1,[0,1,5]),(2,[0,1,5,10]),(3,[0,1,5]),(4,[0,1,5,6]),(5,[0,1,5,6,14]),(6,[0,1,5,6]),(7,[0,1,5,6]),(8,[4])] [(2,[0,1,5]),(5,[0,1,5,6])] [(2,[0]),(5,[0,1,5])] [(2,TR1),(5,TR2)] [] [] 40 0
noncomputable def tR1 (c i:Int) (s:ByteArray) (k:AExit → Env → AHeap → Prop):Prop:=codeK cRN (nthLoop 0 (codeOf Try.f93)) [(0,.int .u16 c),(1,.string s),(5,.int .i64 i)] [] k
noncomputable def tR2 (c i j:Int) (s:ByteArray) (k:AExit → Env → AHeap → Prop):Prop:=codeK cRN (nthLoop 1 (codeOf Try.f93)) [(0,.int .u16 c),(1,.string s),(5,.int .i64 i),(6,.int .i64 j)] [] k
noncomputable def bRN (c:Int) (s:ByteArray) (K:Value → AHeap → Prop):Prop:=bodyK cRN (codeOf Try.f93) Try.f93.results.toList [.int .u16 c,.string s] [] K
def tSm:List (Nat × Spec):=[(89,sNext),(93,sNext)]
noncomputable def cSm:FCfg:=mkG Try.prog G0 tSm 5 [(0,[0]),(1,[2])] [] [] [] [] [] 40 0
noncomputable def bSm (s:ByteArray) (K:Value → AHeap → Prop):Prop:=bodyK cSm (codeOf Try.f54) Try.f54.results.toList [.string s] [] K
noncomputable def cRS:FCfg:=mkG Try.prog G0 tSm 5 [(0,[0]),(1,[2])] [] [] [] [] [] 40 0
noncomputable def bRS (s:ByteArray) (K:Value → AHeap → Prop):Prop:=bodyK cRS (codeOf Try.f62) Try.f62.results.toList [.string s] [] K
theorem tB1_eq (L0 L:List Value) (ty0 ty:TypeId) (mv0 mv:Bool) (i:Int) (k:AExit → Env → AHeap → Prop):tB1 L0 L ty0 ty mv0 mv i k = (cond (decide ((i < (256:Int)))) (∀ x1:Int,((x1 = (IntKind.wrap IntKind.u16 i)) → (∀ x2:Int,((x2 = (iMul IntKind.u16 x1 (256:Int))) → (((0:Int) ≤ x2) ∧ ((x2 < (65536:Int)) ∧ (((0:Int) = (0:Int)) ∧ (cond ((decide (((0:Int) ≤ i))) && (decide ((i < (256:Int))))) (cond (decide ((((Int.toNat i) + (1:Nat):Nat) ≤ (List.length L)))) (∀ x3:Int,((x3 = (iAdd IntKind.i64 i (1:Int))) → (k AExit.normal [(Prod.mk 0 (Value.pointer (Option.some (Addr.mk 0 0 (Option.some 0))))),(Prod.mk 1 (Value.pointer (Option.some (Addr.mk (1:Nat) 0 (Option.some 0))))),(Prod.mk 5 (Value.int IntKind.i64 x3))] [(AObj.cells Bool.true L0 ty0 mv0),(AObj.cells Bool.true (List.set L (Int.toNat i) (Value.int IntKind.u16 (((stpN (8:Nat) (Int.toNat x2)):Nat):Int))) ty mv)]))) False) False)))))))) (k (AExit.exit 0) [(Prod.mk 0 (Value.pointer (Option.some (Addr.mk 0 0 (Option.some 0))))),(Prod.mk 1 (Value.pointer (Option.some (Addr.mk (1:Nat) 0 (Option.some 0))))),(Prod.mk 5 (Value.int IntKind.i64 i)),(Prod.mk 6 (Value.bool Bool.false))] [(AObj.cells Bool.true L0 ty0 mv0),(AObj.cells Bool.true L ty mv)])):=by
 kernel_rfl
theorem tB2_eq (L0 L:List Value) (ty0 ty:TypeId) (mv0 mv:Bool) (i i' j c:Int) (k:AExit → Env → AHeap → Prop):tB2 L0 L ty0 ty mv0 mv i i' j c k = (cond (decide ((j < (8:Int)))) (∀ x1:Int,((x1 = (Int.fdiv c (32768:Int))) → (∀ x2:Int,((x2 = (iMul IntKind.u16 c (2:Int))) → (∀ x3:Int,((x3 = (iMul IntKind.u16 x1 (4129:Int))) → (∀ x4:Int,((x4 = (iXor IntKind.u16 x2 x3)) → (∀ x5:Int,((x5 = (iAdd IntKind.i64 j (1:Int))) → (k AExit.normal [(Prod.mk 0 (Value.pointer (Option.some (Addr.mk 0 0 (Option.some 0))))),(Prod.mk 1 (Value.pointer (Option.some (Addr.mk (1:Nat) 0 (Option.some 0))))),(Prod.mk 2 (Value.int IntKind.i64 i)),(Prod.mk 3 (Value.int IntKind.u16 x4)),(Prod.mk 5 (Value.int IntKind.i64 i')),(Prod.mk 11 (Value.int IntKind.i64 x5))] [(AObj.cells Bool.true L0 ty0 mv0),(AObj.cells Bool.true L ty mv)]))))))))))) (k (AExit.exit (2:Nat)) [(Prod.mk 0 (Value.pointer (Option.some (Addr.mk 0 0 (Option.some 0))))),(Prod.mk 1 (Value.pointer (Option.some (Addr.mk (1:Nat) 0 (Option.some 0))))),(Prod.mk 2 (Value.int IntKind.i64 i)),(Prod.mk 3 (Value.int IntKind.u16 c)),(Prod.mk 5 (Value.int IntKind.i64 i')),(Prod.mk 11 (Value.int IntKind.i64 j)),(Prod.mk 12 (Value.bool Bool.false))] [(AObj.cells Bool.true L0 ty0 mv0),(AObj.cells Bool.true L ty mv)])):=by
 kernel_rfl
theorem bB16_eq (K:Value → AHeap → Prop):bB16 K = ((0:Int) = 0 ∧ zeroT = zeroT ∧ K (.agg ⟨crcT⟩) []):=by
 kernel_rfl
theorem tNx_eq (L:List Value) (ty:TypeId) (mv:Bool) (c n i:Int) (s:ByteArray) (k:AExit → Env → AHeap → Prop):tNx L ty mv c n i s k = (cond (decide ((i < n))) (∀ x1:Int,((x1 = (iMul IntKind.u16 c (256:Int))) → (∀ x2:Int,((x2 = (Int.fdiv c (256:Int))) → (∀ x3:Int,((x3 = (IntKind.wrap IntKind.u8 x2)) → (cond ((decide (((0:Int) ≤ i))) && (decide ((i < (((ByteArray.size s):Nat):Int))))) (∀ x4:Int,((x4 = (((BitVec.toNat ((List.getD ((s).data).toList (Int.toNat i) (UInt8.ofBitVec (BitVec.ofNat (8:Nat) 0)))).toBitVec):Nat):Int)) → (∀ x5:Int,((x5 = (iXor IntKind.u8 x3 x4)) → (cond ((decide (((0:Int) ≤ x5))) && (decide ((x5 < (256:Int))))) (cond (decide ((((Int.toNat x5) + (1:Nat):Nat) ≤ (List.length L)))) (cond (isInt IntKind.u16 (List.getD L (Int.toNat x5) Go.undef)) (∀ x6:Int,((x6 = (iXor IntKind.u16 x1 (intOf (List.getD L (Int.toNat x5) Go.undef)))) → (∀ x7:Int,((x7 = (iAdd IntKind.i64 i (1:Int))) → (k AExit.normal [(Prod.mk 0 (Value.int IntKind.u16 x6)),(Prod.mk 1 (Value.string s)),(Prod.mk 5 (Value.pointer (Option.some (Addr.mk 0 0 (Option.some 0))))),(Prod.mk 9 (Value.int IntKind.i64 n)),(Prod.mk 10 (Value.int IntKind.i64 x7))] [(AObj.cells Bool.true L ty mv)]))))) False) False) False))))) False))))))) (k (AExit.exit 0) [(Prod.mk 0 (Value.int IntKind.u16 c)),(Prod.mk 1 (Value.string s)),(Prod.mk 5 (Value.pointer (Option.some (Addr.mk 0 0 (Option.some 0))))),(Prod.mk 9 (Value.int IntKind.i64 n)),(Prod.mk 10 (Value.int IntKind.i64 i)),(Prod.mk 11 (Value.bool Bool.false))] [(AObj.cells Bool.true L ty mv)])):=by
 kernel_rfl
theorem bNx_eq (c:Int) (s:ByteArray) (K:Value → AHeap → Prop):bNx c s K = (∀ x1:Int,((x1 = (((ByteArray.size s):Nat):Int)) → ((crcT = crcT) ∧ (((0:Int) ≤ c) ∧ ((c < (65536:Int)) ∧ ((x1 = (((ByteArray.size s):Nat):Int)) ∧ (((ByteArray.size s) < (4611686018427387904:Nat)) ∧ (((0:Int) = (0:Int)) ∧ (K (Value.int IntKind.u16 (((crcGo (ByteArray.size s) s 0 (Int.toNat c)):Nat):Int)) []))))))))):=by
 kernel_rfl
theorem bBit_eq (c b:Int) (K:Value → AHeap → Prop):bBit c b K = (∀ x1:Int,((x1 = (Int.fdiv c (32768:Int))) → (∀ x2:Int,((x2 = (iMul IntKind.u16 c (2:Int))) → (cond (!(decide ((x1 = b)))) (∀ x3:Int,((x3 = (iXor IntKind.u16 x2 (4129:Int))) → (K (Value.int IntKind.u16 x3) []))) (K (Value.int IntKind.u16 x2) [])))))):=by
 kernel_rfl
theorem tR1_eq (c i:Int) (s:ByteArray) (k:AExit → Env → AHeap → Prop):tR1 c i s k = (∀ x1:Int,((x1 = (((ByteArray.size s):Nat):Int)) → (cond (decide ((i < x1))) (((0:Int) ≤ c) ∧ ((c < (65536:Int)) ∧ (((0:Int) ≤ i) ∧ ((i < (((ByteArray.size s):Nat):Int)) ∧ (((ByteArray.size s) < (4611686018427387904:Nat)) ∧ (((7:Int) = (7:Int)) ∧ (∀ x2:Int,((x2 = (iAdd IntKind.i64 i (1:Int))) → (k AExit.normal [(Prod.mk 0 (Value.int IntKind.u16 (((stp8 (Int.toNat c) (Lib.byteAt s (Int.toNat i))):Nat):Int))),(Prod.mk 1 (Value.string s)),(Prod.mk 5 (Value.int IntKind.i64 x2))] []))))))))) (k (AExit.exit 0) [(Prod.mk 0 (Value.int IntKind.u16 c)),(Prod.mk 1 (Value.string s)),(Prod.mk 5 (Value.int IntKind.i64 i)),(Prod.mk 10 (Value.bool Bool.false))] [])))):=by
 kernel_rfl
theorem tR2_eq (c i j:Int) (s:ByteArray) (k:AExit → Env → AHeap → Prop):tR2 c i j s k = (cond (decide ((j ≥ (0:Int)))) (cond ((decide (((0:Int) ≤ i))) && (decide ((i < (((ByteArray.size s):Nat):Int))))) (∀ x1:Int,((x1 = (((BitVec.toNat ((List.getD ((s).data).toList (Int.toNat i) (UInt8.ofBitVec (BitVec.ofNat (8:Nat) 0)))).toBitVec):Nat):Int)) → (∀ x2:Int,((x2 = (IntKind.wrap IntKind.u16 x1)) → (∀ x3:Int,((x3 = (IntKind.wrap IntKind.u64 j)) → (cond (decide (((0:Int) ≤ x3))) (∀ x4:Int,((x4 = (Int.fdiv x2 ((2:Int) ^ (ite ((Int.toNat x3) ≤ (16:Nat)) (Int.toNat x3) (16:Nat)):Int))) → (∀ x5:Int,((x5 = (Int.tmod x4 (2:Int))) → (((0:Int) ≤ c) ∧ ((c < (65536:Int)) ∧ (((0:Int) ≤ x5) ∧ ((x5 < (2:Int)) ∧ (∀ x6:Int,((x6 = (((stB (Int.toNat c) (Int.toNat x5)):Nat):Int)) → (∀ x7:Int,((x7 = (iSub IntKind.i64 j (1:Int))) → (k AExit.normal [(Prod.mk 0 (Value.int IntKind.u16 x6)),(Prod.mk 1 (Value.string s)),(Prod.mk 5 (Value.int IntKind.i64 i)),(Prod.mk 6 (Value.int IntKind.i64 x7))] []))))))))))))) False))))))) False) (k (AExit.exit (2:Nat)) [(Prod.mk 0 (Value.int IntKind.u16 c)),(Prod.mk 1 (Value.string s)),(Prod.mk 5 (Value.int IntKind.i64 i)),(Prod.mk 6 (Value.int IntKind.i64 j)),(Prod.mk 14 (Value.bool Bool.false))] [])):=by
 kernel_rfl
theorem bRN_eq (c:Int) (s:ByteArray) (K:Value → AHeap → Prop):bRN c s K = (((0:Int) ≤ c) ∧ ((c < (65536:Int)) ∧ (((ByteArray.size s) < (4611686018427387904:Nat)) ∧ (((0:Int) = (0:Int)) ∧ (K (Value.int IntKind.u16 (((crcGo (ByteArray.size s) s 0 (Int.toNat c)):Nat):Int)) []))))):=by
 kernel_rfl
theorem bSm_eq (s:ByteArray) (K:Value → AHeap → Prop):bSm s K = (((0:Int) ≤ (65535:Int)) ∧ (((65535:Int) < (65536:Int)) ∧ (((ByteArray.size s) < (4611686018427387904:Nat)) ∧ (∀ x1:Int,((x1 = (((crcGo (ByteArray.size s) s 0 (65535:Nat)):Nat):Int)) → (K (Value.int IntKind.u16 x1) [])))))):=by
 kernel_rfl
theorem bRS_eq (s:ByteArray) (K:Value → AHeap → Prop):bRS s K = (((0:Int) ≤ (65535:Int)) ∧ (((65535:Int) < (65536:Int)) ∧ (((ByteArray.size s) < (4611686018427387904:Nat)) ∧ (∀ x1:Int,((x1 = (((crcGo (ByteArray.size s) s 0 (65535:Nat)):Nat):Int)) → (K (Value.int IntKind.u16 x1) [])))))):=by
 kernel_rfl
end Go.Am.Tmf

namespace Go.Am.Tmf
open Go Go.Am Go.Am.Lib Go.Proofs
open Go.Am.Pkt (G0 codeOf mixed none_ok)
set_option maxRecDepth 100000

/-! ### the table -/
theorem getD_set:∀ (L:List Value) (i j:Nat) (v:Value),i < L.length → (L.set i v).getD j undef = if i = j then v else L.getD j undef
 | L,i,j,v,h=>by
  rw [List.getD_eq_getElem?_getD,List.getElem?_set]
  by_cases e:i = j
  · subst e;rw [if_pos rfl,if_pos rfl,if_pos h];rfl
  · rw [if_neg e,if_neg e,← List.getD_eq_getElem?_getD]
theorem isInt_u16 (n:Int):isInt IntKind.u16 (.int .u16 n) = true:=rfl
theorem crcL_len:∀ (n:Nat) (L:List Value),(crcL n L).length = L.length
 | 0,_=>rfl
 | n + 1,L=>by rw [crcL,List.length_set,crcL_len n]
theorem crcL_at:∀ (n:Nat) (L:List Value) (i:Nat),n ≤ L.length → i < L.length → (crcL n L).getD i undef = if i < n then cellT i else L.getD i undef
 | 0,_,_,_,_=>rfl
 | n + 1,L,i,hn,h=>by
  rw [crcL,getD_set _ _ _ _ (by rw [crcL_len];exact hn),crcL_at n L i (by omega) h]
  by_cases e:n = i
  · subst e;rw [if_pos rfl,if_pos (by omega)]
  · rw [if_neg e]
    by_cases e2:i < n
    · rw [if_pos e2,if_pos (by omega)]
    · rw [if_neg e2,if_neg (by omega)]
theorem zeroT_len:zeroT.length = 256:=List.length_replicate
theorem crcL_all:crcL 256 zeroT = crcT:=by kernel_rfl
theorem crcT_at {i:Nat} (h:i < 256):crcT.getD i undef = cellT i:=by
 rw [← crcL_all,crcL_at 256 zeroT i (by rw [zeroT_len];exact Nat.le_refl _) (by rw [zeroT_len];exact h),if_pos h]
theorem crcT_len:crcT.length = 256:=by rw [← crcL_all,crcL_len];exact zeroT_len
theorem mul2 {c:Nat} {x:Int} (h:x = iMul .u16 ((c:Nat):Int) 2):x = ((2 * c % 65536:Nat):Int):=by
 rw [h];unfold iMul
 rw [show ((c:Nat):Int) * 2 = ((2 * c:Nat):Int) by push_cast;omega,wrap16]

theorem loopB2:∀ e h k,TB2 e h k → ∃ m,loopN cB16 (codeOf Try.f102) 1 7 m e h k:=by
 intro e h k hT
 unfold TB2 at hT
 split at hT
 · rename_i i c i' j L0 ty0 mv0 L ty mv
   obtain ⟨c0,c1,rfl,hk⟩:=hT
   obtain ⟨m,rfl⟩:=nat_of c0
   rw [Int.toNat_natCast] at hk
   have hm:m < 65536:=by omega
   refine ⟨9,?_⟩
   have key:∀ n j c:Nat,j + n = 8 → c < 65536 → (k (.exit 2) [(0,.pointer (some ⟨0,0,some 0⟩)),(1,.pointer (some ⟨1,0,some 0⟩)),(2,.int .i64 i),(3,.int .u16 ((stpN n c:Nat):Int)),(5,.int .i64 i')] [.cells true L0 ty0 mv0,.cells true L ty mv]) →
    loopN cB16 (codeOf Try.f102) 1 7 (n + 1) [(0,.pointer (some ⟨0,0,some 0⟩)),(1,.pointer (some ⟨1,0,some 0⟩)),(2,.int .i64 i),(3,.int .u16 ((c:Nat):Int)),(5,.int .i64 i'),(11,.int .i64 ((j:Nat):Int))] [.cells true L0 ty0 mv0,.cells true L ty mv] k:=by
    intro n
    induction n with
    | zero =>
     intro j c hj hc hk
     rw [loopN_succ]
     show tB2 L0 L ty0 ty mv0 mv i i' (j:Nat) (c:Nat) _
     rw [tB2_eq,dF (by omega)]
     exact hk
    | succ n ih =>
     intro j c hj hc hk
     rw [loopN_succ]
     show tB2 L0 L ty0 ty mv0 mv i i' (j:Nat) (c:Nat) _
     rw [tB2_eq,dT (by omega)]
     intro x1 h1 x2 h2 x3 h3 x4 h4 x5 h5
     replace h2:=mul2 h2
     rw [show (32768:Int) = ((32768:Nat):Int) from rfl,fdiv_cast] at h1
     rw [h1,show (4129:Int) = ((4129:Nat):Int) from rfl,iMul_cast .u16 (by rw [cap16];omega)] at h3
     rw [h2,h3,iXor_cast .u16 (by rw [cap16];omega) (by rw [cap16];omega)] at h4
     have e4:2 * c % 65536 ^^^ (c / 32768 * 4129) = stp c:=by
      unfold stp
      rw [Nat.mod_eq_of_lt (show c / 32768 < 2 by omega)]
     rw [e4] at h4
     rw [iAdd_i64 (by omega) (by omega)] at h5
     obtain rfl:x5 = ((j + 1:Nat):Int):=by omega
     subst h4
     exact ih (j + 1) (stp c) (by omega) (stp_lt c) hk
   exact key 8 0 m rfl hm hk
 · exact hT.elim
theorem loopB1:∀ e h k,TB1 e h k → ∃ m,loopN cB16 (codeOf Try.f102) 0 3 m e h k:=by
 intro e h k hT
 unfold TB1 at hT
 split at hT
 · rename_i i L0 ty0 mv0 L ty mv
   obtain ⟨rfl,rfl,hk⟩:=hT
   refine ⟨257,?_⟩
   have key:∀ n i:Nat,i + n = 256 →
    loopN cB16 (codeOf Try.f102) 0 3 (n + 1) [(0,.pointer (some ⟨0,0,some 0⟩)),(1,.pointer (some ⟨1,0,some 0⟩)),(5,.int .i64 ((i:Nat):Int))] [.cells true L0 ty0 mv0,.cells true (crcL i zeroT) ty mv] k:=by
    intro n
    induction n with
    | zero =>
     intro i hi
     obtain rfl:i = 256:=by omega
     rw [crcL_all,loopN_succ]
     show tB1 L0 crcT ty0 ty mv0 mv ((256:Nat):Int) _
     rw [tB1_eq,dF (by omega)]
     exact hk
    | succ n ih =>
     intro i hi
     rw [loopN_succ]
     show tB1 L0 (crcL i zeroT) ty0 ty mv0 mv ((i:Nat):Int) _
     rw [tB1_eq,dT (by omega)]
     intro x1 h1 x2 h2
     rw [wrap_u16 (by omega) (by omega)] at h1
     rw [h1,show (256:Int) = ((256:Nat):Int) from rfl,iMul_cast .u16 (by rw [cap16];omega)] at h2
     subst h2
     refine ⟨by omega,by omega,rfl,?_⟩
     rw [dT2 (by omega) (by omega),Int.toNat_natCast,Int.toNat_natCast,dT (by rw [crcL_len,zeroT_len];omega)]
     intro x2 h2
     rw [iAdd_i64 (by omega) (by omega)] at h2
     obtain rfl:x2 = ((i + 1:Nat):Int):=by omega
     exact ih (i + 1) (by omega)
   exact key 256 0 rfl
 · exact hT.elim
theorem okB16:SpecOk Try.prog G0 102 sB16 :=
 spec2 mixed none_ok Try.func102 (by kernel_rfl:Try.f102.body = some (codeOf Try.f102)) cB16 rfl rfl rfl (by kernel_rfl) (ids:=[3,7]) (by kernel_rfl) ⟨by intro e h k hT;exact loopB1 e h k hT,by intro e h k hT;exact loopB2 e h k hT,trivial⟩ (by
  intro args h K hk
  unfold sB16 at hk
  split at hk
  · show bB16 K
    rw [bB16_eq]
    exact ⟨rfl,rfl,hk⟩
  · exact hk.elim)

/-! ### the program's Next16 -/
theorem loopNx:∀ e h k,TNx e h k → ∃ m,loopN cNx (codeOf Try.f89) 0 3 m e h k:=by
 intro e h k hT
 unfold TNx at hT
 split at hT
 · rename_i c s n i L ty mv
   obtain ⟨rfl,c0,c1,rfl,hs,rfl,hk⟩:=hT
   obtain ⟨m,rfl⟩:=nat_of c0
   rw [Int.toNat_natCast] at hk
   have hm:m < 65536:=by omega
   refine ⟨s.size + 1,?_⟩
   have key:∀ n i c:Nat,i + n = s.size → c < 65536 → k (.exit 0) [(0,.int .u16 ((crcGo n s i c:Nat):Int))] [] →
    loopN cNx (codeOf Try.f89) 0 3 (n + 1) [(0,.int .u16 ((c:Nat):Int)),(1,.string s),(5,.pointer (some ⟨0,0,some 0⟩)),(9,.int .i64 ((s.size:Nat):Int)),(10,.int .i64 ((i:Nat):Int))] [.cells true crcT ty mv] k:=by
    intro n
    induction n with
    | zero =>
     intro i c hi hc hk
     rw [loopN_succ]
     show tNx crcT ty mv (c:Nat) (s.size:Nat) (i:Nat) s _
     rw [tNx_eq,dF (by omega)]
     exact hk
    | succ n ih =>
     intro i c hi hc hk
     rw [loopN_succ]
     show tNx crcT ty mv (c:Nat) (s.size:Nat) (i:Nat) s _
     rw [tNx_eq,dT (by omega)]
     intro x1 h1 x2 h2 x3 h3
     rw [show (256:Int) = ((256:Nat):Int) from rfl,fdiv_cast] at h2
     rw [h2,wrap_u8 (by omega) (by omega)] at h3
     have h1':x1 = ((c * 256 % 65536:Nat):Int):=by
      rw [h1];unfold iMul
      rw [show ((c:Nat):Int) * 256 = ((c * 256:Nat):Int) by push_cast;omega,wrap16]
     rw [dT2 (by omega) (by omega),Int.toNat_natCast]
     intro x4 h4
     replace h4:x4 = ((byteAt s i:Nat):Int):=h4
     intro x5 h5
     have hb:=byteAt_lt s i
     have hc8:c / 256 < 256:=by omega
     have hx:c / 256 ^^^ byteAt s i < 256:=@Nat.xor_lt_two_pow _ _ 8 hc8 hb
     rw [h3,h4,iXor_cast .u8 (by rw [cap8];exact hc8) (by rw [cap8];exact hb)] at h5
     subst h5
     rw [dT2 (by omega) (by omega),Int.toNat_natCast,crcT_at hx,dT (by rw [crcT_len];omega)]
     refine (show cond (isInt IntKind.u16 (.int .u16 _)) _ _ from ?_)
     rw [isInt_u16,cond_true]
     intro x6 h6
     have h6':x6 = iXor .u16 x1 ((stpN 8 ((c / 256 ^^^ byteAt s i) * 256):Nat):Int):=h6
     rw [h1',iXor_cast .u16 (by rw [cap16];omega) (by rw [cap16];exact stpN_lt 8 (by omega)),byteT_eq hc] at h6'
     subst h6'
     intro x7 h7
     rw [iAdd_i64 (by omega) (by omega)] at h7
     obtain rfl:x7 = ((i + 1:Nat):Int):=by omega
     exact ih (i + 1) _ (by omega) (stp8_lt hc hb) hk
   exact key s.size 0 m (by omega) hm hk
 · exact hT.elim
theorem tN_ok:AllOk Try.prog G0 tN:=⟨okB16,trivial⟩
theorem okNext:SpecOk Try.prog G0 89 sNext :=
 spec2 mixed tN_ok Try.func89 (by kernel_rfl:Try.f89.body = some (codeOf Try.f89)) cNx rfl rfl rfl (by kernel_rfl) (ids:=[3]) (by kernel_rfl) ⟨by intro e h k hT;exact loopNx e h k hT,trivial⟩ (by
  intro args h K hk
  unfold sNext at hk
  split at hk
  · rename_i c s
    obtain ⟨c0,c1,hs,hk⟩:=hk
    show bNx c s K
    rw [bNx_eq]
    intro x1 h1
    exact ⟨rfl,c0,c1,h1,hs,rfl,hk⟩
  · exact hk.elim)

/-! ### the reference -/
theorem okBit:SpecOk Try.prog G0 103 sBit :=
 spec2 mixed none_ok Try.func103 (by kernel_rfl:Try.f103.body = some (codeOf Try.f103)) cBit rfl rfl rfl (by kernel_rfl) (ids:=[]) (by kernel_rfl) trivial (by
  intro args h K hk
  unfold sBit at hk
  split at hk
  · rename_i c b
    obtain ⟨c0,c1,b0,b1,hk⟩:=hk
    obtain ⟨m,rfl⟩:=nat_of c0
    obtain ⟨d,rfl⟩:=nat_of b0
    rw [Int.toNat_natCast,Int.toNat_natCast] at hk
    show bBit (m:Nat) (d:Nat) K
    rw [bBit_eq]
    intro x1 h1 x2 h2
    replace h2:=mul2 h2
    rw [show (32768:Int) = ((32768:Nat):Int) from rfl,fdiv_cast] at h1
    unfold stB at hk
    by_cases e:m / 32768 = d
    · rw [if_pos e,Nat.xor_zero] at hk
      rw [dnT (by omega),h2];exact hk
    · rw [if_neg e] at hk
      rw [dnF (by omega)]
      intro x3 h3
      rw [h2,show (4129:Int) = ((4129:Nat):Int) from rfl,iXor_cast .u16 (by rw [cap16];omega) (by rw [cap16];omega)] at h3
      subst h3;exact hk
  · exact hk.elim)
theorem tRN_ok:AllOk Try.prog G0 tRN:=⟨okBit,trivial⟩
theorem bitsM8 {c x:Nat} (hc:c < 65536) (hx:x < 256):bitsM 8 x c = stp8 c x:=by
 rw [bitsM_eq 8 x (by omega) hc,Nat.mod_eq_of_lt (show x < 2 ^ 8 by omega)];rfl
theorem loopR2:∀ e h k,TR2 e h k → ∃ m,loopN cRN (codeOf Try.f93) 1 5 m e h k:=by
 intro e h k hT
 unfold TR2 at hT
 split at hT
 · rename_i c s i j
   obtain ⟨c0,c1,i0,i1,hs,rfl,hk⟩:=hT
   obtain ⟨m,rfl⟩:=nat_of c0
   obtain ⟨a,rfl⟩:=nat_of i0
   have e8:=bitsM8 (c:=m) (x:=byteAt s a) (by omega) (byteAt_lt _ _)
   rw [Int.toNat_natCast,Int.toNat_natCast,← e8] at hk
   clear e8
   have hm:m < 65536:=by omega
   refine ⟨9,?_⟩
   have key:∀ (n:Nat) (j:Int) (c:Nat),j + 1 = n → n ≤ 8 → c < 65536 → k (.exit 2) [(0,.int .u16 ((bitsM n (byteAt s a) c:Nat):Int)),(1,.string s),(5,.int .i64 ((a:Nat):Int))] [] →
    loopN cRN (codeOf Try.f93) 1 5 (n + 1) [(0,.int .u16 ((c:Nat):Int)),(1,.string s),(5,.int .i64 ((a:Nat):Int)),(6,.int .i64 j)] [] k:=by
    intro n
    induction n with
    | zero =>
     intro j c hj hn hc hk
     rw [loopN_succ]
     show tR2 (c:Nat) (a:Nat) j s _
     rw [tR2_eq,dF (by omega)]
     exact hk
    | succ n ih =>
     intro j c hj hn hc hk
     rw [loopN_succ]
     show tR2 (c:Nat) (a:Nat) j s _
     rw [tR2_eq]
     obtain rfl:j = ((n:Nat):Int):=by omega
     rw [ dT (by omega),dT2 (by omega) (by omega),Int.toNat_natCast]
     intro x1 h1
     replace h1:x1 = ((byteAt s a:Nat):Int):=h1
     have hb:=byteAt_lt s a
     intro x2 h2 x3 h3
     rw [h1,wrap_u16 (by omega) (by omega)] at h2
     rw [wrap_u64 (by omega) (by omega)] at h3
     subst h3
     rw [dT (by omega),Int.toNat_natCast,if_pos (show n ≤ 16 by omega)]
     intro x4 h4 x5 h5
     rw [h2,show ((2:Int) ^ n) = ((2 ^ n:Nat):Int) from by rw [Int.natCast_pow];rfl,fdiv_cast] at h4
     rw [h4,show (2:Int) = ((2:Nat):Int) from rfl,tmod_cast] at h5
     subst h5
     refine ⟨by omega,by omega,by omega,by omega,?_⟩
     rw [Int.toNat_natCast,Int.toNat_natCast]
     intro x6 h6 x7 h7
     subst h6
     rw [iSub_i64 (by omega) (by omega)] at h7
     exact ih x7 _ (by omega) (by omega) (stB_lt _ _) hk
   exact key 8 7 m rfl (by omega) hm hk
 · exact hT.elim
theorem loopR1:∀ e h k,TR1 e h k → ∃ m,loopN cRN (codeOf Try.f93) 0 2 m e h k:=by
 intro e h k hT
 unfold TR1 at hT
 split at hT
 · rename_i c s i
   obtain ⟨c0,c1,hs,rfl,hk⟩:=hT
   obtain ⟨m,rfl⟩:=nat_of c0
   rw [Int.toNat_natCast] at hk
   have hm:m < 65536:=by omega
   refine ⟨s.size + 1,?_⟩
   have key:∀ n i c:Nat,i + n = s.size → c < 65536 → k (.exit 0) [(0,.int .u16 ((crcGo n s i c:Nat):Int))] [] →
    loopN cRN (codeOf Try.f93) 0 2 (n + 1) [(0,.int .u16 ((c:Nat):Int)),(1,.string s),(5,.int .i64 ((i:Nat):Int))] [] k:=by
    intro n
    induction n with
    | zero =>
     intro i c hi hc hk
     rw [loopN_succ]
     show tR1 (c:Nat) (i:Nat) s _
     rw [tR1_eq]
     intro x1 h1
     rw [dF (by omega)]
     exact hk
    | succ n ih =>
     intro i c hi hc hk
     rw [loopN_succ]
     show tR1 (c:Nat) (i:Nat) s _
     rw [tR1_eq]
     intro x1 h1
     rw [dT (by omega)]
     refine ⟨by omega,by omega,by omega,by omega,hs,rfl,?_⟩
     rw [Int.toNat_natCast,Int.toNat_natCast]
     intro x2 h2
     rw [iAdd_i64 (by omega) (by omega)] at h2
     obtain rfl:x2 = ((i + 1:Nat):Int):=by omega
     exact ih (i + 1) _ (by omega) (stp8_lt hc (byteAt_lt _ _)) hk
   exact key s.size 0 m (by omega) hm hk
 · exact hT.elim
theorem okRN:SpecOk Try.prog G0 93 sNext :=
 spec2 mixed tRN_ok Try.func93 (by kernel_rfl:Try.f93.body = some (codeOf Try.f93)) cRN rfl rfl rfl (by kernel_rfl) (ids:=[2,5]) (by kernel_rfl) ⟨by intro e h k hT;exact loopR1 e h k hT,by intro e h k hT;exact loopR2 e h k hT,trivial⟩ (by
  intro args h K hk
  unfold sNext at hk
  split at hk
  · rename_i c s
    obtain ⟨c0,c1,hs,hk⟩:=hk
    show bRN c s K
    rw [bRN_eq]
    exact ⟨c0,c1,hs,rfl,hk⟩
  · exact hk.elim)
theorem tSm_ok:AllOk Try.prog G0 tSm:=⟨okNext,okRN,trivial⟩
theorem okSum:SpecOk Try.prog G0 54 sSum :=
 spec2 mixed tSm_ok Try.func54 (by kernel_rfl:Try.f54.body = some (codeOf Try.f54)) cSm rfl rfl rfl (by kernel_rfl) (ids:=[]) (by kernel_rfl) trivial (by
  intro args h K hk
  unfold sSum at hk
  split at hk
  · rename_i s
    obtain ⟨hs,hk⟩:=hk
    show bSm s K
    rw [bSm_eq]
    refine ⟨by omega,by omega,hs,?_⟩
    rintro x1 rfl
    exact hk
  · exact hk.elim)
theorem okRSum:SpecOk Try.prog G0 62 sSum :=
 spec2 mixed tSm_ok Try.func62 (by kernel_rfl:Try.f62.body = some (codeOf Try.f62)) cRS rfl rfl rfl (by kernel_rfl) (ids:=[]) (by kernel_rfl) trivial (by
  intro args h K hk
  unfold sSum at hk
  split at hk
  · rename_i s
    obtain ⟨hs,hk⟩:=hk
    show bRS s K
    rw [bRS_eq]
    refine ⟨by omega,by omega,hs,?_⟩
    rintro x1 rfl
    exact hk
  · exact hk.elim)
end Go.Am.Tmf

namespace Go.Am.Tmf
open Go Go.Am Go.Am.Lib Go.Proofs
open Go.Am.Pkt (G0 codeOf mixed none_ok by2)
set_option maxRecDepth 100000

def frV (cr ch ma co fi:Int) (d:ByteArray) (wd:Int):Value:=.agg ⟨[.int .i64 cr,.int .i64 ch,.int .i64 ma,.int .i64 co,.int .i64 fi,.string d,.int .u32 wd]⟩
def vldT (cr ch ma co fi:Int) (n:Nat):Bool:=decide ((0 ≤ cr ∧ cr ≤ 255) ∧ (0 ≤ ma ∧ ma ≤ 255) ∧ (0 ≤ co ∧ co ≤ 255) ∧ (0 ≤ ch ∧ ch < 8) ∧ (32 ≤ n ∧ n ≤ 200) ∧ ((0 ≤ fi ∧ fi < n) ∨ fi = 2046 ∨ fi = 2047))
def sVldT:Spec:=fun args h K=>match args,h with
 | [.agg ⟨[.int .i64 cr,.int .i64 ch,.int .i64 ma,.int .i64 co,.int .i64 fi,.string d,.int .u32 _]⟩],[]=>d.size < 2 ^ 62 ∧ K (.bool (vldT cr ch ma co fi d.size)) []
 | _,_=>False
noncomputable def cVldT:FCfg:=mkG Try.prog G0 [] 63 [(0,[1]),(1,[1,12,13]),(2,[1,12,13,14]),(3,[1,4,12,13]),(4,[1,12,13,21]),(5,[2]),(6,[1,12,13]),(7,[1,5]),(8,[2])] [(2,[1,12,13])] [(2,[1,2])] [] [] [13,14,22] 40 0
noncomputable def bVldT (cr ch ma co fi:Int) (d:ByteArray) (wd:Int) (K:Value → AHeap → Prop):Prop:=bodyK cVldT (codeOf Try.f55) Try.f55.results.toList [frV cr ch ma co fi d wd] [] K
noncomputable def cRVldT:FCfg:=mkG Try.prog G0 [] 74 [(0,[1]),(1,[1,52]),(2,[2]),(3,[2])] [] [] [] [] [] 40 0
noncomputable def bRVldT (cr ch ma co fi:Int) (d:ByteArray) (wd:Int) (K:Value → AHeap → Prop):Prop:=bodyK cRVldT (codeOf Try.f87) Try.f87.results.toList [frV cr ch ma co fi d wd] [] K
/-- the number of n bytes from i on -/
def numG:Nat → ByteArray → Nat → Nat → Nat
 | 0,_,_,v=>v
 | n + 1,s,i,v=>numG n s (i + 1) (v * 256 + byteAt s i)
def numN (s:ByteArray):Nat:=numG s.size s 0 0
def sNum:Spec:=fun args h K=>match args,h with
 | [.string s],[]=>s.size ≤ 7 ∧ K (.int .u64 ((numN s:Nat):Int)) []
 | _,_=>False
def TNum:LSpec:=fun e h k=>match e,h with
 | [(0,.string s),(3,.int .u64 v),(6,.int .i64 n),(7,.int .i64 i)],[]=>s.size ≤ 7 ∧ v = 0 ∧ n = s.size ∧ i = 0 ∧ k (.exit 0) [(3,.int .u64 ((numN s:Nat):Int))] []
 | _,_=>False
noncomputable def cNum:FCfg:=mkG Try.prog G0 [] 19 [(0,[0]),(1,[0,3]),(2,[0,3,6,7]),(3,[0,3,6,7,8]),(4,[0,3,4,6,7]),(5,[0,3,6,7]),(6,[0,3,6,7]),(7,[2])] [(3,[0,3,6,7])] [(3,[3])] [(3,TNum)] [] [] 40 0
noncomputable def tNum (s:ByteArray) (v n i:Int) (k:AExit → Env → AHeap → Prop):Prop:=codeK cNum (nthLoop 0 (codeOf Try.f53)) [(0,.string s),(3,.int .u64 v),(6,.int .i64 n),(7,.int .i64 i)] [] k
noncomputable def bNum (s:ByteArray) (K:Value → AHeap → Prop):Prop:=bodyK cNum (codeOf Try.f53) Try.f53.results.toList [.string s] [] K
def sRNum:Spec:=fun args h K=>match args,h with
 | [.string s],[]=>2 ≤ s.size ∧ K (.int .i64 ((byteAt s 0 * 256 + byteAt s 1:Nat):Int)) []
 | _,_=>False
noncomputable def cRNum:FCfg:=mkG Try.prog G0 [] 11 [(0,[0]),(1,[2])] [] [] [] [] [] 40 0
noncomputable def bRNum (s:ByteArray) (K:Value → AHeap → Prop):Prop:=bodyK cRNum (codeOf Try.f61) Try.f61.results.toList [.string s] [] K
noncomputable def cTwoT:FCfg:=mkG Try.prog G0 [] 11 [(0,[0]),(1,[2])] [] [] [] [] [] 40 0
noncomputable def bTwoT (n:Int) (K:Value → AHeap → Prop):Prop:=bodyK cTwoT (codeOf Try.f88) Try.f88.results.toList [.int .i64 n] [] K
/-- n bytes of a number, the highest first -/
def beV (x:Nat):Nat → List Value
 | 0=>[]
 | n + 1=>.int .u8 ((x / 2 ^ (8 * n) % 256:Nat):Int) :: beV x n
def preV (n:Nat) (L:List Value):List Value:=L.take n
def sApp:Spec:=fun args h K=>match args,h with
 | [.slice (some ⟨0,0,some 0⟩) n 2,.int .u64 x,.int .i64 m],[.cells true L 5 _]=>n ≤ L.length ∧ n ≤ 1000 ∧ 0 ≤ x ∧ x < 2 ^ 64 ∧ 0 < m ∧ m ≤ 8 ∧ K (.slice (some ⟨0,0,some 0⟩) (n + m.toNat) 2) [.cells true (preV n L ++ beV x.toNat m.toNat) 5 true]
 | _,_=>False
def TApp:LSpec:=fun e h k=>match e,h with
 | [(0,.slice (some ⟨0,0,some 0⟩) n 2),(1,.int .u64 x),(7,.int .i64 i)],[.cells true L 5 _]=>n ≤ L.length ∧ n ≤ 1000 ∧ 0 ≤ x ∧ x < 2 ^ 64 ∧ 0 ≤ i ∧ i < 8 ∧ k (.exit 0) [(0,.slice (some ⟨0,0,some 0⟩) (n + (i.toNat + 1)) 2)] [.cells true (preV n L ++ beV x.toNat (i.toNat + 1)) 5 true]
 | _,_=>False
noncomputable def cApp:FCfg:=mkG Try.prog G0 [] 23 [(0,[0,1,2]),(1,[0,1,7]),(2,[0,1,7,11]),(3,[0,1,7]),(4,[0,1,7]),(5,[6])] [(2,[0,1,7])] [(2,[0])] [(2,TApp)] [] [] 40 1
noncomputable def tApp (n:Nat) (L:List Value) (mv:Bool) (x i:Int) (k:AExit → Env → AHeap → Prop):Prop:=codeK cApp (nthLoop 0 (codeOf Try.f83)) [(0,.slice (some ⟨0,0,some 0⟩) n 2),(1,.int .u64 x),(7,.int .i64 i)] [.cells true L 5 mv] k
noncomputable def bApp (n:Nat) (L:List Value) (mv:Bool) (x m:Int) (K:Value → AHeap → Prop):Prop:=bodyK cApp (codeOf Try.f83) Try.f83.results.toList [.slice (some ⟨0,0,some 0⟩) n 2,.int .u64 x,.int .i64 m] [.cells true L 5 mv] K
theorem bVldT_eq (cr ch ma co fi:Int) (d:ByteArray) (wd:Int) (K:Value → AHeap → Prop):bVldT cr ch ma co fi d wd K = (∀ x1:Int,((x1 = cr) → (cond (decide ((x1 < (0:Int)))) (K (Value.bool Bool.false) []) (cond (decide ((x1 > (255:Int)))) (K (Value.bool Bool.false) []) (∀ x2:Int,((x2 = ma) → (cond (decide ((x2 < (0:Int)))) (K (Value.bool Bool.false) []) (cond (decide ((x2 > (255:Int)))) (K (Value.bool Bool.false) []) (∀ x3:Int,((x3 = co) → (cond (decide ((x3 < (0:Int)))) (K (Value.bool Bool.false) []) (cond (decide ((x3 > (255:Int)))) (K (Value.bool Bool.false) []) (∀ x4:Int,((x4 = (((ByteArray.size d):Nat):Int)) → (cond (decide ((ch ≥ (0:Int)))) (cond (decide ((ch < (8:Int)))) (cond (decide ((x4 ≥ (32:Int)))) (cond (decide ((x4 ≤ (200:Int)))) (cond (decide ((fi ≥ (0:Int)))) (cond (decide ((fi < x4))) (K (Value.bool Bool.true) []) (cond (decide ((fi = (2046:Int)))) (K (Value.bool Bool.true) []) (K (Value.bool (decide ((fi = (2047:Int))))) []))) (cond (decide ((fi = (2046:Int)))) (K (Value.bool Bool.true) []) (K (Value.bool (decide ((fi = (2047:Int))))) []))) (K (Value.bool Bool.false) [])) (K (Value.bool Bool.false) [])) (K (Value.bool Bool.false) [])) (K (Value.bool Bool.false) [])))))))))))))))):=by
 kernel_rfl
theorem bRVldT_eq (cr ch ma co fi:Int) (d:ByteArray) (wd:Int) (K:Value → AHeap → Prop):bRVldT cr ch ma co fi d wd K = (cond (decide ((cr < (0:Int)))) (K (Value.bool Bool.false) []) (cond (decide ((cr > (255:Int)))) (K (Value.bool Bool.false) []) (cond (decide ((ma < (0:Int)))) (K (Value.bool Bool.false) []) (cond (decide ((ma > (255:Int)))) (K (Value.bool Bool.false) []) (cond (decide ((co < (0:Int)))) (K (Value.bool Bool.false) []) (cond (decide ((co > (255:Int)))) (K (Value.bool Bool.false) []) (cond (decide ((ch < (0:Int)))) (K (Value.bool Bool.false) []) (cond (decide ((ch > (7:Int)))) (K (Value.bool Bool.false) []) (∀ x1:Int,((x1 = (((ByteArray.size d):Nat):Int)) → (cond (decide ((x1 < (32:Int)))) (K (Value.bool Bool.false) []) (∀ x2:Int,((x2 = (((ByteArray.size d):Nat):Int)) → (cond (decide ((x2 > (200:Int)))) (K (Value.bool Bool.false) []) (cond (decide ((fi ≥ (0:Int)))) (∀ x3:Int,((x3 = (((ByteArray.size d):Nat):Int)) → (cond (decide ((fi < x3))) (K (Value.bool Bool.true) []) (cond (decide ((fi = (2046:Int)))) (K (Value.bool Bool.true) []) (K (Value.bool (decide ((fi = (2047:Int))))) []))))) (cond (decide ((fi = (2046:Int)))) (K (Value.bool Bool.true) []) (K (Value.bool (decide ((fi = (2047:Int))))) []))))))))))))))))):=by
 kernel_rfl
theorem tNum_eq (s:ByteArray) (v n i:Int) (k:AExit → Env → AHeap → Prop):tNum s v n i k = (cond (decide ((i < n))) (∀ x1:Int,((x1 = (iMul IntKind.u64 v (256:Int))) → (cond ((decide (((0:Int) ≤ i))) && (decide ((i < (((ByteArray.size s):Nat):Int))))) (∀ x2:Int,((x2 = (((BitVec.toNat ((List.getD ((s).data).toList (Int.toNat i) (UInt8.ofBitVec (BitVec.ofNat (8:Nat) 0)))).toBitVec):Nat):Int)) → (∀ x3:Int,((x3 = (IntKind.wrap IntKind.u64 x2)) → (∀ x4:Int,((x4 = (iOr IntKind.u64 x1 x3)) → (∀ x5:Int,((x5 = (iAdd IntKind.i64 i (1:Int))) → (k AExit.normal [(Prod.mk 0 (Value.string s)),(Prod.mk 3 (Value.int IntKind.u64 x4)),(Prod.mk 6 (Value.int IntKind.i64 n)),(Prod.mk 7 (Value.int IntKind.i64 x5))] []))))))))) False))) (k (AExit.exit 0) [(Prod.mk 0 (Value.string s)),(Prod.mk 3 (Value.int IntKind.u64 v)),(Prod.mk 6 (Value.int IntKind.i64 n)),(Prod.mk 7 (Value.int IntKind.i64 i)),(Prod.mk 8 (Value.bool Bool.false))] [])):=by
 kernel_rfl
theorem bNum_eq (s:ByteArray) (K:Value → AHeap → Prop):bNum s K = (∀ x1:Int,((x1 = (((ByteArray.size s):Nat):Int)) → (((ByteArray.size s) ≤ (7:Nat)) ∧ (((0:Int) = (0:Int)) ∧ ((x1 = (((ByteArray.size s):Nat):Int)) ∧ (((0:Int) = (0:Int)) ∧ (K (Value.int IntKind.u64 (((numN s):Nat):Int)) []))))))):=by
 kernel_rfl
theorem bRNum_eq (s:ByteArray) (K:Value → AHeap → Prop):bRNum s K = (cond (decide (((0:Int) < (((ByteArray.size s):Nat):Int)))) (∀ x1:Int,((x1 = (((BitVec.toNat ((List.getD ((s).data).toList 0 (UInt8.ofBitVec (BitVec.ofNat (8:Nat) 0)))).toBitVec):Nat):Int)) → (∀ x2:Int,((x2 = (IntKind.wrap IntKind.i64 x1)) → (∀ x3:Int,((x3 = (iMul IntKind.i64 x2 (256:Int))) → (cond (decide (((1:Int) < (((ByteArray.size s):Nat):Int)))) (∀ x4:Int,((x4 = (((BitVec.toNat ((List.getD ((s).data).toList (1:Nat) (UInt8.ofBitVec (BitVec.ofNat (8:Nat) 0)))).toBitVec):Nat):Int)) → (∀ x5:Int,((x5 = (IntKind.wrap IntKind.i64 x4)) → (∀ x6:Int,((x6 = (iAdd IntKind.i64 x3 x5)) → (K (Value.int IntKind.i64 x6) []))))))) False))))))) False):=by
 kernel_rfl
theorem bTwoT_eq (n:Int) (K:Value → AHeap → Prop):bTwoT n K = (∀ x1:Int,((x1 = (IntKind.wrap IntKind.i64 (Int.tdiv n (256:Int)))) → (∀ x2:Int,((x2 = (IntKind.wrap IntKind.u8 x1)) → (∀ x3:Int,((x3 = (Int.tmod n (256:Int))) → (∀ x4:Int,((x4 = (IntKind.wrap IntKind.u8 x3)) → (∀ x5:ByteArray,((x5 = (ByteArray.mk (Array.mk [(UInt8.ofBitVec (BitVec.ofNat (8:Nat) (Int.toNat x2))),(UInt8.ofBitVec (BitVec.ofNat (8:Nat) (Int.toNat x4)))]))) → (K (Value.string x5) []))))))))))):=by
 kernel_rfl
theorem tApp_eq (n:Nat) (L:List Value) (mv:Bool) (x i:Int) (k:AExit → Env → AHeap → Prop):tApp n L mv x i k = (cond (decide ((i ≥ (0:Int)))) (∀ x1:Int,((x1 = (iMul IntKind.i64 (8:Int) i)) → (cond (decide (((0:Int) ≤ x1))) (∀ x2:Int,((x2 = (Int.fdiv x ((2:Int) ^ (ite ((Int.toNat x1) ≤ (64:Nat)) (Int.toNat x1) (64:Nat)):Int))) → (∀ x3:Int,((x3 = (IntKind.wrap IntKind.u8 x2)) → (cond ((decide (((0 + (n * (1:Nat):Nat):Nat) ≤ (List.length L)))) && (decide ((((n + (1:Nat):Nat) * (1:Nat):Nat) ≤ (140737488355328:Nat))))) (∀ x4:Int,((x4 = (iSub IntKind.i64 i (1:Int))) → (k AExit.normal [(Prod.mk 0 (Value.slice (Option.some (Addr.mk 0 0 (Option.some 0))) (n + (1:Nat):Nat) (2:Nat))),(Prod.mk 1 (Value.int IntKind.u64 x)),(Prod.mk 7 (Value.int IntKind.i64 x4))] [(AObj.cells Bool.true (List.append (List.take (n * (1:Nat):Nat) (List.drop 0 L)) [(Value.int IntKind.u8 x3)]) (5:Nat) Bool.true),(AObj.cells Bool.true [(Value.int IntKind.u8 x3)] (5:Nat) Bool.false)]))) False))))) False))) (k (AExit.exit 0) [(Prod.mk 0 (Value.slice (Option.some (Addr.mk 0 0 (Option.some 0))) n (2:Nat))),(Prod.mk 1 (Value.int IntKind.u64 x)),(Prod.mk 7 (Value.int IntKind.i64 i)),(Prod.mk 11 (Value.bool Bool.false))] [(AObj.cells Bool.true L (5:Nat) mv)])):=by
 kernel_rfl
theorem bApp_eq (n:Nat) (L:List Value) (mv:Bool) (x m:Int) (K:Value → AHeap → Prop):bApp n L mv x m K = (∀ x1:Int,((x1 = (iSub IntKind.i64 m (1:Int))) → ((n ≤ (List.length L)) ∧ ((n ≤ (1000:Nat)) ∧ (((0:Int) ≤ x) ∧ ((x < (18446744073709551616:Int)) ∧ (((0:Int) ≤ x1) ∧ ((x1 < (8:Int)) ∧ (K (Value.slice (Option.some (Addr.mk 0 0 (Option.some 0))) (n + ((Int.toNat x1) + (1:Nat):Nat):Nat) (2:Nat)) [(AObj.cells Bool.true (List.append (preV n L) (beV (Int.toNat x) ((Int.toNat x1) + (1:Nat):Nat))) (5:Nat) Bool.true)]))))))))):=by
 kernel_rfl
end Go.Am.Tmf

namespace Go.Am.Tmf
open Go Go.Am Go.Am.Lib Go.Proofs
open Go.Am.Pkt (G0 codeOf mixed none_ok by2)
set_option maxRecDepth 100000

theorem vldT_iff {cr ch ma co fi:Int} {n:Nat}:vldT cr ch ma co fi n = true ↔ ((0 ≤ cr ∧ cr ≤ 255) ∧ (0 ≤ ma ∧ ma ≤ 255) ∧ (0 ≤ co ∧ co ≤ 255) ∧ (0 ≤ ch ∧ ch < 8) ∧ (32 ≤ n ∧ n ≤ 200) ∧ ((0 ≤ fi ∧ fi < n) ∨ fi = 2046 ∨ fi = 2047)):=by
 unfold vldT;rw [decide_eq_true_eq]
theorem okVldT:SpecOk Try.prog G0 55 sVldT :=
 spec2 mixed none_ok Try.func55 (by kernel_rfl:Try.f55.body = some (codeOf Try.f55)) cVldT rfl rfl rfl (by kernel_rfl) (ids:=[2]) (by kernel_rfl) ⟨trivial,trivial⟩ (by
  intro args h K hk
  unfold sVldT at hk
  split at hk
  · rename_i cr ch ma co fi d wd
    obtain ⟨hd,hk⟩:=hk
    show bVldT cr ch ma co fi d wd K
    rw [bVldT_eq]
    have key:∀ b,vldT cr ch ma co fi d.size = b → K (.bool b) []:=fun b hb=>by rw [← hb];exact hk
    have no:¬ ((0 ≤ cr ∧ cr ≤ 255) ∧ (0 ≤ ma ∧ ma ≤ 255) ∧ (0 ≤ co ∧ co ≤ 255) ∧ (0 ≤ ch ∧ ch < 8) ∧ (32 ≤ d.size ∧ d.size ≤ 200) ∧ ((0 ≤ fi ∧ fi < d.size) ∨ fi = 2046 ∨ fi = 2047)) → K (.bool false) []:=fun h=>key _ (by unfold vldT;rw [decide_eq_false h])
    have yes:=fun h=>key true (vldT_iff.2 h)
    clear hk
    intro ycr ecr;replace ecr:=ecr.symm;subst ecr
    by_cases h1:cr < 0
    · rw [dT h1];exact no (by omega)
    rw [dF h1]
    by_cases h2:cr > 255
    · rw [dT h2];exact no (by omega)
    rw [dF h2]
    intro yma ema;replace ema:=ema.symm;subst ema
    by_cases h3:ma < 0
    · rw [dT h3];exact no (by omega)
    rw [dF h3]
    by_cases h4:ma > 255
    · rw [dT h4];exact no (by omega)
    rw [dF h4]
    intro yco eco;replace eco:=eco.symm;subst eco
    by_cases h5:co < 0
    · rw [dT h5];exact no (by omega)
    rw [dF h5]
    by_cases h6:co > 255
    · rw [dT h6];exact no (by omega)
    rw [dF h6]
    intro x4 e4
    by_cases h7:ch ≥ 0
    rotate_left
    · rw [dF h7];exact no (by omega)
    rw [dT h7]
    by_cases h8:ch < 8
    rotate_left
    · rw [dF h8];exact no (by omega)
    rw [dT h8]
    by_cases h9:x4 ≥ 32
    rotate_left
    · rw [dF h9];exact no (by omega)
    rw [dT h9]
    by_cases h10:x4 ≤ 200
    rotate_left
    · rw [dF h10];exact no (by omega)
    rw [dT h10]
    by_cases h12:fi = 2046
    · rw [dT h12]
      by_cases h11:fi ≥ 0
      · rw [dT h11,dF (by omega)];exact yes (by omega)
      · omega
    rw [dF h12]
    by_cases h13:fi = 2047
    · rw [decide_eq_true h13]
      by_cases h11:fi ≥ 0
      · rw [dT h11,dF (by omega)];exact yes (by omega)
      · omega
    rw [decide_eq_false h13]
    by_cases h11:fi ≥ 0
    · rw [dT h11]
      by_cases h14:fi < x4
      · rw [dT h14];exact yes (by omega)
      · rw [dF h14];exact no (by omega)
    · rw [dF h11];exact no (by omega)
  · exact hk.elim)
theorem okRVldT:SpecOk Try.prog G0 87 sVldT :=
 spec2 mixed none_ok Try.func87 (by kernel_rfl:Try.f87.body = some (codeOf Try.f87)) cRVldT rfl rfl rfl (by kernel_rfl) (ids:=[]) (by kernel_rfl) trivial (by
  intro args h K hk
  unfold sVldT at hk
  split at hk
  · rename_i cr ch ma co fi d wd
    obtain ⟨hd,hk⟩:=hk
    show bRVldT cr ch ma co fi d wd K
    rw [bRVldT_eq]
    have key:∀ b,vldT cr ch ma co fi d.size = b → K (.bool b) []:=fun b hb=>by rw [← hb];exact hk
    have no:¬ ((0 ≤ cr ∧ cr ≤ 255) ∧ (0 ≤ ma ∧ ma ≤ 255) ∧ (0 ≤ co ∧ co ≤ 255) ∧ (0 ≤ ch ∧ ch < 8) ∧ (32 ≤ d.size ∧ d.size ≤ 200) ∧ ((0 ≤ fi ∧ fi < d.size) ∨ fi = 2046 ∨ fi = 2047)) → K (.bool false) []:=fun h=>key _ (by unfold vldT;rw [decide_eq_false h])
    have yes:=fun h=>key true (vldT_iff.2 h)
    clear hk
    by_cases h1:cr < 0
    · rw [dT h1];exact no (by omega)
    rw [dF h1]
    by_cases h2:cr > 255
    · rw [dT h2];exact no (by omega)
    rw [dF h2]
    by_cases h3:ma < 0
    · rw [dT h3];exact no (by omega)
    rw [dF h3]
    by_cases h4:ma > 255
    · rw [dT h4];exact no (by omega)
    rw [dF h4]
    by_cases h5:co < 0
    · rw [dT h5];exact no (by omega)
    rw [dF h5]
    by_cases h6:co > 255
    · rw [dT h6];exact no (by omega)
    rw [dF h6]
    by_cases h7:ch < 0
    · rw [dT h7];exact no (by omega)
    rw [dF h7]
    by_cases h8:ch > 7
    · rw [dT h8];exact no (by omega)
    rw [dF h8]
    intro x1 e1
    by_cases h9:x1 < 32
    · rw [dT h9];exact no (by omega)
    rw [dF h9]
    intro x2 e2
    by_cases h10:x2 > 200
    · rw [dT h10];exact no (by omega)
    rw [dF h10]
    by_cases h12:fi = 2046
    · rw [dT h12]
      by_cases h11:fi ≥ 0
      · rw [dT h11]
        intro x3 e3
        rw [dF (by omega)];exact yes (by omega)
      · omega
    rw [dF h12]
    by_cases h13:fi = 2047
    · rw [decide_eq_true h13]
      by_cases h11:fi ≥ 0
      · rw [dT h11]
        intro x3 e3
        rw [dF (by omega)];exact yes (by omega)
      · omega
    rw [decide_eq_false h13]
    by_cases h11:fi ≥ 0
    · rw [dT h11]
      intro x3 e3
      by_cases h14:fi < x3
      · rw [dT h14];exact yes (by omega)
      · rw [dF h14];exact no (by omega)
    · rw [dF h11];exact no (by omega)
  · exact hk.elim)

/-! ### numbers -/
theorem capu64:cap .u64 = 18446744073709551616:=by decide
theorem loopNum:∀ e h k,TNum e h k → ∃ m,loopN cNum (codeOf Try.f53) 0 3 m e h k:=by
 intro e h k hT
 unfold TNum at hT
 split at hT
 · rename_i s v n i
   obtain ⟨hs,rfl,rfl,rfl,hk⟩:=hT
   refine ⟨s.size + 1,?_⟩
   have key:∀ n i v:Nat,i + n = s.size → v < 256 ^ i → k (.exit 0) [(3,.int .u64 ((numG n s i v:Nat):Int))] [] →
    loopN cNum (codeOf Try.f53) 0 3 (n + 1) [(0,.string s),(3,.int .u64 ((v:Nat):Int)),(6,.int .i64 ((s.size:Nat):Int)),(7,.int .i64 ((i:Nat):Int))] [] k:=by
    intro n
    induction n with
    | zero =>
     intro i v hi hv hk
     rw [loopN_succ]
     show tNum s (v:Nat) (s.size:Nat) (i:Nat) _
     rw [tNum_eq,dF (by omega)]
     exact hk
    | succ n ih =>
     intro i v hi hv hk
     rw [loopN_succ]
     show tNum s (v:Nat) (s.size:Nat) (i:Nat) _
     rw [tNum_eq,dT (by omega)]
     have hb:=byteAt_lt s i
     have h6:256 ^ i ≤ 256 ^ 6:=Nat.pow_le_pow_right (by omega) (by omega)
     have h7:v * 256 < 72057594037927936:=by
      have:256 ^ 6 = 281474976710656:=by decide
      omega
     intro x1 h1
     rw [show (256:Int) = ((256:Nat):Int) from rfl,iMul_cast .u64 (by rw [capu64];omega)] at h1
     rw [dT2 (by omega) (by omega),Int.toNat_natCast]
     intro x2 h2
     replace h2:x2 = ((byteAt s i:Nat):Int):=h2
     intro x3 h3 x4 h4 x5 h5
     rw [h2,wrap_u64 (by omega) (by omega)] at h3
     rw [h1,h3,iOr_cast .u64 (by rw [capu64];omega) (by rw [capu64];omega)] at h4
     have e4:v * 256 ||| byteAt s i = v * 256 + byteAt s i:=Go.Am.Pkt.or_add (k:=8) (by omega)
     rw [e4] at h4
     rw [iAdd_i64 (by omega) (by omega)] at h5
     obtain rfl:x5 = ((i + 1:Nat):Int):=by omega
     subst h4
     exact ih (i + 1) _ (by omega) (by rw [Nat.pow_succ];omega) hk
   exact key s.size 0 0 (by omega) (by decide) hk
 · exact hT.elim
theorem okNum:SpecOk Try.prog G0 53 sNum :=
 spec2 mixed none_ok Try.func53 (by kernel_rfl:Try.f53.body = some (codeOf Try.f53)) cNum rfl rfl rfl (by kernel_rfl) (ids:=[3]) (by kernel_rfl) ⟨by intro e h k hT;exact loopNum e h k hT,trivial⟩ (by
  intro args h K hk
  unfold sNum at hk
  split at hk
  · rename_i s
    show bNum s K
    rw [bNum_eq]
    intro x1 h1
    exact ⟨hk.1,rfl,h1,rfl,hk.2⟩
  · exact hk.elim)
theorem okRNum:SpecOk Try.prog G0 61 sRNum :=
 spec2 mixed none_ok Try.func61 (by kernel_rfl:Try.f61.body = some (codeOf Try.f61)) cRNum rfl rfl rfl (by kernel_rfl) (ids:=[]) (by kernel_rfl) trivial (by
  intro args h K hk
  unfold sRNum at hk
  split at hk
  · rename_i s
    obtain ⟨hs,hk⟩:=hk
    show bRNum s K
    rw [bRNum_eq]
    rw [dT (by omega)]
    have hb0:=byteAt_lt s 0
    have hb1:=byteAt_lt s 1
    intro x1 h1
    replace h1:x1 = ((byteAt s 0:Nat):Int):=h1
    intro x2 h2 x3 h3
    rw [h1,w64 (by omega)] at h2
    rw [h2,show (256:Int) = ((256:Nat):Int) from rfl,iMul_cast .i64 (by rw [cap64];omega)] at h3
    rw [dT (by omega)]
    intro x4 h4
    replace h4:x4 = ((byteAt s 1:Nat):Int):=h4
    intro x5 h5 x6 h6
    rw [h4,w64 (by omega)] at h5
    rw [h3,h5,iAdd_cast .i64 (by rw [cap64];omega)] at h6
    rw [h6]
    exact hk
  · exact hk.elim)
theorem okTwoT:SpecOk Try.prog G0 88 Pkt.sTwo :=
 spec2 mixed none_ok Try.func88 (by kernel_rfl:Try.f88.body = some (codeOf Try.f88)) cTwoT rfl rfl rfl (by kernel_rfl) (ids:=[]) (by kernel_rfl) trivial (by
  intro args h K hk
  unfold Pkt.sTwo at hk
  split at hk
  · rename_i n
    obtain ⟨h0,h1,hk⟩:=hk
    obtain ⟨n,rfl⟩:=nat_of h0
    show bTwoT _ K
    rw [bTwoT_eq]
    rintro x1 e1 x2 e2 x3 e3 x4 e4 x5 e5
    rw [show (256:Int) = ((256:Nat):Int) from rfl] at e1 e3
    rw [tdiv_cast,wrap_cast .i64 (by rw [cap64];omega)] at e1
    rw [e1,wrap8,Nat.mod_eq_of_lt (by omega)] at e2
    rw [tmod_cast] at e3
    rw [e3,wrap8,Nat.mod_eq_of_lt (by omega)] at e4
    have:x5 = ⟨(by2 n).toArray⟩:=by rw [e5,e2,e4];rfl
    rw [this]
    rw [Int.toNat_natCast] at hk
    exact hk
  · exact hk.elim)
/-! ### appended -/
theorem beV_len (x:Nat):∀ n,(beV x n).length = n
 | 0=>rfl
 | n + 1=>by rw [beV,List.length_cons,beV_len x n]
theorem loopApp:∀ e h k,TApp e h k → ∃ m,loopN cApp (codeOf Try.f83) 0 2 m e h k:=by
 intro e h k hT
 unfold TApp at hT
 split at hT
 · rename_i n x i L mv
   obtain ⟨hn,hn2,x0,x1,i0,i1,hk⟩:=hT
   obtain ⟨x,rfl⟩:=nat_of x0
   obtain ⟨j,rfl⟩:=nat_of i0
   rw [Int.toNat_natCast,Int.toNat_natCast] at hk
   refine ⟨j + 2,?_⟩
   have key:∀ (c n:Nat) (i:Int) (L:List Value) (mv:Bool),i + 1 = c → c ≤ 8 → (c = 0 → mv = true ∧ n = L.length) → n ≤ L.length → n + c ≤ 1008 → k (.exit 0) [(0,.slice (some ⟨0,0,some 0⟩) (n + c) 2)] [.cells true (preV n L ++ beV x c) 5 true] →
    loopN cApp (codeOf Try.f83) 0 2 (c + 1) [(0,.slice (some ⟨0,0,some 0⟩) n 2),(1,.int .u64 ((x:Nat):Int)),(7,.int .i64 i)] [.cells true L 5 mv] k:=by
    intro c
    induction c with
    | zero =>
     intro n i L mv hi hc hmv hn hn2 hk
     rw [(hmv rfl).1]
     rw [loopN_succ]
     show tApp n L true (x:Nat) i _
     rw [tApp_eq,dF (by omega)]
     rw [beV,List.append_nil,preV,(hmv rfl).2,List.take_length,← (hmv rfl).2] at hk
     exact hk
    | succ c ih =>
     intro n i L mv hi hc hmv hn hn2 hk
     rw [loopN_succ]
     show tApp n L mv (x:Nat) i _
     rw [tApp_eq,dT (by omega)]
     intro y1 h1
     rw [iMul_i64 (by omega) (by omega)] at h1
     rw [dT (by omega)]
     have e1:y1.toNat = 8 * c:=by omega
     rw [e1,if_pos (show 8 * c ≤ 64 by omega)]
     intro y2 h2 y3 h3
     rw [show ((2:Int) ^ (8 * c)) = ((2 ^ (8 * c):Nat):Int) from by rw [Int.natCast_pow];rfl,fdiv_cast] at h2
     rw [h2,wrap8] at h3
     rw [dT2 (by omega) (by omega)]
     intro y4 h4
     rw [iSub_i64 (by omega) (by omega)] at h4
     have hL:List.append (List.take (n * 1) (List.drop 0 L)) [.int .u8 y3] = preV n L ++ [.int .u8 y3]:=by
      rw [List.drop_zero,Nat.mul_one];rfl
     have hLl:(preV n L ++ [Value.int .u8 y3]).length = n + 1:=by
      rw [List.length_append,preV,List.length_take];show min n L.length + 1 = n + 1;omega
     rw [hL]
     have hq:=ih (n + 1) y4 (preV n L ++ [.int .u8 y3]) true (by omega) (by omega) (fun _=>⟨rfl,hLl.symm⟩) (by rw [hLl];exact Nat.le_refl _) (by omega) (by
      rw [show n + 1 + c = n + (c + 1) by omega,preV,List.take_of_length_le (by rw [hLl];exact Nat.le_refl _),List.append_assoc,h3]
      exact hk)
     rw [loopN_succ] at hq
     change tApp (n + 1) (preV n L ++ [.int .u8 y3]) true (x:Nat) y4 _ at hq
     show loopN cApp (codeOf Try.f83) 0 2 (c + 1) _ _ k
     rw [loopN_succ]
     show tApp (n + 1) (preV n L ++ [.int .u8 y3]) true (x:Nat) y4 _
     exact hq
   exact key (j + 1) n (j:Nat) L mv (by omega) (by omega) (by omega) hn (by omega) hk
 · exact hT.elim
theorem okApp:SpecOk Try.prog G0 83 sApp :=
 spec2 mixed none_ok Try.func83 (by kernel_rfl:Try.f83.body = some (codeOf Try.f83)) cApp rfl rfl rfl (by kernel_rfl) (ids:=[2]) (by kernel_rfl) ⟨by intro e h k hT;exact loopApp e h k hT,trivial⟩ (by
  intro args h K hk
  unfold sApp at hk
  split at hk
  · rename_i n x m L mv
    obtain ⟨hn,hn2,x0,x1,m0,m1,hk⟩:=hk
    show bApp n L mv x m K
    rw [bApp_eq]
    intro y1 h1
    rw [iSub_i64 (by omega) (by omega)] at h1
    refine ⟨hn,hn2,x0,by omega,by omega,by omega,?_⟩
    rw [show y1.toNat + 1 = m.toNat by omega]
    exact hk
  · exact hk.elim)
end Go.Am.Tmf

namespace Go.Am.Tmf
open Go Go.Am Go.Am.Lib Go.Proofs
open Go.Am.Pkt (G0 codeOf mixed none_ok by2)
set_option maxRecDepth 100000

def hdT (cr ch ma co fi:Nat) (d:ByteArray) (wd:Nat):ByteArray:=⟨⟨by2 (cr * 64 + ch * 8) ++ (by2 (ma * 256 + co) ++ by2 fi)⟩⟩ ++ d ++ ⟨⟨by2 (wd / 65536) ++ by2 (wd % 65536)⟩⟩
def encT (cr ch ma co fi:Nat) (d:ByteArray) (wd:Nat):ByteArray:=hdT cr ch ma co fi d wd ++ ⟨⟨by2 (crc (hdT cr ch ma co fi d wd))⟩⟩
def putT (cr ch ma co fi:Int) (d:ByteArray) (wd:Int):ByteArray:=if vldT cr ch ma co fi d.size = true then encT cr.toNat ch.toNat ma.toNat co.toNat fi.toNat d wd.toNat else ⟨⟨[]⟩⟩
def putTE (cr ch ma co fi:Int) (d:ByteArray):Int:=if vldT cr ch ma co fi d.size = true then 0 else 2
def sPutT:Spec:=fun args h K=>match args,h with
 | [.agg ⟨[.int .i64 cr,.int .i64 ch,.int .i64 ma,.int .i64 co,.int .i64 fi,.string d,.int .u32 wd]⟩],[]=>d.size < 2 ^ 62 ∧ 0 ≤ wd ∧ wd < 2 ^ 32 ∧ K (.tuple ⟨[.string (putT cr ch ma co fi d wd),.int .i64 (putTE cr ch ma co fi d)]⟩) []
 | _,_=>False
def tPutT:List (Nat × Spec):=[(55,sVldT),(87,sVldT),(88,Pkt.sTwo),(54,sSum),(62,sSum),(83,sApp)]
noncomputable def cPutT:FCfg:={ mkG Try.prog G0 tPutT 54 [(0,[1]),(1,[1,7]),(2,[2,3]),(3,[1,4]),(4,[1,4]),(5,[1,4]),(6,[1,4]),(7,[1,4]),(8,[4]),(9,[4]),(10,[2,3])] [] [] [] [] [] 40 0 with hold:=lookL [] }
noncomputable def bPutT (cr ch ma co fi:Int) (d:ByteArray) (wd:Int) (K:Value → AHeap → Prop):Prop:=bodyK cPutT (codeOf Try.f44) Try.f44.results.toList [frV cr ch ma co fi d wd] [] K
noncomputable def cRPutT:FCfg:={ mkG Try.prog G0 tPutT 50 [(0,[1]),(1,[1,7]),(2,[2,3]),(3,[1,4]),(4,[4]),(5,[2,3])] [] [] [] [] [] 40 0 with hold:=lookL [(3,[0]),(4,[0])] }
noncomputable def bRPutT (cr ch ma co fi:Int) (d:ByteArray) (wd:Int) (K:Value → AHeap → Prop):Prop:=bodyK cRPutT (codeOf Try.f51) Try.f51.results.toList [frV cr ch ma co fi d wd] [] K
theorem bPutT_eq (cr ch ma co fi:Int) (d:ByteArray) (wd:Int) (K:Value → AHeap → Prop):bPutT cr ch ma co fi d wd K = (((ByteArray.size d) < (4611686018427387904:Nat)) ∧ (cond (!(vldT cr ch ma co fi (ByteArray.size d))) (K (Value.tuple (Array.mk [(Value.string (ByteArray.mk (Array.mk []))),(Value.int IntKind.i64 (2:Int))])) []) (∀ x1:Int,((x1 = (((ByteArray.size d):Nat):Int)) → (∀ x2:Int,((x2 = (iAdd IntKind.i64 x1 (12:Int))) → (cond ((((((decide (((0:Int) ≤ x2))) && (decide ((x2 ≤ (9223372036854775807:Int))))) && (decide ((((1:Int) * x2:Int) ≤ (281474976710656:Int))))) && Bool.true) && Bool.true) && Bool.true) (∀ x3:Int,((x3 = (iMul IntKind.i64 cr (64:Int))) → (∀ x4:Int,((x4 = (iMul IntKind.i64 ch (8:Int))) → (∀ x5:Int,((x5 = (iOr IntKind.i64 x3 x4)) → (∀ x6:Int,((x6 = (IntKind.wrap IntKind.u64 x5)) → ((0 ≤ (List.length (List.replicate (Int.toNat x2) (Value.int IntKind.u8 (0:Int))))) ∧ ((0 ≤ (1000:Nat)) ∧ (((0:Int) ≤ x6) ∧ ((x6 < (18446744073709551616:Int)) ∧ (((0:Int) < (2:Int)) ∧ (((2:Int) ≤ (8:Int)) ∧ (∀ x7:Int,((x7 = (IntKind.wrap IntKind.u8 ma)) → (∀ x8:Int,((x8 = (IntKind.wrap IntKind.u8 co)) → (cond ((decide (((2:Nat) ≤ (List.length (List.append (preV 0 (List.replicate (Int.toNat x2) (Value.int IntKind.u8 (0:Int)))) (beV (Int.toNat x6) (2:Nat))))))) && Bool.true) (∀ x9:Int,((x9 = (IntKind.wrap IntKind.u64 fi)) → (((4:Nat) ≤ (List.length (List.append (List.take (2:Nat) (List.drop 0 (List.append (preV 0 (List.replicate (Int.toNat x2) (Value.int IntKind.u8 (0:Int)))) (beV (Int.toNat x6) (2:Nat))))) [(Value.int IntKind.u8 x7),(Value.int IntKind.u8 x8)]))) ∧ (((4:Nat) ≤ (1000:Nat)) ∧ (((0:Int) ≤ x9) ∧ ((x9 < (18446744073709551616:Int)) ∧ (((0:Int) < (2:Int)) ∧ (((2:Int) ≤ (8:Int)) ∧ (cond ((decide (((6:Nat) ≤ (List.length (List.append (preV (4:Nat) (List.append (List.take (2:Nat) (List.drop 0 (List.append (preV 0 (List.replicate (Int.toNat x2) (Value.int IntKind.u8 (0:Int)))) (beV (Int.toNat x6) (2:Nat))))) [(Value.int IntKind.u8 x7),(Value.int IntKind.u8 x8)])) (beV (Int.toNat x9) (2:Nat))))))) && (decide (((((6:Nat) + (ByteArray.size d):Nat) * (1:Nat):Nat) ≤ (140737488355328:Nat))))) (∀ x10:Int,((x10 = (IntKind.wrap IntKind.u64 wd)) → ((((6:Nat) + (ByteArray.size d):Nat) ≤ (List.length (List.append (List.take (6:Nat) (List.drop 0 (List.append (preV (4:Nat) (List.append (List.take (2:Nat) (List.drop 0 (List.append (preV 0 (List.replicate (Int.toNat x2) (Value.int IntKind.u8 (0:Int)))) (beV (Int.toNat x6) (2:Nat))))) [(Value.int IntKind.u8 x7),(Value.int IntKind.u8 x8)])) (beV (Int.toNat x9) (2:Nat))))) (bytesV d)))) ∧ ((((6:Nat) + (ByteArray.size d):Nat) ≤ (1000:Nat)) ∧ (((0:Int) ≤ x10) ∧ ((x10 < (18446744073709551616:Int)) ∧ (((0:Int) < (4:Int)) ∧ (((4:Int) ≤ (8:Int)) ∧ (cond (decide (((0 + ((((6:Nat) + (ByteArray.size d):Nat) + (4:Nat):Nat) * (1:Nat):Nat):Nat) ≤ (List.length (List.append (preV ((6:Nat) + (ByteArray.size d):Nat) (List.append (List.take (6:Nat) (List.drop 0 (List.append (preV (4:Nat) (List.append (List.take (2:Nat) (List.drop 0 (List.append (preV 0 (List.replicate (Int.toNat x2) (Value.int IntKind.u8 (0:Int)))) (beV (Int.toNat x6) (2:Nat))))) [(Value.int IntKind.u8 x7),(Value.int IntKind.u8 x8)])) (beV (Int.toNat x9) (2:Nat))))) (bytesV d))) (beV (Int.toNat x10) (4:Nat))))))) (cond (List.all (List.take ((((6:Nat) + (ByteArray.size d):Nat) + (4:Nat):Nat) * (1:Nat):Nat) (List.drop 0 (List.append (preV ((6:Nat) + (ByteArray.size d):Nat) (List.append (List.take (6:Nat) (List.drop 0 (List.append (preV (4:Nat) (List.append (List.take (2:Nat) (List.drop 0 (List.append (preV 0 (List.replicate (Int.toNat x2) (Value.int IntKind.u8 (0:Int)))) (beV (Int.toNat x6) (2:Nat))))) [(Value.int IntKind.u8 x7),(Value.int IntKind.u8 x8)])) (beV (Int.toNat x9) (2:Nat))))) (bytesV d))) (beV (Int.toNat x10) (4:Nat))))) (isInt IntKind.u8)) (∀ x11:ByteArray,((x11 = (bytesOf (List.take ((((6:Nat) + (ByteArray.size d):Nat) + (4:Nat):Nat) * (1:Nat):Nat) (List.drop 0 (List.append (preV ((6:Nat) + (ByteArray.size d):Nat) (List.append (List.take (6:Nat) (List.drop 0 (List.append (preV (4:Nat) (List.append (List.take (2:Nat) (List.drop 0 (List.append (preV 0 (List.replicate (Int.toNat x2) (Value.int IntKind.u8 (0:Int)))) (beV (Int.toNat x6) (2:Nat))))) [(Value.int IntKind.u8 x7),(Value.int IntKind.u8 x8)])) (beV (Int.toNat x9) (2:Nat))))) (bytesV d))) (beV (Int.toNat x10) (4:Nat))))))) → (((ByteArray.size x11) < (4611686018427387904:Nat)) ∧ (∀ x12:Int,((x12 = (((crc x11):Nat):Int)) → (∀ x13:Int,((x13 = (IntKind.wrap IntKind.u64 x12)) → (((((6:Nat) + (ByteArray.size d):Nat) + (4:Nat):Nat) ≤ (List.length (List.append (preV ((6:Nat) + (ByteArray.size d):Nat) (List.append (List.take (6:Nat) (List.drop 0 (List.append (preV (4:Nat) (List.append (List.take (2:Nat) (List.drop 0 (List.append (preV 0 (List.replicate (Int.toNat x2) (Value.int IntKind.u8 (0:Int)))) (beV (Int.toNat x6) (2:Nat))))) [(Value.int IntKind.u8 x7),(Value.int IntKind.u8 x8)])) (beV (Int.toNat x9) (2:Nat))))) (bytesV d))) (beV (Int.toNat x10) (4:Nat))))) ∧ (((((6:Nat) + (ByteArray.size d):Nat) + (4:Nat):Nat) ≤ (1000:Nat)) ∧ (((0:Int) ≤ x13) ∧ ((x13 < (18446744073709551616:Int)) ∧ (((0:Int) < (2:Int)) ∧ (((2:Int) ≤ (8:Int)) ∧ (cond (decide (((0 + (((((6:Nat) + (ByteArray.size d):Nat) + (4:Nat):Nat) + (2:Nat):Nat) * (1:Nat):Nat):Nat) ≤ (List.length (List.append (preV (((6:Nat) + (ByteArray.size d):Nat) + (4:Nat):Nat) (List.append (preV ((6:Nat) + (ByteArray.size d):Nat) (List.append (List.take (6:Nat) (List.drop 0 (List.append (preV (4:Nat) (List.append (List.take (2:Nat) (List.drop 0 (List.append (preV 0 (List.replicate (Int.toNat x2) (Value.int IntKind.u8 (0:Int)))) (beV (Int.toNat x6) (2:Nat))))) [(Value.int IntKind.u8 x7),(Value.int IntKind.u8 x8)])) (beV (Int.toNat x9) (2:Nat))))) (bytesV d))) (beV (Int.toNat x10) (4:Nat)))) (beV (Int.toNat x13) (2:Nat))))))) (cond (List.all (List.take (((((6:Nat) + (ByteArray.size d):Nat) + (4:Nat):Nat) + (2:Nat):Nat) * (1:Nat):Nat) (List.drop 0 (List.append (preV (((6:Nat) + (ByteArray.size d):Nat) + (4:Nat):Nat) (List.append (preV ((6:Nat) + (ByteArray.size d):Nat) (List.append (List.take (6:Nat) (List.drop 0 (List.append (preV (4:Nat) (List.append (List.take (2:Nat) (List.drop 0 (List.append (preV 0 (List.replicate (Int.toNat x2) (Value.int IntKind.u8 (0:Int)))) (beV (Int.toNat x6) (2:Nat))))) [(Value.int IntKind.u8 x7),(Value.int IntKind.u8 x8)])) (beV (Int.toNat x9) (2:Nat))))) (bytesV d))) (beV (Int.toNat x10) (4:Nat)))) (beV (Int.toNat x13) (2:Nat))))) (isInt IntKind.u8)) (∀ x14:ByteArray,((x14 = (bytesOf (List.take (((((6:Nat) + (ByteArray.size d):Nat) + (4:Nat):Nat) + (2:Nat):Nat) * (1:Nat):Nat) (List.drop 0 (List.append (preV (((6:Nat) + (ByteArray.size d):Nat) + (4:Nat):Nat) (List.append (preV ((6:Nat) + (ByteArray.size d):Nat) (List.append (List.take (6:Nat) (List.drop 0 (List.append (preV (4:Nat) (List.append (List.take (2:Nat) (List.drop 0 (List.append (preV 0 (List.replicate (Int.toNat x2) (Value.int IntKind.u8 (0:Int)))) (beV (Int.toNat x6) (2:Nat))))) [(Value.int IntKind.u8 x7),(Value.int IntKind.u8 x8)])) (beV (Int.toNat x9) (2:Nat))))) (bytesV d))) (beV (Int.toNat x10) (4:Nat)))) (beV (Int.toNat x13) (2:Nat))))))) → (K (Value.tuple (Array.mk [(Value.string x14),(Value.int IntKind.i64 (0:Int))])) []))) False) False)))))))))))))) False) False))))))))) False))))))))) False))))))))))))))))))) False))))))):=by
 kernel_rfl
theorem bRPutT_eq (cr ch ma co fi:Int) (d:ByteArray) (wd:Int) (K:Value → AHeap → Prop):bRPutT cr ch ma co fi d wd K = (((ByteArray.size d) < (4611686018427387904:Nat)) ∧ (cond (!(vldT cr ch ma co fi (ByteArray.size d))) (K (Value.tuple (Array.mk [(Value.string (ByteArray.mk (Array.mk []))),(Value.int IntKind.i64 (2:Int))])) []) (∀ x1:Int,((x1 = (iMul IntKind.i64 cr (64:Int))) → (∀ x2:Int,((x2 = (iMul IntKind.i64 ch (8:Int))) → (∀ x3:Int,((x3 = (iAdd IntKind.i64 x1 x2)) → (∀ x4:Int,((x4 = (iMul IntKind.i64 ma (256:Int))) → (∀ x5:Int,((x5 = (iAdd IntKind.i64 x4 co)) → (((0:Int) ≤ x3) ∧ ((x3 < (65536:Int)) ∧ (∀ x6:ByteArray,((x6 = (ByteArray.mk (Array.mk (Pkt.by2 (Int.toNat x3))))) → (((0:Int) ≤ x5) ∧ ((x5 < (65536:Int)) ∧ (∀ x7:ByteArray,((x7 = (ByteArray.mk (Array.mk (Pkt.by2 (Int.toNat x5))))) → (cond (decide ((((((ByteArray.size x6) + (ByteArray.size x7):Nat):Nat):Int) ≤ (9223372036854775807:Int)))) (∀ x8:ByteArray,((x8 = (ByteArray.append x6 x7)) → (((0:Int) ≤ fi) ∧ ((fi < (65536:Int)) ∧ (∀ x9:ByteArray,((x9 = (ByteArray.mk (Array.mk (Pkt.by2 (Int.toNat fi))))) → (cond (decide ((((((ByteArray.size x8) + (ByteArray.size x9):Nat):Nat):Int) ≤ (9223372036854775807:Int)))) (∀ x10:ByteArray,((x10 = (ByteArray.append x8 x9)) → (cond (decide ((((((ByteArray.size x10) + (ByteArray.size d):Nat):Nat):Int) ≤ (9223372036854775807:Int)))) (∀ x11:ByteArray,((x11 = (ByteArray.append x10 d)) → (∀ x12:Int,((x12 = (IntKind.wrap IntKind.u32 (Int.tdiv wd (65536:Int)))) → (∀ x13:Int,((x13 = (IntKind.wrap IntKind.i64 x12)) → (∀ x14:Int,((x14 = (Int.tmod wd (65536:Int))) → (∀ x15:Int,((x15 = (IntKind.wrap IntKind.i64 x14)) → (((0:Int) ≤ x13) ∧ ((x13 < (65536:Int)) ∧ (∀ x16:ByteArray,((x16 = (ByteArray.mk (Array.mk (Pkt.by2 (Int.toNat x13))))) → (cond (decide ((((((ByteArray.size x11) + (ByteArray.size x16):Nat):Nat):Int) ≤ (9223372036854775807:Int)))) (∀ x17:ByteArray,((x17 = (ByteArray.append x11 x16)) → (((0:Int) ≤ x15) ∧ ((x15 < (65536:Int)) ∧ (∀ x18:ByteArray,((x18 = (ByteArray.mk (Array.mk (Pkt.by2 (Int.toNat x15))))) → (cond (decide ((((((ByteArray.size x17) + (ByteArray.size x18):Nat):Nat):Int) ≤ (9223372036854775807:Int)))) (∀ x19:ByteArray,((x19 = (ByteArray.append x17 x18)) → (((ByteArray.size x19) < (4611686018427387904:Nat)) ∧ (∀ x20:Int,((x20 = (((crc x19):Nat):Int)) → (∀ x21:Int,((x21 = (IntKind.wrap IntKind.i64 x20)) → (((0:Int) ≤ x21) ∧ ((x21 < (65536:Int)) ∧ (∀ x22:ByteArray,((x22 = (ByteArray.mk (Array.mk (Pkt.by2 (Int.toNat x21))))) → (cond (decide ((((((ByteArray.size x19) + (ByteArray.size x22):Nat):Nat):Int) ≤ (9223372036854775807:Int)))) (∀ x23:ByteArray,((x23 = (ByteArray.append x19 x22)) → (K (Value.tuple (Array.mk [(Value.string x23),(Value.int IntKind.i64 (0:Int))])) []))) False)))))))))))) False))))))) False))))))))))))))) False))) False))))))) False))))))))))))))))))))):=by
 kernel_rfl
end Go.Am.Tmf

namespace Go.Am.Tmf
open Go Go.Am Go.Am.Lib Go.Proofs
open Go.Am.Pkt (G0 codeOf mixed none_ok by2)
set_option maxRecDepth 100000

theorem mk_app (l r:List UInt8):(⟨⟨l⟩⟩:ByteArray) ++ ⟨⟨r⟩⟩ = ⟨⟨l ++ r⟩⟩:=Pkt.mk_append l r
theorem bytesOf_app (a b:List Value):bytesOf (a ++ b) = bytesOf a ++ bytesOf b:=by
 unfold bytesOf
 rw [List.map_append]
 exact (mk_app _ _).symm
/-- all of them bytes -/
def AllB (l:List Value):Prop:=List.all l (isInt .u8) = true
theorem AllB.app {a b:List Value} (ha:AllB a) (hb:AllB b):AllB (a ++ b):=by
 unfold AllB at *
 rw [List.all_append,ha,hb];rfl
theorem allB_be (x:Nat):∀ n,AllB (beV x n)
 | 0=>rfl
 | n + 1=>by
  unfold AllB beV
  rw [List.all_cons,isInt_int,Bool.true_and]
  exact allB_be x n
theorem allB_V (s:ByteArray):AllB (bytesV s):=by
 unfold AllB
 rw [List.all_eq_true]
 intro v hv
 unfold bytesV at hv
 obtain ⟨b,_,rfl⟩:=List.mem_map.1 hv
 exact isInt_int _ _
theorem allB_2 (a b:Int):AllB [.int .u8 a,.int .u8 b]:=rfl
theorem be2 {x:Nat} (h:x < 65536):bytesOf (beV x 2) = ⟨⟨by2 x⟩⟩:=by
 have e:beV x 2 = [.int .u8 ((x / 256:Nat):Int),.int .u8 ((x % 256:Nat):Int)]:=by
  show [Value.int .u8 ((x / 2 ^ 8 % 256:Nat):Int),.int .u8 ((x / 2 ^ 0 % 256:Nat):Int)] = _
  rw [show x / 2 ^ 8 % 256 = x / 256 by omega,show x / 2 ^ 0 % 256 = x % 256 by omega]
 rw [e];rfl
theorem be4 {x:Nat} (h:x < 2 ^ 32):bytesOf (beV x 4) = ⟨⟨by2 (x / 65536) ++ by2 (x % 65536)⟩⟩:=by
 have e:beV x 4 = [.int .u8 ((x / 65536 / 256:Nat):Int),.int .u8 ((x / 65536 % 256:Nat):Int),.int .u8 ((x % 65536 / 256:Nat):Int),.int .u8 ((x % 65536 % 256:Nat):Int)]:=by
  show [Value.int .u8 ((x / 2 ^ 24 % 256:Nat):Int),.int .u8 ((x / 2 ^ 16 % 256:Nat):Int),.int .u8 ((x / 2 ^ 8 % 256:Nat):Int),.int .u8 ((x / 2 ^ 0 % 256:Nat):Int)] = _
  rw [show x / 2 ^ 24 % 256 = x / 65536 / 256 by omega,show x / 2 ^ 16 % 256 = x / 65536 % 256 by omega,show x / 2 ^ 8 % 256 = x % 65536 / 256 by omega,show x / 2 ^ 0 % 256 = x % 65536 % 256 by omega]
 rw [e];rfl
theorem two_by {a b:Nat} (hb:b < 256):bytesOf [.int .u8 ((a:Nat):Int),.int .u8 ((b:Nat):Int)] = ⟨⟨by2 (a * 256 + b)⟩⟩:=by
 unfold by2
 rw [show (a * 256 + b) / 256 = a by omega,show (a * 256 + b) % 256 = b by omega];rfl
theorem hdT_size {cr ch ma co fi:Nat} {d:ByteArray} {wd:Nat}:(hdT cr ch ma co fi d wd).size = 10 + d.size:=by
 unfold hdT
 rw [ByteArray.size_append,ByteArray.size_append]
 show 6 + d.size + 4 = _
 omega
theorem encT_size {cr ch ma co fi:Nat} {d:ByteArray} {wd:Nat}:(encT cr ch ma co fi d wd).size = 12 + d.size:=by
 unfold encT
 rw [ByteArray.size_append,hdT_size]
 show 10 + d.size + 2 = _
 omega
theorem tPutT_ok:AllOk Try.prog G0 tPutT:=⟨okVldT,okRVldT,okTwoT,okSum,okRSum,okApp,trivial⟩
/-- What is put together. -/
theorem rows_eq {cr ch ma co fi:Nat} {d:ByteArray} {wd:Nat} (h1:cr * 64 + ch * 8 < 65536) (h2:co < 256) (h3:fi < 65536) (h4:wd < 2 ^ 32) :
 bytesOf (beV (cr * 64 + ch * 8) 2 ++ [.int .u8 ((ma:Nat):Int),.int .u8 ((co:Nat):Int)] ++ beV fi 2 ++ bytesV d ++ beV wd 4) = hdT cr ch ma co fi d wd:=by
 rw [bytesOf_app,bytesOf_app,bytesOf_app,bytesOf_app,be2 h1,two_by h2,be2 h3,be4 h4,bytesOf_V,mk_app,mk_app,List.append_assoc]
 rfl
theorem pre_all {n:Nat} {l:List Value} (h:l.length = n):preV n l = l:=by unfold preV;rw [← h,List.take_length]
theorem take_all {n:Nat} {l:List Value} (h:l.length = n):List.take n (List.drop 0 l) = l:=by rw [List.drop_zero,← h,List.take_length]
theorem app_eq (a b:List Value):List.append a b = a ++ b:=rfl
theorem pre0 (l:List Value):preV 0 l = []:=rfl
set_option maxHeartbeats 1600000 in
theorem okPutT:SpecOk Try.prog G0 44 sPutT :=
 spec2 mixed tPutT_ok Try.func44 (by kernel_rfl:Try.f44.body = some (codeOf Try.f44)) cPutT rfl rfl rfl (by kernel_rfl) (ids:=[]) (by kernel_rfl) trivial (by
  intro args h K hk
  unfold sPutT at hk
  split at hk
  · rename_i cr ch ma co fi d wd
    obtain ⟨hd,w0,w1,hk⟩:=hk
    show bPutT cr ch ma co fi d wd K
    rw [bPutT_eq]
    refine ⟨hd,?_⟩
    unfold putT putTE at hk
    cases hv:vldT cr ch ma co fi d.size with
    | false=>rw [if_neg (by rw [hv];simp),if_neg (by rw [hv];simp)] at hk;exact hk
    | true =>
     rw [if_pos hv,if_pos hv] at hk
     obtain ⟨⟨cr0,cr1⟩,⟨ma0,ma1⟩,⟨co0,co1⟩,⟨ch0,ch1⟩,⟨n0,n1⟩,hfi⟩:=vldT_iff.1 hv
     clear hv
     have fi0:0 ≤ fi:=by omega
     have fi1:fi < 65536:=by omega
     clear hfi
     obtain ⟨cr,rfl⟩:=nat_of cr0
     obtain ⟨ma,rfl⟩:=nat_of ma0
     obtain ⟨co,rfl⟩:=nat_of co0
     obtain ⟨ch,rfl⟩:=nat_of ch0
     obtain ⟨fi,rfl⟩:=nat_of fi0
     obtain ⟨wd,rfl⟩:=nat_of w0
     simp only [Int.toNat_natCast] at hk
     obtain ⟨n,hn⟩:∃ n,d.size = n:=⟨_,rfl⟩
     have hV:(bytesV d).length = n:=by rw [bytesV_length,hn]
     rw [hn] at n0 n1 hd ⊢
     rw [Bool.not_true,cond_false]
     intro x1 h1 x2 h2
     rw [iAdd_i64 (by omega) (by omega)] at h2
     obtain rfl:x2 = ((n + 12:Nat):Int):=by omega
     rw [decide_eq_true (show (0:Int) ≤ ((n + 12:Nat):Int) by omega),decide_eq_true (show ((n + 12:Nat):Int) ≤ 9223372036854775807 by omega),decide_eq_true (show 1 * ((n + 12:Nat):Int) ≤ 281474976710656 by omega)]
     simp only [Bool.and_self,cond_true]
     intro x3 h3 x4 h4 x5 h5 x6 h6
     rw [show (64:Int) = ((64:Nat):Int) from rfl,iMul_cast .i64 (by rw [cap64];omega)] at h3
     rw [show (8:Int) = ((8:Nat):Int) from rfl,iMul_cast .i64 (by rw [cap64];omega)] at h4
     have e5:cr * 64 ||| ch * 8 = cr * 64 + ch * 8:=Pkt.or_add (k:=6) (by omega)
     rw [h3,h4,iOr_cast .i64 (by rw [cap64];omega) (by rw [cap64];omega),e5] at h5
     rw [h5,wrap_u64 (by omega) (by omega)] at h6
     subst h6
     clear h3 h4 h5 h1 h2
     refine ⟨by omega,by omega,by omega,by omega,by omega,by omega,?_⟩
     rw [Int.toNat_natCast,Int.toNat_natCast]
     intro x7 h7 x8 h8
     rw [wrap_u8 (by omega) (by omega)] at h7 h8
     subst h7 h8
     have hrow:=rows_eq (cr:=cr) (ch:=ch) (ma:=ma) (co:=co) (fi:=fi) (d:=d) (wd:=wd) (by omega) (by omega) (by omega) (by omega)
     obtain ⟨B1,hB1⟩:∃ B,beV (cr * 64 + ch * 8) 2 = B:=⟨_,rfl⟩
     have l1:B1.length = 2:=by rw [← hB1,beV_len]
     have a1:AllB B1:=by rw [← hB1];exact allB_be _ _
     simp only [app_eq,pre0,List.nil_append]
     rw [hB1] at hrow ⊢
     simp only [take_all l1]
     obtain ⟨B2,hB2⟩:∃ B,B1 ++ [Value.int .u8 ((ma:Nat):Int),Value.int .u8 ((co:Nat):Int)] = B:=⟨_,rfl⟩
     have l2:B2.length = 4:=by rw [← hB2,List.length_append,l1];rfl
     have a2:AllB B2:=by rw [← hB2];exact a1.app (allB_2 _ _)
     rw [hB2] at hrow
     simp only [hB2,pre_all l2,l1,l2]
     rw [decide_eq_true (show 2 ≤ 2 by omega),Bool.and_self,cond_true]
     intro x9 h9
     rw [wrap_u64 (by omega) (by omega)] at h9
     subst h9
     refine ⟨by omega,by omega,by omega,by omega,by omega,by omega,?_⟩
     rw [Int.toNat_natCast]
     obtain ⟨B3,hB3⟩:∃ B,B2 ++ beV fi 2 = B:=⟨_,rfl⟩
     have l3:B3.length = 6:=by rw [← hB3,List.length_append,l2,beV_len]
     have a3:AllB B3:=by rw [← hB3];exact a2.app (allB_be _ _)
     rw [hB3] at hrow
     simp only [hB3,take_all l3,l3]
     obtain ⟨B4,hB4⟩:∃ B,B3 ++ bytesV d = B:=⟨_,rfl⟩
     have l4:B4.length = 6 + n:=by rw [← hB4,List.length_append,l3,hV]
     have a4:AllB B4:=by rw [← hB4];exact a3.app (allB_V _)
     rw [hB4] at hrow
     simp only [hB4,pre_all l4,l4]
     rw [dT2 (by omega) (by omega)]
     intro x10 h10
     rw [wrap_u64 (by omega) (by omega)] at h10
     subst h10
     refine ⟨by omega,by omega,by omega,by omega,by omega,by omega,?_⟩
     rw [Int.toNat_natCast]
     obtain ⟨B5,hB5⟩:∃ B,B4 ++ beV wd 4 = B:=⟨_,rfl⟩
     have l5:B5.length = 6 + n + 4:=by rw [← hB5,List.length_append,l4,beV_len]
     have a5:AllB B5:=by rw [← hB5];exact a4.app (allB_be _ _)
     rw [hB5] at hrow
     simp only [hB5,Nat.mul_one,take_all l5,pre_all l5,l5]
     rw [dT (by omega)]
     unfold AllB at a5
     rw [a5,cond_true]
     intro x11 h11
     rw [hrow] at h11
     subst h11
     have hsz:=hdT_size (cr:=cr) (ch:=ch) (ma:=ma) (co:=co) (fi:=fi) (d:=d) (wd:=wd)
     refine ⟨by omega,?_⟩
     intro x12 h12 x13 h13
     have hc:=crc_lt (hdT cr ch ma co fi d wd)
     rw [h12,wrap_u64 (by omega) (by omega)] at h13
     subst h13
     refine ⟨by omega,by omega,by omega,by omega,by omega,by omega,?_⟩
     rw [Int.toNat_natCast]
     obtain ⟨B6,hB6⟩:∃ B,B5 ++ beV (crc (hdT cr ch ma co fi d wd)) 2 = B:=⟨_,rfl⟩
     have l6:B6.length = 6 + n + 4 + 2:=by rw [← hB6,List.length_append,l5,beV_len]
     have a6:List.all B6 (isInt .u8) = true:=by rw [← hB6];exact AllB.app a5 (allB_be _ _)
     simp only [hB6,take_all l6,l6]
     rw [dT (by omega),a6,cond_true]
     intro x14 h14
     have he:x14 = encT cr ch ma co fi d wd:=by
      rw [h14,← hB6,bytesOf_app,hrow,be2 hc];rfl
     rw [he]
     exact hk
  · exact hk.elim)
theorem sizeA (a b:ByteArray):(ByteArray.append a b).size = a.size + b.size:=ByteArray.size_append
set_option maxHeartbeats 1600000 in
theorem okRPutT:SpecOk Try.prog G0 51 sPutT :=
 spec2 mixed tPutT_ok Try.func51 (by kernel_rfl:Try.f51.body = some (codeOf Try.f51)) cRPutT rfl rfl rfl (by kernel_rfl) (ids:=[]) (by kernel_rfl) trivial (by
  intro args h K hk
  unfold sPutT at hk
  split at hk
  · rename_i cr ch ma co fi d wd
    obtain ⟨hd,w0,w1,hk⟩:=hk
    show bRPutT cr ch ma co fi d wd K
    rw [bRPutT_eq]
    refine ⟨hd,?_⟩
    unfold putT putTE at hk
    cases hv:vldT cr ch ma co fi d.size with
    | false=>rw [if_neg (by rw [hv];simp),if_neg (by rw [hv];simp)] at hk;exact hk
    | true =>
     rw [if_pos hv,if_pos hv] at hk
     obtain ⟨⟨cr0,cr1⟩,⟨ma0,ma1⟩,⟨co0,co1⟩,⟨ch0,ch1⟩,⟨n0,n1⟩,hfi⟩:=vldT_iff.1 hv
     clear hv
     have fi0:0 ≤ fi:=by omega
     have fi1:fi < 65536:=by omega
     clear hfi
     obtain ⟨cr,rfl⟩:=nat_of cr0
     obtain ⟨ma,rfl⟩:=nat_of ma0
     obtain ⟨co,rfl⟩:=nat_of co0
     obtain ⟨ch,rfl⟩:=nat_of ch0
     obtain ⟨fi,rfl⟩:=nat_of fi0
     obtain ⟨wd,rfl⟩:=nat_of w0
     simp only [Int.toNat_natCast] at hk
     rw [Bool.not_true,cond_false]
     intro x1 h1 x2 h2 x3 h3 x4 h4 x5 h5
     rw [iMul_i64 (by omega) (by omega)] at h1 h2 h4
     rw [iAdd_i64 (by omega) (by omega)] at h3 h5
     obtain rfl:x3 = ((cr * 64 + ch * 8:Nat):Int):=by omega
     obtain rfl:x5 = ((ma * 256 + co:Nat):Int):=by omega
     clear h1 h2 h3 h4 h5
     refine ⟨by omega,by omega,?_⟩
     rw [Int.toNat_natCast]
     intro x6 h6
     refine ⟨by omega,by omega,?_⟩
     rw [Int.toNat_natCast]
     intro x7 h7
     have s6:x6.size = 2:=by rw [h6];rfl
     have s7:x7.size = 2:=by rw [h7];rfl
     rw [dT (by omega)]
     intro x8 h8
     have s8:x8.size = 4:=by rw [h8,sizeA];omega
     refine ⟨by omega,by omega,?_⟩
     rw [Int.toNat_natCast]
     intro x9 h9
     have s9:x9.size = 2:=by rw [h9];rfl
     rw [dT (by omega)]
     intro x10 h10
     have s10:x10.size = 6:=by rw [h10,sizeA];omega
     rw [dT (by omega)]
     intro x11 h11
     have s11:x11.size = 6 + d.size:=by rw [h11,sizeA];omega
     intro x12 h12 x13 h13 x14 h14 x15 h15
     rw [show (65536:Int) = ((65536:Nat):Int) from rfl,tdiv_cast,wrap_u32 (by omega) (by omega)] at h12
     rw [h12,w64 (by omega)] at h13
     rw [show (65536:Int) = ((65536:Nat):Int) from rfl,tmod_cast] at h14
     rw [h14,w64 (by omega)] at h15
     subst h13 h15
     clear h12 h14
     refine ⟨by omega,by omega,?_⟩
     rw [Int.toNat_natCast]
     intro x16 h16
     have s16:x16.size = 2:=by rw [h16];rfl
     rw [dT (by omega)]
     intro x17 h17
     have s17:x17.size = 8 + d.size:=by rw [h17,sizeA];omega
     refine ⟨by omega,by omega,?_⟩
     rw [Int.toNat_natCast]
     intro x18 h18
     have s18:x18.size = 2:=by rw [h18];rfl
     rw [dT (by omega)]
     intro x19 h19
     have s19:x19.size = 10 + d.size:=by rw [h19,sizeA];omega
     refine ⟨by omega,?_⟩
     have e19:x19 = hdT cr ch ma co fi d wd:=by
      rw [h19,h17,h11,h10,h8,h6,h7,h9,h16,h18]
      show (((⟨⟨_⟩⟩:ByteArray) ++ ⟨⟨_⟩⟩ ++ ⟨⟨_⟩⟩ ++ d) ++ ⟨⟨_⟩⟩) ++ ⟨⟨_⟩⟩ = _
      rw [mk_app,mk_app,ByteArray.append_assoc,mk_app,List.append_assoc]
      rfl
     intro x20 h20 x21 h21
     have hc:=crc_lt x19
     rw [h20,w64 (by omega)] at h21
     subst h21
     refine ⟨by omega,by omega,?_⟩
     rw [Int.toNat_natCast]
     intro x22 h22
     have s22:x22.size = 2:=by rw [h22];rfl
     rw [dT (by omega)]
     intro x23 h23
     have he:x23 = encT cr ch ma co fi d wd:=by
      rw [h23,h22,e19];rfl
     rw [he]
     exact hk
  · exact hk.elim)
end Go.Am.Tmf

namespace Go.Am.Tmf
open Go Go.Am Go.Am.Lib Go.Proofs
open Go.Am.Pkt (G0 codeOf mixed none_ok by2)
set_option maxRecDepth 100000

def by2N (s:ByteArray) (i:Nat):Nat:=byteAt s i * 256 + byteAt s (i + 1)
def datT (s:ByteArray):ByteArray:=s.extract 6 (s.size - 6)
def vldS (s:ByteArray):Bool:=decide (by2N s 0 % 8 = 0) && vldT ((by2N s 0 / 64:Nat):Int) ((by2N s 0 / 8 % 8:Nat):Int) ((byteAt s 2:Nat):Int) ((byteAt s 3:Nat):Int) ((by2N s 4:Nat):Int) (datT s).size
def getTE (s:ByteArray):Int:=if s.size < 44 ∨ 212 < s.size then 6 else if by2N s (s.size - 2) ≠ crc (s.extract 0 (s.size - 2)) then 100 else if vldS s = false then 6 else 0
def okG (s:ByteArray) (n:Nat):Int:=if getTE s = 0 then ((n:Nat):Int) else 0
def gDa (s:ByteArray):ByteArray:=if getTE s = 0 then datT s else ⟨⟨[]⟩⟩
def gWd (s:ByteArray):Nat:=by2N s (s.size - 6) * 65536 + by2N s (s.size - 4)
def gFr (s:ByteArray):Value:=.agg ⟨[.int .i64 (okG s (by2N s 0 / 64)),.int .i64 (okG s (by2N s 0 / 8 % 8)),.int .i64 (okG s (byteAt s 2)),.int .i64 (okG s (byteAt s 3)),.int .i64 (okG s (by2N s 4)),.string (gDa s),.int .u32 (okG s (gWd s))]⟩
def sGetT:Spec:=fun args h K=>match args,h with
 | [.string s],[]=>s.size < 2 ^ 62 ∧ K (.tuple ⟨[gFr s,.int .i64 (getTE s)]⟩) []
 | _,_=>False
def tGetT:List (Nat × Spec):=[(53,sNum),(54,sSum),(31,Pkt.sClone),(55,sVldT),(61,sRNum),(62,sSum),(51,sPutT)]
noncomputable def cGetT:FCfg:={ mkG Try.prog G0 tGetT 75 [(0,[0,2]),(1,[0,2,4]),(2,[0,2,4,16]),(3,[2,3]),(4,[0,2,4,5]),(5,[0,2,4,5,30]),(6,[2,3]),(7,[0,2,4,5,6]),(8,[2,6,7]),(9,[2,7,72]),(10,[2,3]),(11,[2,3])] [] [] [] [] [] 40 0 with hold:=lookL [(5,[0]),(8,[0])],more:=true }
noncomputable def bGetT (s:ByteArray) (K:Value → AHeap → Prop):Prop:=bodyK cGetT (codeOf Try.f29) Try.f29.results.toList [.string s] [] K
theorem bGetT_eq (s:ByteArray) (K:Value → AHeap → Prop):bGetT s K = (∀ x1:Int,((x1 = (((ByteArray.size s):Nat):Int)) → (∀ x2:Int,((x2 = (iSub IntKind.i64 x1 (12:Int))) → (cond (decide ((x2 < (32:Int)))) (K (Value.tuple (Array.mk [(Value.agg (Array.mk [(Value.int IntKind.i64 (0:Int)),(Value.int IntKind.i64 (0:Int)),(Value.int IntKind.i64 (0:Int)),(Value.int IntKind.i64 (0:Int)),(Value.int IntKind.i64 (0:Int)),(Value.string (ByteArray.mk (Array.mk []))),(Value.int IntKind.u32 (0:Int))])),(Value.int IntKind.i64 (6:Int))])) []) (cond (decide ((x2 > (200:Int)))) (K (Value.tuple (Array.mk [(Value.agg (Array.mk [(Value.int IntKind.i64 (0:Int)),(Value.int IntKind.i64 (0:Int)),(Value.int IntKind.i64 (0:Int)),(Value.int IntKind.i64 (0:Int)),(Value.int IntKind.i64 (0:Int)),(Value.string (ByteArray.mk (Array.mk []))),(Value.int IntKind.u32 (0:Int))])),(Value.int IntKind.i64 (6:Int))])) []) (∀ x3:Int,((x3 = (((ByteArray.size s):Nat):Int)) → (∀ x4:Int,((x4 = (iSub IntKind.i64 x3 (2:Int))) → (cond ((decide (((0:Int) ≤ x4))) && (decide ((x4 ≤ (((ByteArray.size s):Nat):Int))))) (∀ x5:ByteArray,((x5 = (ByteArray.extract s (Int.toNat x4) (ByteArray.size s))) → (cond ((decide (((0:Int) ≤ x4))) && (decide ((x4 ≤ (((ByteArray.size s):Nat):Int))))) (∀ x6:ByteArray,((x6 = (ByteArray.extract s 0 (Int.toNat x4))) → (((ByteArray.size x5) ≤ (7:Nat)) ∧ (∀ x7:Int,((x7 = (((numN x5):Nat):Int)) → (((ByteArray.size x6) < (4611686018427387904:Nat)) ∧ (∀ x8:Int,((x8 = (((crc x6):Nat):Int)) → (∀ x9:Int,((x9 = (IntKind.wrap IntKind.u64 x8)) → (cond (!(decide ((x7 = x9)))) (K (Value.tuple (Array.mk [(Value.agg (Array.mk [(Value.int IntKind.i64 (0:Int)),(Value.int IntKind.i64 (0:Int)),(Value.int IntKind.i64 (0:Int)),(Value.int IntKind.i64 (0:Int)),(Value.int IntKind.i64 (0:Int)),(Value.string (ByteArray.mk (Array.mk []))),(Value.int IntKind.u32 (0:Int))])),(Value.int IntKind.i64 (100:Int))])) []) (cond (decide (((2:Int) ≤ (((ByteArray.size s):Nat):Int)))) (∀ x10:ByteArray,((x10 = (ByteArray.extract s 0 (2:Nat))) → (((ByteArray.size x10) ≤ (7:Nat)) ∧ (∀ x11:Int,((x11 = (((numN x10):Nat):Int)) → (∀ x12:Int,((x12 = (Int.fdiv x11 (64:Int))) → (∀ x13:Int,((x13 = (IntKind.wrap IntKind.i64 x12)) → (∀ x14:Int,((x14 = (Int.fdiv x11 (8:Int))) → (∀ x15:Int,((x15 = (iAnd IntKind.u64 x14 (7:Int))) → (∀ x16:Int,((x16 = (IntKind.wrap IntKind.i64 x15)) → (cond (decide (((2:Int) < (((ByteArray.size s):Nat):Int)))) (∀ x17:Int,((x17 = (((BitVec.toNat ((List.getD ((s).data).toList (2:Nat) (UInt8.ofBitVec (BitVec.ofNat (8:Nat) 0)))).toBitVec):Nat):Int)) → (∀ x18:Int,((x18 = (IntKind.wrap IntKind.i64 x17)) → (cond (decide (((3:Int) < (((ByteArray.size s):Nat):Int)))) (∀ x19:Int,((x19 = (((BitVec.toNat ((List.getD ((s).data).toList (3:Nat) (UInt8.ofBitVec (BitVec.ofNat (8:Nat) 0)))).toBitVec):Nat):Int)) → (∀ x20:Int,((x20 = (IntKind.wrap IntKind.i64 x19)) → (cond (decide (((6:Int) ≤ (((ByteArray.size s):Nat):Int)))) (∀ x21:ByteArray,((x21 = (ByteArray.extract s (4:Nat) (6:Nat))) → (∀ x22:Int,((x22 = (iAdd IntKind.i64 (6:Int) x2)) → (cond ((decide (((6:Int) ≤ x22))) && (decide ((x22 ≤ (((ByteArray.size s):Nat):Int))))) (∀ x23:ByteArray,((x23 = (ByteArray.extract s (6:Nat) (Int.toNat x22))) → (∀ x24:Int,((x24 = (iAdd IntKind.i64 (6:Int) x2)) → (cond (((decide (((0:Int) ≤ x24))) && (decide ((x24 ≤ x4)))) && (decide ((x4 ≤ (((ByteArray.size s):Nat):Int))))) (∀ x25:ByteArray,((x25 = (ByteArray.extract s (Int.toNat x24) (Int.toNat x4))) → ((((ByteArray.size x21) ≤ (7:Nat)) ∧ (∀ x26:Int,((x26 = (((numN x21):Nat):Int)) → (∀ x27:Int,((x27 = (IntKind.wrap IntKind.i64 x26)) → ((((ByteArray.size x23) ≤ (140737488355328:Nat)) ∧ (∀ x28:ByteArray,((x28 = x23) → ((((ByteArray.size x25) ≤ (7:Nat)) ∧ (∀ x29:Int,((x29 = (((numN x25):Nat):Int)) → (∀ x30:Int,((x30 = (IntKind.wrap IntKind.u32 x29)) → ((∀ x31:Int,((x31 = (iAnd IntKind.u64 x11 (7:Int))) → (cond (!(decide ((x31 = (0:Int))))) (K (Value.tuple (Array.mk [(Value.agg (Array.mk [(Value.int IntKind.i64 (0:Int)),(Value.int IntKind.i64 (0:Int)),(Value.int IntKind.i64 (0:Int)),(Value.int IntKind.i64 (0:Int)),(Value.int IntKind.i64 (0:Int)),(Value.string (ByteArray.mk (Array.mk []))),(Value.int IntKind.u32 (0:Int))])),(Value.int IntKind.i64 (6:Int))])) []) (((ByteArray.size x28) < (4611686018427387904:Nat)) ∧ (cond (!(vldT x13 x16 x18 x20 x27 (ByteArray.size x28))) (K (Value.tuple (Array.mk [(Value.agg (Array.mk [(Value.int IntKind.i64 (0:Int)),(Value.int IntKind.i64 (0:Int)),(Value.int IntKind.i64 (0:Int)),(Value.int IntKind.i64 (0:Int)),(Value.int IntKind.i64 (0:Int)),(Value.string (ByteArray.mk (Array.mk []))),(Value.int IntKind.u32 (0:Int))])),(Value.int IntKind.i64 (6:Int))])) []) (K (Value.tuple (Array.mk [(Value.agg (Array.mk [(Value.int IntKind.i64 x13),(Value.int IntKind.i64 x16),(Value.int IntKind.i64 x18),(Value.int IntKind.i64 x20),(Value.int IntKind.i64 x27),(Value.string x28),(Value.int IntKind.u32 x30)])),(Value.int IntKind.i64 (0:Int))])) [])))))) ∧ (∀ x32:Int,((x32 = (iAnd IntKind.u64 x11 (7:Int))) → (cond (!(decide ((x32 = (0:Int))))) (K (Value.tuple (Array.mk [(Value.agg (Array.mk [(Value.int IntKind.i64 (0:Int)),(Value.int IntKind.i64 (0:Int)),(Value.int IntKind.i64 (0:Int)),(Value.int IntKind.i64 (0:Int)),(Value.int IntKind.i64 (0:Int)),(Value.string (ByteArray.mk (Array.mk []))),(Value.int IntKind.u32 (0:Int))])),(Value.int IntKind.i64 (6:Int))])) []) (((ByteArray.size x28) < (4611686018427387904:Nat)) ∧ (cond (!(vldT x13 x16 x18 x20 x27 (ByteArray.size x28))) (K (Value.tuple (Array.mk [(Value.agg (Array.mk [(Value.int IntKind.i64 (0:Int)),(Value.int IntKind.i64 (0:Int)),(Value.int IntKind.i64 (0:Int)),(Value.int IntKind.i64 (0:Int)),(Value.int IntKind.i64 (0:Int)),(Value.string (ByteArray.mk (Array.mk []))),(Value.int IntKind.u32 (0:Int))])),(Value.int IntKind.i64 (6:Int))])) []) (K (Value.tuple (Array.mk [(Value.agg (Array.mk [(Value.int IntKind.i64 x13),(Value.int IntKind.i64 x16),(Value.int IntKind.i64 x18),(Value.int IntKind.i64 x20),(Value.int IntKind.i64 x27),(Value.string x28),(Value.int IntKind.u32 x30)])),(Value.int IntKind.i64 (0:Int))])) [])))))))))))) ∧ (((ByteArray.size x25) ≤ (7:Nat)) ∧ (∀ x33:Int,((x33 = (((numN x25):Nat):Int)) → (∀ x34:Int,((x34 = (IntKind.wrap IntKind.u32 x33)) → (∀ x35:Int,((x35 = (iAnd IntKind.u64 x11 (7:Int))) → (cond (!(decide ((x35 = (0:Int))))) (K (Value.tuple (Array.mk [(Value.agg (Array.mk [(Value.int IntKind.i64 (0:Int)),(Value.int IntKind.i64 (0:Int)),(Value.int IntKind.i64 (0:Int)),(Value.int IntKind.i64 (0:Int)),(Value.int IntKind.i64 (0:Int)),(Value.string (ByteArray.mk (Array.mk []))),(Value.int IntKind.u32 (0:Int))])),(Value.int IntKind.i64 (6:Int))])) []) (((ByteArray.size x28) < (4611686018427387904:Nat)) ∧ (cond (!(vldT x13 x16 x18 x20 x27 (ByteArray.size x28))) (K (Value.tuple (Array.mk [(Value.agg (Array.mk [(Value.int IntKind.i64 (0:Int)),(Value.int IntKind.i64 (0:Int)),(Value.int IntKind.i64 (0:Int)),(Value.int IntKind.i64 (0:Int)),(Value.int IntKind.i64 (0:Int)),(Value.string (ByteArray.mk (Array.mk []))),(Value.int IntKind.u32 (0:Int))])),(Value.int IntKind.i64 (6:Int))])) []) (K (Value.tuple (Array.mk [(Value.agg (Array.mk [(Value.int IntKind.i64 x13),(Value.int IntKind.i64 x16),(Value.int IntKind.i64 x18),(Value.int IntKind.i64 x20),(Value.int IntKind.i64 x27),(Value.string x28),(Value.int IntKind.u32 x34)])),(Value.int IntKind.i64 (0:Int))])) []))))))))))))))) ∧ (((ByteArray.size x23) ≤ (140737488355328:Nat)) ∧ (∀ x36:ByteArray,((x36 = x23) → (((ByteArray.size x25) ≤ (7:Nat)) ∧ (∀ x37:Int,((x37 = (((numN x25):Nat):Int)) → (∀ x38:Int,((x38 = (IntKind.wrap IntKind.u32 x37)) → (∀ x39:Int,((x39 = (iAnd IntKind.u64 x11 (7:Int))) → (cond (!(decide ((x39 = (0:Int))))) (K (Value.tuple (Array.mk [(Value.agg (Array.mk [(Value.int IntKind.i64 (0:Int)),(Value.int IntKind.i64 (0:Int)),(Value.int IntKind.i64 (0:Int)),(Value.int IntKind.i64 (0:Int)),(Value.int IntKind.i64 (0:Int)),(Value.string (ByteArray.mk (Array.mk []))),(Value.int IntKind.u32 (0:Int))])),(Value.int IntKind.i64 (6:Int))])) []) (((ByteArray.size x36) < (4611686018427387904:Nat)) ∧ (cond (!(vldT x13 x16 x18 x20 x27 (ByteArray.size x36))) (K (Value.tuple (Array.mk [(Value.agg (Array.mk [(Value.int IntKind.i64 (0:Int)),(Value.int IntKind.i64 (0:Int)),(Value.int IntKind.i64 (0:Int)),(Value.int IntKind.i64 (0:Int)),(Value.int IntKind.i64 (0:Int)),(Value.string (ByteArray.mk (Array.mk []))),(Value.int IntKind.u32 (0:Int))])),(Value.int IntKind.i64 (6:Int))])) []) (K (Value.tuple (Array.mk [(Value.agg (Array.mk [(Value.int IntKind.i64 x13),(Value.int IntKind.i64 x16),(Value.int IntKind.i64 x18),(Value.int IntKind.i64 x20),(Value.int IntKind.i64 x27),(Value.string x36),(Value.int IntKind.u32 x38)])),(Value.int IntKind.i64 (0:Int))])) [])))))))))))))))))))) ∧ (((ByteArray.size x21) ≤ (7:Nat)) ∧ (∀ x40:Int,((x40 = (((numN x21):Nat):Int)) → (∀ x41:Int,((x41 = (IntKind.wrap IntKind.i64 x40)) → (((ByteArray.size x23) ≤ (140737488355328:Nat)) ∧ (∀ x42:ByteArray,((x42 = x23) → (((ByteArray.size x25) ≤ (7:Nat)) ∧ (∀ x43:Int,((x43 = (((numN x25):Nat):Int)) → (∀ x44:Int,((x44 = (IntKind.wrap IntKind.u32 x43)) → (∀ x45:Int,((x45 = (iAnd IntKind.u64 x11 (7:Int))) → (cond (!(decide ((x45 = (0:Int))))) (K (Value.tuple (Array.mk [(Value.agg (Array.mk [(Value.int IntKind.i64 (0:Int)),(Value.int IntKind.i64 (0:Int)),(Value.int IntKind.i64 (0:Int)),(Value.int IntKind.i64 (0:Int)),(Value.int IntKind.i64 (0:Int)),(Value.string (ByteArray.mk (Array.mk []))),(Value.int IntKind.u32 (0:Int))])),(Value.int IntKind.i64 (6:Int))])) []) (((ByteArray.size x42) < (4611686018427387904:Nat)) ∧ (cond (!(vldT x13 x16 x18 x20 x41 (ByteArray.size x42))) (K (Value.tuple (Array.mk [(Value.agg (Array.mk [(Value.int IntKind.i64 (0:Int)),(Value.int IntKind.i64 (0:Int)),(Value.int IntKind.i64 (0:Int)),(Value.int IntKind.i64 (0:Int)),(Value.int IntKind.i64 (0:Int)),(Value.string (ByteArray.mk (Array.mk []))),(Value.int IntKind.u32 (0:Int))])),(Value.int IntKind.i64 (6:Int))])) []) (K (Value.tuple (Array.mk [(Value.agg (Array.mk [(Value.int IntKind.i64 x13),(Value.int IntKind.i64 x16),(Value.int IntKind.i64 x18),(Value.int IntKind.i64 x20),(Value.int IntKind.i64 x41),(Value.string x42),(Value.int IntKind.u32 x44)])),(Value.int IntKind.i64 (0:Int))])) [])))))))))))))))))))))) False))))) False))))) False))))) False))))) False)))))))))))))))) False)))))))))))) False))) False))))))))))):=by
 kernel_rfl
end Go.Am.Tmf

namespace Go.Am.Tmf
open Go Go.Am Go.Am.Lib Go.Proofs
open Go.Am.Pkt (G0 codeOf mixed none_ok by2)
set_option maxRecDepth 100000

/-! ### there and back -/
theorem two_at0 {x:Nat} (h:x < 65536) (r:List UInt8):byteAt ⟨⟨by2 x ++ r⟩⟩ 0 = x / 256:=by
 show (UInt8.ofNat (x / 256)).toNat = _
 rw [UInt8.toNat_ofNat'];omega
theorem two_at1 (x:Nat) (r:List UInt8):byteAt ⟨⟨by2 x ++ r⟩⟩ 1 = x % 256:=by
 show (UInt8.ofNat (x % 256)).toNat = _
 rw [UInt8.toNat_ofNat'];omega
theorem two_off (x:Nat) (r:List UInt8) (j:Nat):byteAt ⟨⟨by2 x ++ r⟩⟩ (j + 2) = byteAt ⟨⟨r⟩⟩ j:=rfl
theorem by2N_lt (s:ByteArray) (i:Nat):by2N s i < 65536:=by
 have:=byteAt_lt s i
 have:=byteAt_lt s (i + 1)
 unfold by2N;omega
theorem two_nil (x:Nat):by2 x = by2 x ++ []:=(List.append_nil _).symm
theorem datT_size {s:ByteArray} (h:44 ≤ s.size):(datT s).size = s.size - 12:=by
 unfold datT;rw [ByteArray.size_extract];omega
theorem size6 (a b c:Nat):(ByteArray.mk ⟨by2 a ++ (by2 b ++ by2 c)⟩).size = 6:=rfl
theorem encT_at {cr ch ma co fi:Nat} {d:ByteArray} {wd j:Nat} (hj:j < 6):byteAt (encT cr ch ma co fi d wd) j = byteAt ⟨⟨by2 (cr * 64 + ch * 8) ++ (by2 (ma * 256 + co) ++ by2 fi)⟩⟩ j:=by
 unfold encT hdT
 rw [byteAt_append,byteAt_append,byteAt_append,ByteArray.size_append,ByteArray.size_append,size6,if_pos (by omega),if_pos (by omega),if_pos hj]

/-! ### numbers out of strings -/
theorem numN2 {s:ByteArray} (h:s.size = 2):numN s = by2N s 0:=by
 unfold numN
 rw [h]
 show (0 * 256 + byteAt s 0) * 256 + byteAt s 1 = byteAt s 0 * 256 + byteAt s 1
 omega
theorem numN4 {s:ByteArray} (h:s.size = 4):numN s = by2N s 0 * 65536 + by2N s 2:=by
 unfold numN
 rw [h]
 show (((0 * 256 + byteAt s 0) * 256 + byteAt s 1) * 256 + byteAt s 2) * 256 + byteAt s 3 = (byteAt s 0 * 256 + byteAt s 1) * 65536 + (byteAt s 2 * 256 + byteAt s 3)
 omega
theorem by2N_cut {s:ByteArray} {a e i:Nat} (h:a + i + 1 < e):by2N (s.extract a e) i = by2N s (a + i):=by
 unfold by2N
 rw [byteAt_cut,byteAt_cut,if_pos (by omega),if_pos (by omega),Nat.add_assoc]
theorem and7 {a:Nat} (h:a < 65536):iAnd .u64 ((a:Nat):Int) 7 = ((a % 8:Nat):Int):=by
 rw [show (7:Int) = ((7:Nat):Int) from rfl,iAnd_cast .u64 (by rw [capu64];omega) (by rw [capu64];omega)]
 congr 1
 exact Nat.and_two_pow_sub_one_eq_mod a 3
def zFr:Value:=.agg ⟨[.int .i64 0,.int .i64 0,.int .i64 0,.int .i64 0,.int .i64 0,.string ⟨⟨[]⟩⟩,.int .u32 0]⟩
theorem gFr_z {s:ByteArray} (h:getTE s ≠ 0):gFr s = zFr:=by
 unfold gFr okG gDa
 simp only [if_neg h];rfl
theorem gFr_o {s:ByteArray} (h:getTE s = 0):gFr s = frV ((by2N s 0 / 64:Nat):Int) ((by2N s 0 / 8 % 8:Nat):Int) ((byteAt s 2:Nat):Int) ((byteAt s 3:Nat):Int) ((by2N s 4:Nat):Int) (datT s) ((gWd s:Nat):Int):=by
 unfold gFr okG gDa
 simp only [if_pos h];rfl
theorem tGetT_ok:AllOk Try.prog G0 tGetT:=⟨okNum,okSum,Pkt.okClone,okVldT,okRNum,okRSum,okRPutT,trivial⟩
set_option maxHeartbeats 1600000 in
theorem okGetT:SpecOk Try.prog G0 29 sGetT :=
 spec2 mixed tGetT_ok Try.func29 (by kernel_rfl:Try.f29.body = some (codeOf Try.f29)) cGetT rfl rfl rfl (by kernel_rfl) (ids:=[]) (by kernel_rfl) trivial (by
  intro args h K hk
  unfold sGetT at hk
  split at hk
  · rename_i s
    obtain ⟨hs,hk⟩:=hk
    show bGetT s K
    rw [bGetT_eq]
    have no:∀ n:Int,getTE s = n → n ≠ 0 → K (.tuple ⟨[zFr,.int .i64 n]⟩) []:=fun n e hn=>by
     rw [e,gFr_z (by rw [e];exact hn)] at hk;exact hk
    intro x1 h1 x2 h2
    rw [iSub_i64 (by omega) (by omega)] at h2
    by_cases c1:x2 < 32
    · rw [dT c1];exact no 6 (by unfold getTE;rw [if_pos (by omega)]) (by decide)
    rw [dF c1]
    by_cases c2:x2 > 200
    · rw [dT c2];exact no 6 (by unfold getTE;rw [if_pos (by omega)]) (by decide)
    rw [dF c2]
    intro x3 h3 x4 h4
    rw [iSub_i64 (by omega) (by omega)] at h4
    obtain ⟨n,hn⟩:∃ n,n = s.size - 2:=⟨_,rfl⟩
    have hn2:s.size = n + 2:=by omega
    obtain rfl:x4 = ((n:Nat):Int):=by omega
    obtain rfl:x2 = ((n - 10:Nat):Int):=by omega
    clear h1 h3 h2 h4
    rw [dT2 (by omega) (by omega),Int.toNat_natCast]
    intro x5 h5
    rw [dT2 (by omega) (by omega)]
    intro x6 h6
    have z5:x5.size = 2:=by rw [h5,ByteArray.size_extract];omega
    have z6:x6.size ≤ s.size:=by rw [h6,ByteArray.size_extract];omega
    refine ⟨by omega,?_⟩
    intro x7 h7
    refine ⟨by omega,?_⟩
    intro x8 h8 x9 h9
    have hc:=crc_lt x6
    rw [h8,wrap_u64 (by omega) (by omega)] at h9
    rw [numN2 z5,h5,by2N_cut (by omega),Nat.add_zero] at h7
    have n1:¬ (s.size < 44 ∨ 212 < s.size):=by omega
    by_cases c3:x7 = x9
    rotate_left
    · rw [dnF c3]
      refine no 100 ?_ (by decide)
      unfold getTE
      rw [if_neg n1,← hn,← h6,if_pos (by omega)]
    rw [dnT c3,dT (by omega)]
    have hcrc:by2N s n = crc x6:=by omega
    have hE:getTE s = if vldS s = false then 6 else 0:=by
     unfold getTE
     rw [if_neg n1,← hn,← h6,if_neg (by omega)]
    clear c3 h7 h8 h9 hcrc hc
    intro x10 h10
    have z10:x10.size = 2:=by rw [h10,ByteArray.size_extract];omega
    refine ⟨by omega,?_⟩
    intro x11 h11
    rw [numN2 z10,h10,by2N_cut (by omega),Nat.add_zero] at h11
    have hl:=by2N_lt s 0
    have hb2:=byteAt_lt s 2
    have hb3:=byteAt_lt s 3
    intro x12 h12 x13 h13 x14 h14 x15 h15 x16 h16
    rw [h11,show (64:Int) = ((64:Nat):Int) from rfl,fdiv_cast] at h12
    rw [h12,w64 (by omega)] at h13
    rw [h11,show (8:Int) = ((8:Nat):Int) from rfl,fdiv_cast] at h14
    rw [h14,and7 (by omega)] at h15
    rw [h15,w64 (by omega)] at h16
    rw [dT (by omega)]
    intro x17 h17 x18 h18
    replace h17:x17 = ((byteAt s 2:Nat):Int):=h17
    rw [h17,w64 (by omega)] at h18
    rw [dT (by omega)]
    intro x19 h19 x20 h20
    replace h19:x19 = ((byteAt s 3:Nat):Int):=h19
    rw [h19,w64 (by omega)] at h20
    rw [dT (by omega)]
    intro x21 h21 x22 h22
    rw [iAdd_i64 (by omega) (by omega)] at h22
    obtain rfl:x22 = ((n - 4:Nat):Int):=by omega
    rw [dT2 (by omega) (by omega),Int.toNat_natCast]
    intro x23 h23 x24 h24
    rw [iAdd_i64 (by omega) (by omega)] at h24
    obtain rfl:x24 = ((n - 4:Nat):Int):=by omega
    rw [dT3 (by omega) (by omega) (by omega),Int.toNat_natCast]
    intro x25 h25
    have z21:x21.size = 2:=by rw [h21,ByteArray.size_extract];omega
    have z25:x25.size = 4:=by rw [h25,ByteArray.size_extract];omega
    have e23:x23 = datT s:=by rw [h23];unfold datT;congr 1;omega
    have z23:=datT_size (s:=s) (by omega)
    have hE':getTE s = if by2N s 0 % 8 = 0 ∧ vldT x13 x16 x18 x20 ((by2N s 4:Nat):Int) (datT s).size = true then 0 else 6:=by
     rw [hE]
     unfold vldS
     rw [h13,h16,h18,h20]
     by_cases q:by2N s 0 % 8 = 0
     · rw [decide_eq_true q,Bool.true_and]
       cases hv:vldT ((by2N s 0 / 64:Nat):Int) ((by2N s 0 / 8 % 8:Nat):Int) ((byteAt s 2:Nat):Int) ((byteAt s 3:Nat):Int) ((by2N s 4:Nat):Int) (datT s).size with
       | true=>rw [if_neg (by simp),if_pos ⟨q,rfl⟩]
       | false=>rw [if_pos rfl,if_neg (by simp)]
     · rw [decide_eq_false q,Bool.false_and,if_pos rfl,if_neg (fun hh=>q hh.1)]
    have tail:∀ (y27:Int) (y28:ByteArray) (y30:Int),y27 = ((by2N s 4:Nat):Int) → y28 = datT s → y30 = ((gWd s:Nat):Int) →
     ∀ y31:Int,y31 = iAnd .u64 x11 7 → cond (!(decide (y31 = 0))) (K (.tuple ⟨[zFr,.int .i64 6]⟩) []) (y28.size < 4611686018427387904 ∧ cond (!(vldT x13 x16 x18 x20 y27 y28.size)) (K (.tuple ⟨[zFr,.int .i64 6]⟩) []) (K (.tuple ⟨[.agg ⟨[.int .i64 x13,.int .i64 x16,.int .i64 x18,.int .i64 x20,.int .i64 y27,.string y28,.int .u32 y30]⟩,.int .i64 0]⟩) [])):=by
     intro y27 y28 y30 g27 g28 g30 y31 g31
     rw [h11,and7 hl] at g31
     by_cases q:by2N s 0 % 8 = 0
     rotate_left
     · rw [dnF (by omega)]
       exact no 6 (by rw [hE',if_neg (fun hh=>q hh.1)]) (by decide)
     rw [dnT (by omega),g28,g27]
     refine ⟨by omega,?_⟩
     cases hv:vldT x13 x16 x18 x20 ((by2N s 4:Nat):Int) (datT s).size with
     | false =>
      rw [Bool.not_false,cond_true]
      exact no 6 (by rw [hE',if_neg (fun hh=>by rw [hv] at hh;cases hh.2)]) (by decide)
     | true =>
      rw [Bool.not_true,cond_false]
      have e0:getTE s = 0:=by rw [hE',if_pos ⟨q,hv⟩]
      rw [gFr_o e0,e0] at hk
      rw [h13,h16,h18,h20,g30]
      exact hk
    have v27:∀ y26 y27:Int,y26 = ((numN x21:Nat):Int) → y27 = IntKind.i64.wrap y26 → y27 = ((by2N s 4:Nat):Int):=fun y26 y27 g1 g2=>by
     rw [numN2 z21,h21,by2N_cut (by omega),Nat.add_zero] at g1
     have:=by2N_lt s 4
     rw [g2,g1,w64 (by omega)]
    have v30:∀ y29 y30:Int,y29 = ((numN x25:Nat):Int) → y30 = IntKind.u32.wrap y29 → y30 = ((gWd s:Nat):Int):=fun y29 y30 g1 g2=>by
     rw [numN4 z25,h25,by2N_cut (by omega),by2N_cut (by omega)] at g1
     have a1:=by2N_lt s (s.size - 6)
     have a2:=by2N_lt s (s.size - 4)
     have e1:n - 4 + 0 = s.size - 6:=by omega
     have e2:n - 4 + 2 = s.size - 4:=by omega
     rw [e1,e2] at g1
     rw [g2,g1]
     unfold gWd
     rw [wrap_u32 (by omega) (by omega)]
    have w21:x21.size ≤ 7:=by omega
    have w23:x23.size ≤ 140737488355328:=by rw [e23];omega
    have w25:x25.size ≤ 7:=by omega
    exact ⟨⟨w21,fun x26 g26 x27 g27=>⟨⟨w23,fun x28 g28=>⟨⟨w25,fun x29 g29 x30 g30=>⟨tail _ _ _ (v27 _ _ g26 g27) (g28.trans e23) (v30 _ _ g29 g30),tail _ _ _ (v27 _ _ g26 g27) (g28.trans e23) (v30 _ _ g29 g30)⟩⟩,
     w25,fun x29 g29 x30 g30=>tail _ _ _ (v27 _ _ g26 g27) (g28.trans e23) (v30 _ _ g29 g30)⟩⟩,w23,fun x28 g28=>⟨w25,fun x29 g29 x30 g30=>tail _ _ _ (v27 _ _ g26 g27) (g28.trans e23) (v30 _ _ g29 g30)⟩⟩⟩,
     w21,fun x26 g26 x27 g27=>⟨w23,fun x28 g28=>⟨w25,fun x29 g29 x30 g30=>tail _ _ _ (v27 _ _ g26 g27) (g28.trans e23) (v30 _ _ g29 g30)⟩⟩⟩
  · exact hk.elim)
end Go.Am.Tmf

namespace Go.Am.Tmf
open Go Go.Am Go.Am.Lib Go.Proofs
open Go.Am.Pkt (G0 codeOf mixed none_ok by2 encS sEnc okEnc okCode validB validB_iff sPut okPut putS putE)
set_option maxRecDepth 100000

def idleS (n:Int):ByteArray:=if n ≤ 6 ∨ n > 1030 then ⟨⟨[]⟩⟩ else encS false 2047 3 0 ⟨⟨List.replicate (n.toNat - 6) 0⟩⟩
def idleE (n:Int):Int:=if n ≤ 6 ∨ n > 1030 then 2 else 0
def sIdle:Spec:=fun args h K=>match args,h with
 | [.int .i64 n],[]=>K (.tuple ⟨[.string (idleS n),.int .i64 (idleE n)]⟩) []
 | _,_=>False
def tIdle:List (Nat × Spec):=[(69,sEnc),(101,sEnc)]
noncomputable def cIdle:FCfg:=mkG Try.prog G0 tIdle 16 [(0,[0]),(1,[0,9]),(2,[2,3]),(3,[2,3])] [] [] [] [] [] 40 0
noncomputable def bIdle (n:Int) (K:Value → AHeap → Prop):Prop:=bodyK cIdle (codeOf Try.f80) Try.f80.results.toList [.int .i64 n] [] K

noncomputable def cPck:FCfg:=mkG Try.prog G0 [] 15 [(0,[0,1]),(1,[1,5]),(2,[1,5,10]),(3,[5]),(4,[4])] [] [] [] [] [] 40 0
noncomputable def bPck (n m:Int) (K:Value → AHeap → Prop):Prop:=bodyK cPck (codeOf Try.f17) Try.f17.results.toList [.int .i64 n,.int .i64 m] [] K
def sPck:Spec:=fun args h K=>match args,h with
 | [.int .i64 n,.int .i64 m],[]=>0 < m ∧ m < 2 ^ 62 ∧ ∀ x,x = n % m → K (.int .i64 x) []
 | _,_=>False
theorem bIdle_eq (n:Int) (K:Value → AHeap → Prop):bIdle n K = (cond (decide ((n ≤ (6:Int)))) (K (Value.tuple (Array.mk [(Value.string (ByteArray.mk (Array.mk []))),(Value.int IntKind.i64 (2:Int))])) []) (cond (decide ((n > (1030:Int)))) (K (Value.tuple (Array.mk [(Value.string (ByteArray.mk (Array.mk []))),(Value.int IntKind.i64 (2:Int))])) []) (∀ x1:Int,((x1 = (iSub IntKind.i64 n (6:Int))) → (cond (((((((decide (((0:Int) ≤ x1))) && (decide ((x1 ≤ x1)))) && (decide ((x1 ≤ (9223372036854775807:Int))))) && (decide ((((1:Int) * x1:Int) ≤ (281474976710656:Int))))) && Bool.true) && Bool.true) && Bool.true) (cond (decide (((0 + ((Int.toNat x1) * (1:Nat):Nat):Nat) ≤ (List.length (List.replicate (Int.toNat x1) (Value.int IntKind.u8 (0:Int))))))) (cond (List.all (List.take ((Int.toNat x1) * (1:Nat):Nat) (List.drop 0 (List.replicate (Int.toNat x1) (Value.int IntKind.u8 (0:Int))))) (isInt IntKind.u8)) (∀ x2:ByteArray,((x2 = (bytesOf (List.take ((Int.toNat x1) * (1:Nat):Nat) (List.drop 0 (List.replicate (Int.toNat x1) (Value.int IntKind.u8 (0:Int))))))) → (((Pkt.validB (2047:Int) (3:Int) (0:Int) x2) = Bool.true) ∧ (∀ x3:ByteArray,((x3 = (Pkt.encS Bool.false (2047:Nat) (3:Nat) 0 x2)) → (K (Value.tuple (Array.mk [(Value.string x3),(Value.int IntKind.i64 (0:Int))])) [])))))) False) False) False))))):=by
 kernel_rfl
theorem bPck_eq (n m:Int) (K:Value → AHeap → Prop):bPck n m K = (cond (!(decide ((m = (0:Int))))) (∀ x1:Int,((x1 = (Int.tmod n m)) → (cond (decide ((x1 < (0:Int)))) (∀ x2:Int,((x2 = (iAdd IntKind.i64 x1 m)) → (K (Value.int IntKind.i64 x2) []))) (K (Value.int IntKind.i64 x1) [])))) False):=by
 kernel_rfl
theorem zeros (k:Nat):bytesOf (List.take (k * 1) (List.drop 0 (List.replicate k (Value.int .u8 0)))) = ⟨⟨List.replicate k 0⟩⟩:=by
 rw [List.drop_zero,List.take_of_length_le (by rw [List.length_replicate];omega)]
 unfold bytesOf
 rw [List.map_replicate]
 rfl
theorem zeros_all (k:Nat):List.all (List.take (k * 1) (List.drop 0 (List.replicate k (Value.int .u8 0)))) (isInt .u8) = true:=by
 rw [List.drop_zero,List.take_of_length_le (by rw [List.length_replicate];omega),List.all_eq_true]
 intro v hv
 rw [List.eq_of_mem_replicate hv]
 rfl
theorem tIdle_ok:AllOk Try.prog G0 tIdle:=⟨okEnc,okCode,trivial⟩
theorem idle_key {n:Int} {K:Value → AHeap → Prop} (h1:¬ n ≤ 6) (h2:¬ n > 1030) (hk:K (.tuple ⟨[.string (idleS n),.int .i64 (idleE n)]⟩) []):(∀ x1:Int,((x1 = (iSub IntKind.i64 n (6:Int))) → (cond (((((((decide (((0:Int) ≤ x1))) && (decide ((x1 ≤ x1)))) && (decide ((x1 ≤ (9223372036854775807:Int))))) && (decide ((((1:Int) * x1:Int) ≤ (281474976710656:Int))))) && Bool.true) && Bool.true) && Bool.true) (cond (decide (((0 + ((Int.toNat x1) * (1:Nat):Nat):Nat) ≤ (List.length (List.replicate (Int.toNat x1) (Value.int IntKind.u8 (0:Int))))))) (cond (List.all (List.take ((Int.toNat x1) * (1:Nat):Nat) (List.drop 0 (List.replicate (Int.toNat x1) (Value.int IntKind.u8 (0:Int))))) (isInt IntKind.u8)) (∀ x2:ByteArray,((x2 = (bytesOf (List.take ((Int.toNat x1) * (1:Nat):Nat) (List.drop 0 (List.replicate (Int.toNat x1) (Value.int IntKind.u8 (0:Int))))))) → (((validB (2047:Int) (3:Int) (0:Int) x2) = Bool.true) ∧ (∀ x3:ByteArray,((x3 = (encS Bool.false (2047:Nat) (3:Nat) 0 x2)) → (K (Value.tuple (Array.mk [(Value.string x3),(Value.int IntKind.i64 (0:Int))])) [])))))) False) False) False))):=by
 rintro x1 e1
 rw [iSub_i64 (by omega) (by omega)] at e1
 rw [decide_eq_true (show (0:Int) ≤ x1 by omega),decide_eq_true (show x1 ≤ x1 by omega),decide_eq_true (show x1 ≤ 9223372036854775807 by omega),decide_eq_true (show 1 * x1 ≤ 281474976710656 by omega)]
 simp only [Bool.and_self,cond_true]
 rw [List.length_replicate,dT (by omega),zeros_all,cond_true]
 rintro x2 e2
 rw [zeros] at e2
 have hsz:x2.size = x1.toNat:=by rw [e2];show (List.replicate x1.toNat (0:UInt8)).length = _;rw [List.length_replicate]
 refine ⟨validB_iff.2 (by omega),?_⟩
 rintro x3 e3
 unfold idleS idleE at hk
 rw [if_neg (by omega),if_neg (by omega)] at hk
 have:x1.toNat = n.toNat - 6:=by omega
 rw [e3,e2,this]
 exact hk
theorem okIdle:SpecOk Try.prog G0 80 sIdle :=
 spec2 mixed tIdle_ok Try.func80 (by kernel_rfl:Try.f80.body = some (codeOf Try.f80)) cIdle rfl rfl rfl (by kernel_rfl) (ids:=[]) (by kernel_rfl) trivial (by
  intro args h K hk
  unfold sIdle at hk
  split at hk
  · rename_i n
    show bIdle n K
    rw [bIdle_eq]
    by_cases h1:n ≤ 6
    · unfold idleS idleE at hk
      rw [if_pos (.inl h1),if_pos (.inl h1)] at hk
      rw [dT h1];exact hk
    rw [dF h1]
    by_cases h2:n > 1030
    · unfold idleS idleE at hk
      rw [if_pos (.inr h2),if_pos (.inr h2)] at hk
      rw [dT h2];exact hk
    rw [dF h2]
    exact idle_key h1 h2 hk
  · exact hk.elim)

theorem okPck:SpecOk Try.prog G0 17 sPck :=
 spec2 mixed none_ok Try.func17 (by kernel_rfl:Try.f17.body = some (codeOf Try.f17)) cPck rfl rfl rfl (by kernel_rfl) (ids:=[]) (by kernel_rfl) trivial (by
  intro args h K hk
  unfold sPck at hk
  split at hk
  · rename_i n m
    obtain ⟨m0,m1,hk⟩:=hk
    show bPck n m K
    rw [bPck_eq]
    rw [dnF (by omega)]
    rintro x1 h1
    have hlt:=Int.emod_lt_of_pos n m0
    have hnn:=Int.emod_nonneg n (by omega:m ≠ 0)
    have ht:x1 = n % m ∨ (x1 + m = n % m ∧ x1 < 0):=by
     rw [h1,Int.tmod_eq_emod]
     split
     · left;omega
     · right
       rename_i hc
       have hm:(m.natAbs:Int) = m:=by omega
       have hz:n % m ≠ 0:=fun z=>hc (.inr (Int.dvd_of_emod_eq_zero z))
       omega
    rcases ht with ht | ⟨ht,hneg⟩
    · rw [dF (by omega)];exact hk _ ht
    · rw [dT hneg]
      rintro x2 h2
      rw [iAdd_i64 (by omega) (by omega),ht] at h2
      exact hk _ h2
  · exact hk.elim)
end Go.Am.Tmf

namespace Go.Am.Tmf
open Go Go.Am Go.Am.Lib Go.Proofs Go.RowKit
open Go.Am.Pkt (G0 codeOf mixed none_ok by2 encS validB validB_iff sPut okPut putS putE)
set_option maxRecDepth 100000

/-! ### contracts -/
theorem gok0 (w:World):GOk G0 w:=fun _ _ h=>by cases h
theorem flat_calls {f:FuncId} {s:Spec} (hs:SpecOk Try.prog G0 f s) (w:World) {args:List Value} (ha:flatL args = true) {v:Value} (hv:flat v = true) (h:s args [] fun u h=>u = v ∧ h = []) :
 Calls Try.prog f ⟨args⟩ w fun e w'=>e = .returned v ∧ Below w.heap.size w w':=calls_flat hs (gok0 w) (fun _ _=>rfl) (Nat.le_refl _) ha hv h
theorem idle_calls {n:Nat} (h0:7 ≤ n) (h1:n ≤ 1030) (w:World):Calls Try.prog 80 #[.int .i64 ((n:Nat):Int)] w fun e w'=>e = .returned (.tuple #[.string (idleS n),.int .i64 0]) ∧ Below w.heap.size w w':=by
 have he:idleE ((n:Nat):Int) = 0:=by unfold idleE;rw [if_neg (by omega)]
 refine flat_calls okIdle w (args:=[.int .i64 ((n:Nat):Int)]) rfl (v:=.tuple ⟨[.string (idleS n),.int .i64 0]⟩) rfl ?_
 show _ ∧ _
 rw [he]
 exact ⟨rfl,rfl⟩
def idleL (n:Nat):L8:=(idleS n).data.toList
theorem encS_size (c:Bool) (a f n:Nat) (d:ByteArray):(encS c a f n d).size = 6 + d.size:=by
 unfold encS;rw [ByteArray.size_append];rfl
theorem idleL_len {n:Nat} (h0:7 ≤ n) (h1:n ≤ 1030):(idleL n).length = n:=by
 unfold idleL
 rw [size_list]
 unfold idleS
 rw [if_neg (by omega),encS_size]
 show 6 + (List.replicate (((n:Nat):Int).toNat - 6) (0:UInt8)).length = n
 rw [List.length_replicate,Int.toNat_natCast];omega
/-- Get of a string. -/
theorem get_calls (s:ByteArray) (w:World):Calls Try.prog 66 #[.string s] w fun e w'=>e = .returned (.tuple #[.agg #[.bool (Pkt.gC s),.int .i64 ((Pkt.gA s:Nat):Int),.int .i64 ((Pkt.gF s:Nat):Int),.int .i64 ((Pkt.gN s:Nat):Int),.string (Pkt.gD s)],.int .i64 (Pkt.getE s)]) ∧ Below w.heap.size w w' :=
 flat_calls Pkt.okGet w (args:=[.string s]) rfl (v:=.tuple ⟨[.agg ⟨[.bool (Pkt.gC s),.int .i64 ((Pkt.gA s:Nat):Int),.int .i64 ((Pkt.gF s:Nat):Int),.int .i64 ((Pkt.gN s:Nat):Int),.string (Pkt.gD s)]⟩,.int .i64 (Pkt.getE s)]⟩) rfl ⟨rfl,rfl⟩
end Go.Am.Tmf
