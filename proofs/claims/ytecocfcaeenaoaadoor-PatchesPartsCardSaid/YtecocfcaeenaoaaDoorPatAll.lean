/-
  Patches: the checksum, the header, read and valid. Own work.
-/
import Derived.Test.YtecocfcaeenaoaaDoorMemAll
import Derived.Test.YtecocfcaeenaoaaDoorAmY
namespace Go.Am.Pat
open Go Go.Am Go.Am.Ham Go.Am.Mem Go.Proofs
set_option maxRecDepth 100000

def poly : Nat := 3988292384
def stp (c : Nat) : Nat := if c % 2 = 1 then c / 2 ^^^ poly else c / 2
def stpN : Nat → Nat → Nat
  | 0, c => c
  | n + 1, c => stpN n (stp c)
def stB (c b : Nat) : Nat := if c % 2 = b then c / 2 else c / 2 ^^^ poly
/-- n bits of x from j on -/
def bitsR : Nat → Nat → Nat → Nat → Nat
  | 0, _, _, c => c
  | n + 1, j, x, c => bitsR n (j + 1) x (stB c (x / 2 ^ j % 2))
/-- n bytes from i on -/
def crcGo : Nat → ByteArray → Nat → Nat → Nat
  | 0, _, _, c => c
  | n + 1, s, i, c => crcGo n s (i + 1) (stpN 8 (c ^^^ byteAt s i))
def crcN (c : Nat) (s : ByteArray) : Nat := 4294967295 ^^^ crcGo s.size s 0 (4294967295 ^^^ c)
/-- the table -/
def crcT : List Value := [.int .u32 0, .int .u32 1996959894, .int .u32 3993919788, .int .u32 2567524794, .int .u32 124634137, .int .u32 1886057615, .int .u32 3915621685, .int .u32 2657392035, .int .u32 249268274, .int .u32 2044508324, .int .u32 3772115230, .int .u32 2547177864, .int .u32 162941995, .int .u32 2125561021, .int .u32 3887607047, .int .u32 2428444049, .int .u32 498536548, .int .u32 1789927666, .int .u32 4089016648, .int .u32 2227061214, .int .u32 450548861, .int .u32 1843258603, .int .u32 4107580753, .int .u32 2211677639, .int .u32 325883990, .int .u32 1684777152, .int .u32 4251122042, .int .u32 2321926636, .int .u32 335633487, .int .u32 1661365465, .int .u32 4195302755, .int .u32 2366115317, .int .u32 997073096, .int .u32 1281953886, .int .u32 3579855332, .int .u32 2724688242, .int .u32 1006888145, .int .u32 1258607687, .int .u32 3524101629, .int .u32 2768942443, .int .u32 901097722, .int .u32 1119000684, .int .u32 3686517206, .int .u32 2898065728, .int .u32 853044451, .int .u32 1172266101, .int .u32 3705015759, .int .u32 2882616665, .int .u32 651767980, .int .u32 1373503546, .int .u32 3369554304, .int .u32 3218104598, .int .u32 565507253, .int .u32 1454621731, .int .u32 3485111705, .int .u32 3099436303, .int .u32 671266974, .int .u32 1594198024, .int .u32 3322730930, .int .u32 2970347812, .int .u32 795835527, .int .u32 1483230225, .int .u32 3244367275, .int .u32 3060149565, .int .u32 1994146192, .int .u32 31158534, .int .u32 2563907772, .int .u32 4023717930, .int .u32 1907459465, .int .u32 112637215, .int .u32 2680153253, .int .u32 3904427059, .int .u32 2013776290, .int .u32 251722036, .int .u32 2517215374, .int .u32 3775830040, .int .u32 2137656763, .int .u32 141376813, .int .u32 2439277719, .int .u32 3865271297, .int .u32 1802195444, .int .u32 476864866, .int .u32 2238001368, .int .u32 4066508878, .int .u32 1812370925, .int .u32 453092731, .int .u32 2181625025, .int .u32 4111451223, .int .u32 1706088902, .int .u32 314042704, .int .u32 2344532202, .int .u32 4240017532, .int .u32 1658658271, .int .u32 366619977, .int .u32 2362670323, .int .u32 4224994405, .int .u32 1303535960, .int .u32 984961486, .int .u32 2747007092, .int .u32 3569037538, .int .u32 1256170817, .int .u32 1037604311, .int .u32 2765210733, .int .u32 3554079995, .int .u32 1131014506, .int .u32 879679996, .int .u32 2909243462, .int .u32 3663771856, .int .u32 1141124467, .int .u32 855842277, .int .u32 2852801631, .int .u32 3708648649, .int .u32 1342533948, .int .u32 654459306, .int .u32 3188396048, .int .u32 3373015174, .int .u32 1466479909, .int .u32 544179635, .int .u32 3110523913, .int .u32 3462522015, .int .u32 1591671054, .int .u32 702138776, .int .u32 2966460450, .int .u32 3352799412, .int .u32 1504918807, .int .u32 783551873, .int .u32 3082640443, .int .u32 3233442989, .int .u32 3988292384, .int .u32 2596254646, .int .u32 62317068, .int .u32 1957810842, .int .u32 3939845945, .int .u32 2647816111, .int .u32 81470997, .int .u32 1943803523, .int .u32 3814918930, .int .u32 2489596804, .int .u32 225274430, .int .u32 2053790376, .int .u32 3826175755, .int .u32 2466906013, .int .u32 167816743, .int .u32 2097651377, .int .u32 4027552580, .int .u32 2265490386, .int .u32 503444072, .int .u32 1762050814, .int .u32 4150417245, .int .u32 2154129355, .int .u32 426522225, .int .u32 1852507879, .int .u32 4275313526, .int .u32 2312317920, .int .u32 282753626, .int .u32 1742555852, .int .u32 4189708143, .int .u32 2394877945, .int .u32 397917763, .int .u32 1622183637, .int .u32 3604390888, .int .u32 2714866558, .int .u32 953729732, .int .u32 1340076626, .int .u32 3518719985, .int .u32 2797360999, .int .u32 1068828381, .int .u32 1219638859, .int .u32 3624741850, .int .u32 2936675148, .int .u32 906185462, .int .u32 1090812512, .int .u32 3747672003, .int .u32 2825379669, .int .u32 829329135, .int .u32 1181335161, .int .u32 3412177804, .int .u32 3160834842, .int .u32 628085408, .int .u32 1382605366, .int .u32 3423369109, .int .u32 3138078467, .int .u32 570562233, .int .u32 1426400815, .int .u32 3317316542, .int .u32 2998733608, .int .u32 733239954, .int .u32 1555261956, .int .u32 3268935591, .int .u32 3050360625, .int .u32 752459403, .int .u32 1541320221, .int .u32 2607071920, .int .u32 3965973030, .int .u32 1969922972, .int .u32 40735498, .int .u32 2617837225, .int .u32 3943577151, .int .u32 1913087877, .int .u32 83908371, .int .u32 2512341634, .int .u32 3803740692, .int .u32 2075208622, .int .u32 213261112, .int .u32 2463272603, .int .u32 3855990285, .int .u32 2094854071, .int .u32 198958881, .int .u32 2262029012, .int .u32 4057260610, .int .u32 1759359992, .int .u32 534414190, .int .u32 2176718541, .int .u32 4139329115, .int .u32 1873836001, .int .u32 414664567, .int .u32 2282248934, .int .u32 4279200368, .int .u32 1711684554, .int .u32 285281116, .int .u32 2405801727, .int .u32 4167216745, .int .u32 1634467795, .int .u32 376229701, .int .u32 2685067896, .int .u32 3608007406, .int .u32 1308918612, .int .u32 956543938, .int .u32 2808555105, .int .u32 3495958263, .int .u32 1231636301, .int .u32 1047427035, .int .u32 2932959818, .int .u32 3654703836, .int .u32 1088359270, .int .u32 936918000, .int .u32 2847714899, .int .u32 3736837829, .int .u32 1202900863, .int .u32 817233897, .int .u32 3183342108, .int .u32 3401237130, .int .u32 1404277552, .int .u32 615818150, .int .u32 3134207493, .int .u32 3453421203, .int .u32 1423857449, .int .u32 601450431, .int .u32 3009837614, .int .u32 3294710456, .int .u32 1567103746, .int .u32 711928724, .int .u32 3020668471, .int .u32 3272380065, .int .u32 1510334235, .int .u32 755167117]
def cellT (i : Nat) : Value := .int .u32 ((stpN 8 i : Nat) : Int)
/-- the table, made up to i -/
def crcL : Nat → List Value → List Value
  | 0, L => L
  | i + 1, L => (crcL i L).set i (cellT i)

def zeroT : List Value := List.replicate 256 (.int .u32 0)
def sB32 : Spec := fun args h K => match args, h with
  | [], [] => K (.agg ⟨crcT⟩) []
  | _, _ => False
def TB2 : LSpec := fun e h k => match e, h with
  | [(0, .pointer (some ⟨0, 0, some 0⟩)), (1, .pointer (some ⟨1, 0, some 0⟩)), (2, .int .i64 i), (3, .int .u32 c), (5, .int .i64 i'), (10, .int .i64 j)], [.cells true L0 ty0 mv0, .cells true L ty mv] =>
    0 ≤ c ∧ c < 2 ^ 32 ∧ j = 0 ∧ k (.exit 2) [(0, .pointer (some ⟨0, 0, some 0⟩)), (1, .pointer (some ⟨1, 0, some 0⟩)), (2, .int .i64 i), (3, .int .u32 ((stpN 8 c.toNat : Nat) : Int)), (5, .int .i64 i')] [.cells true L0 ty0 mv0, .cells true L ty mv]
  | _, _ => False
def TB1 : LSpec := fun e h k => match e, h with
  | [(0, .pointer (some ⟨0, 0, some 0⟩)), (1, .pointer (some ⟨1, 0, some 0⟩)), (5, .int .i64 i)], [.cells true L0 ty0 mv0, .cells true L ty mv] =>
    i = 0 ∧ L = zeroT ∧ k (.exit 0) [(0, .pointer (some ⟨0, 0, some 0⟩)), (1, .pointer (some ⟨1, 0, some 0⟩))] [.cells true L0 ty0 mv0, .cells true crcT ty mv]
  | _, _ => False
noncomputable def cB32 : FCfg := mkG Tryd.prog G0 [] 25 [(0, [0]), (1, [0, 1]), (2, [0, 1, 5]), (3, [0, 1, 5, 6]), (4, [0, 1, 2, 5]), (5, [0, 1, 2, 3, 5]), (6, [0, 1, 2, 3, 5, 10]), (7, [0, 1, 2, 3, 5, 10, 11]), (8, [0, 1, 2, 3, 4, 5, 10]), (9, [0, 1, 2, 3, 5, 10]), (10, [0, 1, 2, 3, 5, 10]), (11, [0, 1, 5]), (12, [0, 1, 5]), (13, [0])] [(3, [0, 1, 5]), (7, [0, 1, 2, 3, 5, 10])] [(3, [0, 1]), (7, [0, 1, 2, 3, 5])] [(3, TB1), (7, TB2)] [] [] 40 0
noncomputable def tB1 (L0 L : List Value) (ty0 ty : TypeId) (mv0 mv : Bool) (i : Int) (k : AExit → Env → AHeap → Prop) : Prop := codeK cB32 (nthLoop 0 (codeOf Tryd.f50)) [(0, .pointer (some ⟨0, 0, some 0⟩)), (1, .pointer (some ⟨1, 0, some 0⟩)), (5, .int .i64 i)] [.cells true L0 ty0 mv0, .cells true L ty mv] k
noncomputable def tB2 (L0 L : List Value) (ty0 ty : TypeId) (mv0 mv : Bool) (i i' j c : Int) (k : AExit → Env → AHeap → Prop) : Prop := codeK cB32 (nthLoop 1 (codeOf Tryd.f50)) [(0, .pointer (some ⟨0, 0, some 0⟩)), (1, .pointer (some ⟨1, 0, some 0⟩)), (2, .int .i64 i), (3, .int .u32 c), (5, .int .i64 i'), (10, .int .i64 j)] [.cells true L0 ty0 mv0, .cells true L ty mv] k
noncomputable def bB32 (K : Value → AHeap → Prop) : Prop := bodyK cB32 (codeOf Tryd.f50) Tryd.f50.results.toList [] [] K

def sNext : Spec := fun args h K => match args, h with
  | [.int .u32 c, .string s], [] => 0 ≤ c ∧ c < 2 ^ 32 ∧ s.size < 2 ^ 62 ∧ K (.int .u32 ((crcN c.toNat s : Nat) : Int)) []
  | _, _ => False
def sSum : Spec := fun args h K => match args, h with
  | [.string s], [] => s.size < 2 ^ 62 ∧ K (.int .u32 ((crcN 0 s : Nat) : Int)) []
  | _, _ => False
def TNx : LSpec := fun e h k => match e, h with
  | [(0, .int .u32 c), (1, .string s), (5, .pointer (some ⟨0, 0, some 0⟩)), (11, .int .i64 n), (12, .int .i64 i)], [.cells true L _ _] =>
    L = crcT ∧ 0 ≤ c ∧ c < 2 ^ 32 ∧ n = s.size ∧ s.size < 2 ^ 62 ∧ i = 0 ∧ k (.exit 0) [(0, .int .u32 ((crcGo s.size s 0 c.toNat : Nat) : Int))] []
  | _, _ => False
def tN : List (Nat × Spec) := [(50, sB32)]
noncomputable def cNx : FCfg := mkG Tryd.prog G0 tN 29 [(0, [0, 1]), (1, [0, 1, 5]), (2, [0, 1, 5]), (3, [0, 1, 5, 11, 12]), (4, [0, 1, 5, 11, 12, 13]), (5, [0, 1, 5, 6, 11, 12]), (6, [0, 1, 5, 11, 12]), (7, [0, 1, 5, 11, 12]), (8, [4])] [(4, [0, 1, 5, 11, 12])] [(4, [0])] [(4, TNx)] [] [] 40 0
noncomputable def tNx (L : List Value) (ty : TypeId) (mv : Bool) (c n i : Int) (s : ByteArray) (k : AExit → Env → AHeap → Prop) : Prop := codeK cNx (nthLoop 0 (codeOf Tryd.f42)) [(0, .int .u32 c), (1, .string s), (5, .pointer (some ⟨0, 0, some 0⟩)), (11, .int .i64 n), (12, .int .i64 i)] [.cells true L ty mv] k
noncomputable def bNx (c : Int) (s : ByteArray) (K : Value → AHeap → Prop) : Prop := bodyK cNx (codeOf Tryd.f42) Tryd.f42.results.toList [.int .u32 c, .string s] [] K

def sBit : Spec := fun args h K => match args, h with
  | [.int .u32 c, .int .u32 b], [] => 0 ≤ c ∧ c < 2 ^ 32 ∧ 0 ≤ b ∧ b < 2 ∧ K (.int .u32 ((stB c.toNat b.toNat : Nat) : Int)) []
  | _, _ => False
noncomputable def cBit : FCfg := mkG Tryd.prog G0 [] 16 [(0, [0, 1]), (1, [0, 1, 5]), (2, [0, 1, 5]), (3, [0, 12]), (4, [0]), (5, [4])] [] [] [] [] [] 40 0
noncomputable def bBit (c b : Int) (K : Value → AHeap → Prop) : Prop := bodyK cBit (codeOf Tryd.f48) Tryd.f48.results.toList [.int .u32 c, .int .u32 b] [] K
def TR2 : LSpec := fun e h k => match e, h with
  | [(0, .int .u32 c), (1, .string s), (5, .int .i64 i), (6, .int .i64 j)], [] =>
    0 ≤ c ∧ c < 2 ^ 32 ∧ 0 ≤ i ∧ i < s.size ∧ s.size < 2 ^ 62 ∧ j = 0 ∧ k (.exit 2) [(0, .int .u32 ((bitsR 8 0 (byteAt s i.toNat) c.toNat : Nat) : Int)), (1, .string s), (5, .int .i64 i)] []
  | _, _ => False
def TR1 : LSpec := fun e h k => match e, h with
  | [(0, .int .u32 c), (1, .string s), (5, .int .i64 i)], [] =>
    0 ≤ c ∧ c < 2 ^ 32 ∧ s.size < 2 ^ 62 ∧ i = 0 ∧ k (.exit 0) [(0, .int .u32 ((crcGo s.size s 0 c.toNat : Nat) : Int))] []
  | _, _ => False
def tRN : List (Nat × Spec) := [(48, sBit)]
noncomputable def cRN : FCfg := mkG Tryd.prog G0 tRN 31 [(0, [0, 1]), (1, [0, 1]), (2, [0, 1, 5]), (3, [0, 1, 5, 12]), (4, [0, 1, 5]), (5, [0, 1, 5, 6]), (6, [0, 1, 5, 6, 16]), (7, [0, 1, 5, 6]), (8, [0, 1, 5, 6]), (9, [4])] [(3, [0, 1, 5]), (6, [0, 1, 5, 6])] [(3, [0]), (6, [0, 1, 5])] [(3, TR1), (6, TR2)] [] [] 40 0
noncomputable def tR1 (c i : Int) (s : ByteArray) (k : AExit → Env → AHeap → Prop) : Prop := codeK cRN (nthLoop 0 (codeOf Tryd.f38)) [(0, .int .u32 c), (1, .string s), (5, .int .i64 i)] [] k
noncomputable def tR2 (c i j : Int) (s : ByteArray) (k : AExit → Env → AHeap → Prop) : Prop := codeK cRN (nthLoop 1 (codeOf Tryd.f38)) [(0, .int .u32 c), (1, .string s), (5, .int .i64 i), (6, .int .i64 j)] [] k
noncomputable def bRN (c : Int) (s : ByteArray) (K : Value → AHeap → Prop) : Prop := bodyK cRN (codeOf Tryd.f38) Tryd.f38.results.toList [.int .u32 c, .string s] [] K
def tSm : List (Nat × Spec) := [(42, sNext), (38, sNext)]
noncomputable def cSm : FCfg := mkG Tryd.prog G0 tSm 5 [(0, [0]), (1, [2])] [] [] [] [] [] 40 0
noncomputable def bSm (s : ByteArray) (K : Value → AHeap → Prop) : Prop := bodyK cSm (codeOf Tryd.f30) Tryd.f30.results.toList [.string s] [] K
noncomputable def cRS : FCfg := mkG Tryd.prog G0 tSm 5 [(0, [0]), (1, [2])] [] [] [] [] [] 40 0
noncomputable def bRS (s : ByteArray) (K : Value → AHeap → Prop) : Prop := bodyK cRS (codeOf Tryd.f20) Tryd.f20.results.toList [.string s] [] K
theorem tB1_eq (L0 L : List Value) (ty0 ty : TypeId) (mv0 mv : Bool) (i : Int) (k : AExit → Env → AHeap → Prop) : tB1 L0 L ty0 ty mv0 mv i k = (cond (decide ((i < (256 : Int)))) (∀ x1 : Int, ((x1 = (IntKind.wrap IntKind.u32 i)) → (((0 : Int) ≤ x1) ∧ ((x1 < (4294967296 : Int)) ∧ (((0 : Int) = (0 : Int)) ∧ (cond ((decide (((0 : Int) ≤ i))) && (decide ((i < (256 : Int))))) (cond (decide ((((Int.toNat i) + (1 : Nat) : Nat) ≤ (List.length L)))) (∀ x2 : Int, ((x2 = (iAdd IntKind.i64 i (1 : Int))) → (k AExit.normal [(Prod.mk 0 (Value.pointer (Option.some (Addr.mk 0 0 (Option.some 0))))), (Prod.mk 1 (Value.pointer (Option.some (Addr.mk (1 : Nat) 0 (Option.some 0))))), (Prod.mk 5 (Value.int IntKind.i64 x2))] [(AObj.cells Bool.true L0 ty0 mv0), (AObj.cells Bool.true (List.set L (Int.toNat i) (Value.int IntKind.u32 (((stpN (8 : Nat) (Int.toNat x1)) : Nat) : Int))) ty mv)]))) False) False)))))) (k (AExit.exit 0) [(Prod.mk 0 (Value.pointer (Option.some (Addr.mk 0 0 (Option.some 0))))), (Prod.mk 1 (Value.pointer (Option.some (Addr.mk (1 : Nat) 0 (Option.some 0))))), (Prod.mk 5 (Value.int IntKind.i64 i)), (Prod.mk 6 (Value.bool Bool.false))] [(AObj.cells Bool.true L0 ty0 mv0), (AObj.cells Bool.true L ty mv)])) := by
  kernel_rfl
theorem tB2_eq (L0 L : List Value) (ty0 ty : TypeId) (mv0 mv : Bool) (i i' j c : Int) (k : AExit → Env → AHeap → Prop) : tB2 L0 L ty0 ty mv0 mv i i' j c k = (cond (decide ((j < (8 : Int)))) (∀ x1 : Int, ((x1 = (iAnd IntKind.u32 c (1 : Int))) → (∀ x2 : Int, ((x2 = (Int.fdiv c (2 : Int))) → (∀ x3 : Int, ((x3 = (iMul IntKind.u32 x1 (3988292384 : Int))) → (∀ x4 : Int, ((x4 = (iXor IntKind.u32 x2 x3)) → (∀ x5 : Int, ((x5 = (iAdd IntKind.i64 j (1 : Int))) → (k AExit.normal [(Prod.mk 0 (Value.pointer (Option.some (Addr.mk 0 0 (Option.some 0))))), (Prod.mk 1 (Value.pointer (Option.some (Addr.mk (1 : Nat) 0 (Option.some 0))))), (Prod.mk 2 (Value.int IntKind.i64 i)), (Prod.mk 3 (Value.int IntKind.u32 x4)), (Prod.mk 5 (Value.int IntKind.i64 i')), (Prod.mk 10 (Value.int IntKind.i64 x5))] [(AObj.cells Bool.true L0 ty0 mv0), (AObj.cells Bool.true L ty mv)]))))))))))) (k (AExit.exit (2 : Nat)) [(Prod.mk 0 (Value.pointer (Option.some (Addr.mk 0 0 (Option.some 0))))), (Prod.mk 1 (Value.pointer (Option.some (Addr.mk (1 : Nat) 0 (Option.some 0))))), (Prod.mk 2 (Value.int IntKind.i64 i)), (Prod.mk 3 (Value.int IntKind.u32 c)), (Prod.mk 5 (Value.int IntKind.i64 i')), (Prod.mk 10 (Value.int IntKind.i64 j)), (Prod.mk 11 (Value.bool Bool.false))] [(AObj.cells Bool.true L0 ty0 mv0), (AObj.cells Bool.true L ty mv)])) := by
  kernel_rfl
theorem bB32_eq (K : Value → AHeap → Prop) : bB32 K = ((0 : Int) = 0 ∧ zeroT = zeroT ∧ K (.agg ⟨crcT⟩) []) := by
  kernel_rfl
theorem tNx_eq (L : List Value) (ty : TypeId) (mv : Bool) (c n i : Int) (s : ByteArray) (k : AExit → Env → AHeap → Prop) : tNx L ty mv c n i s k = (cond (decide ((i < n))) (∀ x1 : Int, ((x1 = (Int.fdiv c (256 : Int))) → (∀ x2 : Int, ((x2 = (IntKind.wrap IntKind.u8 c)) → (cond ((decide (((0 : Int) ≤ i))) && (decide ((i < (((ByteArray.size s) : Nat) : Int))))) (∀ x3 : Int, ((x3 = (((BitVec.toNat ((List.getD ((s).data).toList (Int.toNat i) (UInt8.ofBitVec (BitVec.ofNat (8 : Nat) 0)))).toBitVec) : Nat) : Int)) → (∀ x4 : Int, ((x4 = (iXor IntKind.u8 x2 x3)) → (cond ((decide (((0 : Int) ≤ x4))) && (decide ((x4 < (256 : Int))))) (cond (decide ((((Int.toNat x4) + (1 : Nat) : Nat) ≤ (List.length L)))) (cond (isInt IntKind.u32 (List.getD L (Int.toNat x4) Go.undef)) (∀ x5 : Int, ((x5 = (iXor IntKind.u32 x1 (intOf (List.getD L (Int.toNat x4) Go.undef)))) → (∀ x6 : Int, ((x6 = (iAdd IntKind.i64 i (1 : Int))) → (k AExit.normal [(Prod.mk 0 (Value.int IntKind.u32 x5)), (Prod.mk 1 (Value.string s)), (Prod.mk 5 (Value.pointer (Option.some (Addr.mk 0 0 (Option.some 0))))), (Prod.mk 11 (Value.int IntKind.i64 n)), (Prod.mk 12 (Value.int IntKind.i64 x6))] [(AObj.cells Bool.true L ty mv)]))))) False) False) False))))) False))))) (k (AExit.exit 0) [(Prod.mk 0 (Value.int IntKind.u32 c)), (Prod.mk 1 (Value.string s)), (Prod.mk 5 (Value.pointer (Option.some (Addr.mk 0 0 (Option.some 0))))), (Prod.mk 11 (Value.int IntKind.i64 n)), (Prod.mk 12 (Value.int IntKind.i64 i)), (Prod.mk 13 (Value.bool Bool.false))] [(AObj.cells Bool.true L ty mv)])) := by
  kernel_rfl
theorem bNx_eq (c : Int) (s : ByteArray) (K : Value → AHeap → Prop) : bNx c s K = (∀ x1 : Int, ((x1 = (iXor IntKind.u32 (4294967295 : Int) c)) → (∀ x2 : Int, ((x2 = (((ByteArray.size s) : Nat) : Int)) → ((crcT = crcT) ∧ (((0 : Int) ≤ x1) ∧ ((x1 < (4294967296 : Int)) ∧ ((x2 = (((ByteArray.size s) : Nat) : Int)) ∧ (((ByteArray.size s) < (4611686018427387904 : Nat)) ∧ (((0 : Int) = (0 : Int)) ∧ (∀ x3 : Int, ((x3 = (iXor IntKind.u32 (4294967295 : Int) (((crcGo (ByteArray.size s) s 0 (Int.toNat x1)) : Nat) : Int))) → (K (Value.int IntKind.u32 x3) []))))))))))))) := by
  kernel_rfl
theorem bBit_eq (c b : Int) (K : Value → AHeap → Prop) : bBit c b K = (∀ x1 : Int, ((x1 = (Int.tmod c (2 : Int))) → (∀ x2 : Int, ((x2 = (Int.fdiv c (2 : Int))) → (cond (!(decide ((x1 = b)))) (∀ x3 : Int, ((x3 = (iXor IntKind.u32 x2 (3988292384 : Int))) → (K (Value.int IntKind.u32 x3) []))) (K (Value.int IntKind.u32 x2) [])))))) := by
  kernel_rfl
theorem tR1_eq (c i : Int) (s : ByteArray) (k : AExit → Env → AHeap → Prop) : tR1 c i s k = (∀ x1 : Int, ((x1 = (((ByteArray.size s) : Nat) : Int)) → (cond (decide ((i < x1))) (((0 : Int) ≤ c) ∧ ((c < (4294967296 : Int)) ∧ (((0 : Int) ≤ i) ∧ ((i < (((ByteArray.size s) : Nat) : Int)) ∧ (((ByteArray.size s) < (4611686018427387904 : Nat)) ∧ (((0 : Int) = (0 : Int)) ∧ (∀ x2 : Int, ((x2 = (iAdd IntKind.i64 i (1 : Int))) → (k AExit.normal [(Prod.mk 0 (Value.int IntKind.u32 (((bitsR (8 : Nat) 0 (Mem.byteAt s (Int.toNat i)) (Int.toNat c)) : Nat) : Int))), (Prod.mk 1 (Value.string s)), (Prod.mk 5 (Value.int IntKind.i64 x2))] []))))))))) (k (AExit.exit 0) [(Prod.mk 0 (Value.int IntKind.u32 c)), (Prod.mk 1 (Value.string s)), (Prod.mk 5 (Value.int IntKind.i64 i)), (Prod.mk 12 (Value.bool Bool.false))] [])))) := by
  kernel_rfl
theorem tR2_eq (c i j : Int) (s : ByteArray) (k : AExit → Env → AHeap → Prop) : tR2 c i j s k = (cond (decide ((j < (8 : Int)))) (cond ((decide (((0 : Int) ≤ i))) && (decide ((i < (((ByteArray.size s) : Nat) : Int))))) (∀ x1 : Int, ((x1 = (((BitVec.toNat ((List.getD ((s).data).toList (Int.toNat i) (UInt8.ofBitVec (BitVec.ofNat (8 : Nat) 0)))).toBitVec) : Nat) : Int)) → (∀ x2 : Int, ((x2 = (IntKind.wrap IntKind.u32 x1)) → (∀ x3 : Int, ((x3 = (IntKind.wrap IntKind.u64 j)) → (cond (decide (((0 : Int) ≤ x3))) (∀ x4 : Int, ((x4 = (Int.fdiv x2 ((2 : Int) ^ (ite ((Int.toNat x3) ≤ (32 : Nat)) (Int.toNat x3) (32 : Nat)) : Int))) → (∀ x5 : Int, ((x5 = (Int.tmod x4 (2 : Int))) → (((0 : Int) ≤ c) ∧ ((c < (4294967296 : Int)) ∧ (((0 : Int) ≤ x5) ∧ ((x5 < (2 : Int)) ∧ (∀ x6 : Int, ((x6 = (((stB (Int.toNat c) (Int.toNat x5)) : Nat) : Int)) → (∀ x7 : Int, ((x7 = (iAdd IntKind.i64 j (1 : Int))) → (k AExit.normal [(Prod.mk 0 (Value.int IntKind.u32 x6)), (Prod.mk 1 (Value.string s)), (Prod.mk 5 (Value.int IntKind.i64 i)), (Prod.mk 6 (Value.int IntKind.i64 x7))] []))))))))))))) False))))))) False) (k (AExit.exit (2 : Nat)) [(Prod.mk 0 (Value.int IntKind.u32 c)), (Prod.mk 1 (Value.string s)), (Prod.mk 5 (Value.int IntKind.i64 i)), (Prod.mk 6 (Value.int IntKind.i64 j)), (Prod.mk 16 (Value.bool Bool.false))] [])) := by
  kernel_rfl
theorem bRN_eq (c : Int) (s : ByteArray) (K : Value → AHeap → Prop) : bRN c s K = (∀ x1 : Int, ((x1 = (iXor IntKind.u32 (4294967295 : Int) c)) → (((0 : Int) ≤ x1) ∧ ((x1 < (4294967296 : Int)) ∧ (((ByteArray.size s) < (4611686018427387904 : Nat)) ∧ (((0 : Int) = (0 : Int)) ∧ (∀ x2 : Int, ((x2 = (iXor IntKind.u32 (4294967295 : Int) (((crcGo (ByteArray.size s) s 0 (Int.toNat x1)) : Nat) : Int))) → (K (Value.int IntKind.u32 x2) []))))))))) := by
  kernel_rfl
theorem bSm_eq (s : ByteArray) (K : Value → AHeap → Prop) : bSm s K = (((0 : Int) ≤ (0 : Int)) ∧ (((0 : Int) < (4294967296 : Int)) ∧ (((ByteArray.size s) < (4611686018427387904 : Nat)) ∧ (∀ x1 : Int, ((x1 = (((crcN 0 s) : Nat) : Int)) → (K (Value.int IntKind.u32 x1) [])))))) := by
  kernel_rfl
theorem bRS_eq (s : ByteArray) (K : Value → AHeap → Prop) : bRS s K = (((0 : Int) ≤ (0 : Int)) ∧ (((0 : Int) < (4294967296 : Int)) ∧ (((ByteArray.size s) < (4611686018427387904 : Nat)) ∧ (∀ x1 : Int, ((x1 = (((crcN 0 s) : Nat) : Int)) → (K (Value.int IntKind.u32 x1) [])))))) := by
  kernel_rfl
end Go.Am.Pat

namespace Go.Am.Pat
open Go Go.Am Go.Am.Ham Go.Am.Mem Go.Proofs
set_option maxRecDepth 100000

theorem xor32 {a b : Nat} (ha : a < 2 ^ 32) (hb : b < 2 ^ 32) : a ^^^ b < 2 ^ 32 := Nat.xor_lt_two_pow ha hb
theorem poly_lt : poly < 2 ^ 32 := by decide
theorem stp_lt {c : Nat} (h : c < 2 ^ 32) : stp c < 2 ^ 32 := by
  unfold stp
  split
  · exact xor32 (by omega) poly_lt
  · omega
theorem stpN_lt : ∀ (n : Nat) {c : Nat}, c < 2 ^ 32 → stpN n c < 2 ^ 32
  | 0, _, h => h
  | n + 1, _, h => stpN_lt n (stp_lt h)
theorem stpN_succ : ∀ (n c : Nat), stpN (n + 1) c = stp (stpN n c)
  | 0, _ => rfl
  | n + 1, c => stpN_succ n (stp c)
theorem byteAt_lt (s : ByteArray) (i : Nat) : byteAt s i < 256 := UInt8.toNat_lt _
theorem crcGo_lt : ∀ (n : Nat) (s : ByteArray) (i : Nat) {c : Nat}, c < 2 ^ 32 → crcGo n s i c < 2 ^ 32
  | 0, _, _, _, h => h
  | n + 1, s, i, _, h => crcGo_lt n s (i + 1) (stpN_lt 8 (xor32 h (by have := byteAt_lt s i; omega)))
theorem crcN_lt {c : Nat} (h : c < 2 ^ 32) (s : ByteArray) : crcN c s < 2 ^ 32 := xor32 (by decide) (crcGo_lt _ _ _ (xor32 (by decide) h))

/-! ### the step is linear -/
theorem div_xor (a b : Nat) : (a ^^^ b) / 2 = a / 2 ^^^ b / 2 := by
  have := @Nat.shiftRight_xor_distrib 1 a b
  simpa [Nat.shiftRight_eq_div_pow] using this
theorem mod_xor (a b : Nat) : (a ^^^ b) % 2 = (a % 2 + b % 2) % 2 := by
  have h : ∀ n : Nat, n % 2 = (n.testBit 0).toNat := fun n => by rw [Nat.testBit_zero]; have := Nat.mod_lt n (show 0 < 2 by decide); by_cases e : n % 2 = 1 <;> simp [e] <;> omega
  rw [h (a ^^^ b), h a, h b, Nat.testBit_xor]
  cases a.testBit 0 <;> cases b.testBit 0 <;> rfl
theorem stp_xor (a b : Nat) : stp (a ^^^ b) = stp a ^^^ stp b := by
  unfold stp
  have hm := mod_xor a b
  rw [div_xor]
  have ha := Nat.mod_lt a (show 0 < 2 by decide)
  have hb := Nat.mod_lt b (show 0 < 2 by decide)
  have e4 : ∀ x y z : Nat, x ^^^ y ^^^ z = (x ^^^ z) ^^^ y := fun x y z => by rw [Nat.xor_assoc, Nat.xor_comm y z, ← Nat.xor_assoc]
  by_cases h1 : a % 2 = 1
  · by_cases h2 : b % 2 = 1
    · rw [if_neg (by omega), if_pos h1, if_pos h2, e4 (a / 2) poly, ← Nat.xor_assoc (a / 2), Nat.xor_assoc _ poly poly, Nat.xor_self, Nat.xor_zero]
    · rw [if_pos (by omega), if_pos h1, if_neg h2, e4 (a / 2) poly]
  · by_cases h2 : b % 2 = 1
    · rw [if_pos (by omega), if_neg h1, if_pos h2, Nat.xor_assoc]
    · rw [if_neg (by omega), if_neg h1, if_neg h2]
theorem stpN_xor : ∀ (n a b : Nat), stpN n (a ^^^ b) = stpN n a ^^^ stpN n b
  | 0, _, _ => rfl
  | n + 1, a, b => by rw [stpN, stpN, stpN, stp_xor, stpN_xor n]
theorem stp_two (k : Nat) : stp (2 * k) = k := by
  unfold stp
  rw [if_neg (by omega)]; omega
theorem stpN_two : ∀ (n k : Nat), stpN n (2 ^ n * k) = k
  | 0, k => by rw [Nat.pow_zero, Nat.one_mul]; rfl
  | n + 1, k => by rw [stpN, show 2 ^ (n + 1) * k = 2 * (2 ^ n * k) by rw [Nat.pow_succ]; simp [Nat.mul_comm, Nat.mul_left_comm], stp_two, stpN_two n]
theorem stB_stp {c b : Nat} (hb : b < 2) : stB c b = stp (c ^^^ b) := by
  unfold stB stp
  have hm := mod_xor c b
  have hd : (c ^^^ b) / 2 = c / 2 := by rw [div_xor, show b / 2 = 0 by omega, Nat.xor_zero]
  rw [hd]
  have := Nat.mod_lt c (show 0 < 2 by decide)
  by_cases h : c % 2 = b
  · rw [if_pos h, if_neg (by omega)]
  · rw [if_neg h, if_pos (by omega)]
theorem bitsR_eq : ∀ (n j x c : Nat), bitsR n j x c = stpN n (c ^^^ (x / 2 ^ j % 2 ^ n))
  | 0, j, x, c => by rw [Nat.pow_zero, Nat.mod_one, Nat.xor_zero]; rfl
  | n + 1, j, x, c => by
    rw [bitsR, bitsR_eq n, stB_stp (Nat.mod_lt _ (by decide)), stpN]
    generalize hy : x / 2 ^ j = y
    have e1 : x / 2 ^ (j + 1) = y / 2 := by rw [← hy, Nat.pow_succ, Nat.div_div_eq_div_mul]
    have e2 : y % 2 ^ (n + 1) = (y % 2) ^^^ (2 * (y / 2 % 2 ^ n)) := by
      apply Nat.eq_of_testBit_eq
      intro i
      rw [Nat.testBit_mod_two_pow, Nat.testBit_xor]
      cases i with
      | zero => simp [Nat.testBit_zero]
      | succ i =>
        rw [show (2 * (y / 2 % 2 ^ n)).testBit (i + 1) = (y / 2 % 2 ^ n).testBit i by rw [Nat.testBit_succ]; congr 1; omega]
        rw [show (y % 2).testBit (i + 1) = false by rw [Nat.testBit_succ, show y % 2 / 2 = 0 by omega]; exact Nat.zero_testBit _]
        rw [Nat.testBit_mod_two_pow, Nat.testBit_succ]
        simp
    rw [e1, e2, ← Nat.xor_assoc, stp_xor _ (2 * _), stp_two]
theorem byteR_eq {c x : Nat} (hx : x < 256) : bitsR 8 0 x c = stpN 8 (c ^^^ x) := by
  rw [bitsR_eq, Nat.pow_zero, Nat.div_one, Nat.mod_eq_of_lt (show x < 2 ^ 8 by omega)]
/-- A byte by the table. -/
theorem byteT_eq (c x : Nat) : c / 256 ^^^ stpN 8 (c % 256 ^^^ x) = stpN 8 (c ^^^ x) := by
  have hs : c = (2 ^ 8 * (c / 256)) ^^^ (c % 256) := by
    have h1 : 2 ^ 8 * (c / 256) ^^^ (c % 256) = 2 ^ 8 * (c / 256) + c % 256 := by
      apply Nat.eq_of_testBit_eq
      intro i
      rw [Nat.testBit_xor, Nat.testBit_two_pow_mul, Nat.testBit_two_pow_mul_add _ (show c % 256 < 2 ^ 8 by omega)]
      by_cases hi : i < 8
      · rw [if_pos hi, decide_eq_false (by omega)]; simp
      · rw [if_neg hi, decide_eq_true (by omega), Nat.testBit_lt_two_pow (Nat.lt_of_lt_of_le (show c % 256 < 2 ^ 8 by omega) (Nat.pow_le_pow_right (by decide) (by omega)))]
        simp
    rw [h1]; omega
  conv => rhs; rw [hs]
  rw [Nat.xor_assoc, stpN_xor 8 (2 ^ 8 * _), stpN_two]
end Go.Am.Pat

namespace Go.Am.Pat
open Go Go.Am Go.Am.Ham Go.Am.Mem Go.Proofs
set_option maxRecDepth 100000

/-! ### the table -/
theorem isInt_u32 (n : Int) : isInt IntKind.u32 (.int .u32 n) = true := rfl
theorem crcL_len : ∀ (n : Nat) (L : List Value), (crcL n L).length = L.length
  | 0, _ => rfl
  | n + 1, L => by rw [crcL, List.length_set, crcL_len n]
theorem crcL_at : ∀ (n : Nat) (L : List Value) (i : Nat), i < L.length → (crcL n L).getD i undef = if i < n then cellT i else L.getD i undef
  | 0, _, _, _ => rfl
  | n + 1, L, i, h => by
    rw [crcL, getD_set _ _ _ _ (by rw [crcL_len]; exact h), crcL_at n L i h]
    by_cases e : n = i
    · subst e; rw [if_pos rfl, if_pos (by omega)]
    · rw [if_neg e]
      by_cases e2 : i < n
      · rw [if_pos e2, if_pos (by omega)]
      · rw [if_neg e2, if_neg (by omega)]
theorem crcL_all : crcL 256 zeroT = crcT := by kernel_rfl
theorem crcT_at {i : Nat} (h : i < 256) : crcT.getD i undef = cellT i := by
  rw [← crcL_all, crcL_at 256 zeroT i (by rw [show zeroT.length = 256 from List.length_replicate]; exact h), if_pos h]
theorem crcT_len : crcT.length = 256 := by rw [← crcL_all, crcL_len]; exact List.length_replicate

theorem loopB2 : ∀ e h k, TB2 e h k → ∃ m, loopN cB32 (codeOf Tryd.f50) 1 7 m e h k := by
  intro e h k hT
  unfold TB2 at hT
  split at hT
  · rename_i i c i' j L0 ty0 mv0 L ty mv
    obtain ⟨c0, c1, rfl, hk⟩ := hT
    obtain ⟨m, rfl⟩ := nat_of c0
    rw [Int.toNat_natCast] at hk
    have hm : m < 2 ^ 32 := by omega
    refine ⟨9, ?_⟩
    have key : ∀ n j c : Nat, j + n = 8 → c < 2 ^ 32 → (k (.exit 2) [(0, .pointer (some ⟨0, 0, some 0⟩)), (1, .pointer (some ⟨1, 0, some 0⟩)), (2, .int .i64 i), (3, .int .u32 ((stpN n c : Nat) : Int)), (5, .int .i64 i')] [.cells true L0 ty0 mv0, .cells true L ty mv]) →
        loopN cB32 (codeOf Tryd.f50) 1 7 (n + 1) [(0, .pointer (some ⟨0, 0, some 0⟩)), (1, .pointer (some ⟨1, 0, some 0⟩)), (2, .int .i64 i), (3, .int .u32 ((c : Nat) : Int)), (5, .int .i64 i'), (10, .int .i64 ((j : Nat) : Int))] [.cells true L0 ty0 mv0, .cells true L ty mv] k := by
      intro n
      induction n with
      | zero =>
        intro j c hj hc hk
        rw [loopN_succ]
        show tB2 L0 L ty0 ty mv0 mv i i' (j : Nat) (c : Nat) _
        rw [tB2_eq, dF (by omega)]
        exact hk
      | succ n ih =>
        intro j c hj hc hk
        rw [loopN_succ]
        show tB2 L0 L ty0 ty mv0 mv i i' (j : Nat) (c : Nat) _
        rw [tB2_eq, dT (by omega)]
        intro x1 h1 x2 h2 x3 h3 x4 h4 x5 h5
        rw [show (1 : Int) = ((1 : Nat) : Int) from rfl, iAnd_cast .u32 (by rw [cap_u32]; omega) (by rw [cap_u32]; omega), Nat.and_one_is_mod] at h1
        rw [show (2 : Int) = ((2 : Nat) : Int) from rfl, fdiv_cast] at h2
        have hc2 := Nat.mod_lt c (show 0 < 2 by decide)
        have hp : c % 2 * poly < 2 ^ 32 := by
          rcases (by omega : c % 2 = 0 ∨ c % 2 = 1) with e | e <;> rw [e] <;> decide
        rw [h1, show (3988292384 : Int) = ((poly : Nat) : Int) from rfl, iMul_cast .u32 (by rw [cap_u32]; exact hp)] at h3
        rw [h2, h3, iXor_cast .u32 (by rw [cap_u32]; omega) (by rw [cap_u32]; exact hp)] at h4
        have e4 : c / 2 ^^^ (c % 2 * poly) = stp c := by
          unfold stp
          rcases (by omega : c % 2 = 0 ∨ c % 2 = 1) with e | e <;> rw [e]
          · rw [if_neg (by omega), Nat.zero_mul, Nat.xor_zero]
          · rw [if_pos rfl, Nat.one_mul]
        rw [e4] at h4
        rw [iAdd_i64 (by omega) (by omega)] at h5
        obtain rfl : x5 = ((j + 1 : Nat) : Int) := by omega
        subst h4
        exact ih (j + 1) (stp c) (by omega) (stp_lt hc) hk
    exact key 8 0 m rfl hm hk
  · exact hT.elim
theorem loopB1 : ∀ e h k, TB1 e h k → ∃ m, loopN cB32 (codeOf Tryd.f50) 0 3 m e h k := by
  intro e h k hT
  unfold TB1 at hT
  split at hT
  · rename_i i L0 ty0 mv0 L ty mv
    obtain ⟨rfl, rfl, hk⟩ := hT
    refine ⟨257, ?_⟩
    have key : ∀ n i : Nat, i + n = 256 →
        loopN cB32 (codeOf Tryd.f50) 0 3 (n + 1) [(0, .pointer (some ⟨0, 0, some 0⟩)), (1, .pointer (some ⟨1, 0, some 0⟩)), (5, .int .i64 ((i : Nat) : Int))] [.cells true L0 ty0 mv0, .cells true (crcL i zeroT) ty mv] k := by
      intro n
      induction n with
      | zero =>
        intro i hi
        obtain rfl : i = 256 := by omega
        rw [crcL_all, loopN_succ]
        show tB1 L0 crcT ty0 ty mv0 mv ((256 : Nat) : Int) _
        rw [tB1_eq, dF (by omega)]
        exact hk
      | succ n ih =>
        intro i hi
        rw [loopN_succ]
        show tB1 L0 (crcL i zeroT) ty0 ty mv0 mv ((i : Nat) : Int) _
        rw [tB1_eq, dT (by omega)]
        intro x1 h1
        rw [wrap_u32 (by omega) (by omega)] at h1
        subst h1
        refine ⟨by omega, by omega, rfl, ?_⟩
        rw [dT2 (by omega) (by omega), Int.toNat_natCast, dT (by rw [crcL_len]; show i + 1 ≤ (List.replicate 256 (Value.int .u32 0)).length; rw [List.length_replicate]; omega)]
        intro x2 h2
        rw [iAdd_i64 (by omega) (by omega)] at h2
        obtain rfl : x2 = ((i + 1 : Nat) : Int) := by omega
        exact ih (i + 1) (by omega)
    exact key 256 0 rfl
  · exact hT.elim
theorem none_ok : AllOk Tryd.prog G0 [] := trivial
theorem okB32 : SpecOk Tryd.prog G0 50 sB32 :=
  spec2 mixed none_ok Tryd.func50 (by kernel_rfl : Tryd.f50.body = some (codeOf Tryd.f50)) cB32 rfl rfl rfl (by kernel_rfl) (ids := [3, 7]) (by kernel_rfl) ⟨by intro e h k hT; exact loopB1 e h k hT, by intro e h k hT; exact loopB2 e h k hT, trivial⟩ (by
    intro args h K hk
    unfold sB32 at hk
    split at hk
    · show bB32 K
      rw [bB32_eq]
      exact ⟨rfl, rfl, hk⟩
    · exact hk.elim)

/-! ### the program's Next32 -/
theorem loopNx : ∀ e h k, TNx e h k → ∃ m, loopN cNx (codeOf Tryd.f42) 0 4 m e h k := by
  intro e h k hT
  unfold TNx at hT
  split at hT
  · rename_i c s n i L ty mv
    obtain ⟨rfl, c0, c1, rfl, hs, rfl, hk⟩ := hT
    obtain ⟨m, rfl⟩ := nat_of c0
    rw [Int.toNat_natCast] at hk
    have hm : m < 2 ^ 32 := by omega
    refine ⟨s.size + 1, ?_⟩
    have key : ∀ n i c : Nat, i + n = s.size → c < 2 ^ 32 → k (.exit 0) [(0, .int .u32 ((crcGo n s i c : Nat) : Int))] [] →
        loopN cNx (codeOf Tryd.f42) 0 4 (n + 1) [(0, .int .u32 ((c : Nat) : Int)), (1, .string s), (5, .pointer (some ⟨0, 0, some 0⟩)), (11, .int .i64 ((s.size : Nat) : Int)), (12, .int .i64 ((i : Nat) : Int))] [.cells true crcT ty mv] k := by
      intro n
      induction n with
      | zero =>
        intro i c hi hc hk
        rw [loopN_succ]
        show tNx crcT ty mv (c : Nat) (s.size : Nat) (i : Nat) s _
        rw [tNx_eq, dF (by omega)]
        exact hk
      | succ n ih =>
        intro i c hi hc hk
        rw [loopN_succ]
        show tNx crcT ty mv (c : Nat) (s.size : Nat) (i : Nat) s _
        rw [tNx_eq, dT (by omega)]
        intro x1 h1 x2 h2
        rw [show (256 : Int) = ((256 : Nat) : Int) from rfl, fdiv_cast] at h1
        rw [wrap_u rfl, show ((2 ^ IntKind.u8.bits : Nat) : Int) = ((256 : Nat) : Int) from rfl, ← Int.natCast_emod] at h2
        rw [dT2 (by omega) (by omega), Int.toNat_natCast]
        intro x3 h3
        replace h3 : x3 = ((byteAt s i : Nat) : Int) := h3
        intro x4 h4
        have hb := byteAt_lt s i
        have hc8 := Nat.mod_lt c (show 0 < 256 by decide)
        have hx : c % 256 ^^^ byteAt s i < 256 := @Nat.xor_lt_two_pow _ _ 8 hc8 hb
        rw [h2, h3, iXor_cast .u8 hc8 hb] at h4
        subst h4
        rw [dT2 (by omega) (by omega), Int.toNat_natCast, crcT_at hx, dT (by rw [crcT_len]; omega)]
        refine (show cond (isInt IntKind.u32 (.int .u32 _)) _ _ from ?_)
        rw [isInt_u32, cond_true]
        intro x5 h5
        have h5' : x5 = iXor .u32 x1 ((stpN 8 (c % 256 ^^^ byteAt s i) : Nat) : Int) := h5
        rw [h1, iXor_cast .u32 (by rw [cap_u32]; omega) (by rw [cap_u32]; exact stpN_lt 8 (by omega)), byteT_eq] at h5'
        subst h5'
        intro x6 h6
        rw [iAdd_i64 (by omega) (by omega)] at h6
        obtain rfl : x6 = ((i + 1 : Nat) : Int) := by omega
        exact ih (i + 1) _ (by omega) (stpN_lt 8 (xor32 hc (by omega))) hk
    exact key s.size 0 m (by omega) hm hk
  · exact hT.elim
theorem tN_ok : AllOk Tryd.prog G0 tN := ⟨okB32, trivial⟩
theorem xorF {x1 : Int} {c : Nat} (hc : c < 2 ^ 32) (h : x1 = iXor .u32 4294967295 (c : Nat)) : x1 = ((4294967295 ^^^ c : Nat) : Int) := by
  rw [show (4294967295 : Int) = ((4294967295 : Nat) : Int) from rfl, iXor_cast .u32 (by rw [cap_u32]; omega) (by rw [cap_u32]; omega)] at h
  exact h
theorem okNext : SpecOk Tryd.prog G0 42 sNext :=
  spec2 mixed tN_ok Tryd.func42 (by kernel_rfl : Tryd.f42.body = some (codeOf Tryd.f42)) cNx rfl rfl rfl (by kernel_rfl) (ids := [4]) (by kernel_rfl) ⟨by intro e h k hT; exact loopNx e h k hT, trivial⟩ (by
    intro args h K hk
    unfold sNext at hk
    split at hk
    · rename_i c s
      obtain ⟨c0, c1, hs, hk⟩ := hk
      obtain ⟨m, rfl⟩ := nat_of c0
      rw [Int.toNat_natCast] at hk
      have hm : m < 2 ^ 32 := by omega
      show bNx (m : Nat) s K
      rw [bNx_eq]
      intro x1 h1 x2 h2
      replace h1 := xorF hm h1
      have hx := xor32 (show 4294967295 < 2 ^ 32 by decide) hm
      refine ⟨rfl, by omega, by omega, h2, hs, rfl, ?_⟩
      intro x3 h3
      rw [h1, Int.toNat_natCast] at h3
      replace h3 := xorF (crcGo_lt _ _ _ hx) h3
      subst h3
      exact hk
    · exact hk.elim)

/-! ### the reference -/
theorem okBit : SpecOk Tryd.prog G0 48 sBit :=
  spec2 mixed none_ok Tryd.func48 (by kernel_rfl : Tryd.f48.body = some (codeOf Tryd.f48)) cBit rfl rfl rfl (by kernel_rfl) (ids := []) (by kernel_rfl) trivial (by
    intro args h K hk
    unfold sBit at hk
    split at hk
    · rename_i c b
      obtain ⟨c0, c1, b0, b1, hk⟩ := hk
      obtain ⟨m, rfl⟩ := nat_of c0
      obtain ⟨d, rfl⟩ := nat_of b0
      rw [Int.toNat_natCast, Int.toNat_natCast] at hk
      show bBit (m : Nat) (d : Nat) K
      rw [bBit_eq]
      intro x1 h1 x2 h2
      rw [show (2 : Int) = ((2 : Nat) : Int) from rfl, tmod_cast] at h1
      rw [show (2 : Int) = ((2 : Nat) : Int) from rfl, fdiv_cast] at h2
      unfold stB at hk
      by_cases e : m % 2 = d
      · rw [if_pos e] at hk
        rw [dnT (by omega), h2]; exact hk
      · rw [if_neg e] at hk
        rw [dnF (by omega)]
        intro x3 h3
        rw [h2, show (3988292384 : Int) = ((poly : Nat) : Int) from rfl, iXor_cast .u32 (by rw [cap_u32]; omega) (by rw [cap_u32]; exact poly_lt)] at h3
        subst h3; exact hk
    · exact hk.elim)
theorem tRN_ok : AllOk Tryd.prog G0 tRN := ⟨okBit, trivial⟩
theorem stB_lt {c b : Nat} (h : c < 2 ^ 32) : stB c b < 2 ^ 32 := by
  unfold stB; split
  · omega
  · exact xor32 (by omega) poly_lt
theorem bitsR_lt : ∀ (n j x : Nat) {c : Nat}, c < 2 ^ 32 → bitsR n j x c < 2 ^ 32
  | 0, _, _, _, h => h
  | n + 1, j, x, _, h => bitsR_lt n (j + 1) x (stB_lt h)
theorem loopR2 : ∀ e h k, TR2 e h k → ∃ m, loopN cRN (codeOf Tryd.f38) 1 6 m e h k := by
  intro e h k hT
  unfold TR2 at hT
  split at hT
  · rename_i c s i j
    obtain ⟨c0, c1, i0, i1, hs, rfl, hk⟩ := hT
    obtain ⟨m, rfl⟩ := nat_of c0
    obtain ⟨a, rfl⟩ := nat_of i0
    rw [Int.toNat_natCast, Int.toNat_natCast] at hk
    have hm : m < 2 ^ 32 := by omega
    refine ⟨9, ?_⟩
    have key : ∀ n j c : Nat, j + n = 8 → c < 2 ^ 32 → k (.exit 2) [(0, .int .u32 ((bitsR n j (byteAt s a) c : Nat) : Int)), (1, .string s), (5, .int .i64 ((a : Nat) : Int))] [] →
        loopN cRN (codeOf Tryd.f38) 1 6 (n + 1) [(0, .int .u32 ((c : Nat) : Int)), (1, .string s), (5, .int .i64 ((a : Nat) : Int)), (6, .int .i64 ((j : Nat) : Int))] [] k := by
      intro n
      induction n with
      | zero =>
        intro j c hj hc hk
        rw [loopN_succ]
        show tR2 (c : Nat) (a : Nat) (j : Nat) s _
        rw [tR2_eq, dF (by omega)]
        exact hk
      | succ n ih =>
        intro j c hj hc hk
        rw [loopN_succ]
        show tR2 (c : Nat) (a : Nat) (j : Nat) s _
        rw [tR2_eq, dT (by omega), dT2 (by omega) (by omega), Int.toNat_natCast]
        intro x1 h1
        replace h1 : x1 = ((byteAt s a : Nat) : Int) := h1
        have hb := byteAt_lt s a
        intro x2 h2 x3 h3
        rw [h1, wrap_u32 (by omega) (by omega)] at h2
        rw [Ham.wrap_u64, Nat.mod_eq_of_lt (by omega)] at h3
        subst h3
        rw [dT (by omega), Int.toNat_natCast, if_pos (show j ≤ 32 by omega)]
        intro x4 h4 x5 h5
        rw [h2, show ((2 : Int) ^ j) = ((2 ^ j : Nat) : Int) from by rw [Int.natCast_pow]; rfl, fdiv_cast] at h4
        rw [h4, show (2 : Int) = ((2 : Nat) : Int) from rfl, tmod_cast] at h5
        subst h5
        refine ⟨by omega, by omega, by omega, by omega, ?_⟩
        rw [Int.toNat_natCast, Int.toNat_natCast]
        intro x6 h6 x7 h7
        subst h6
        rw [iAdd_i64 (by omega) (by omega)] at h7
        obtain rfl : x7 = ((j + 1 : Nat) : Int) := by omega
        exact ih (j + 1) _ (by omega) (stB_lt hc) hk
    exact key 8 0 m rfl hm hk
  · exact hT.elim
theorem loopR1 : ∀ e h k, TR1 e h k → ∃ m, loopN cRN (codeOf Tryd.f38) 0 3 m e h k := by
  intro e h k hT
  unfold TR1 at hT
  split at hT
  · rename_i c s i
    obtain ⟨c0, c1, hs, rfl, hk⟩ := hT
    obtain ⟨m, rfl⟩ := nat_of c0
    rw [Int.toNat_natCast] at hk
    have hm : m < 2 ^ 32 := by omega
    refine ⟨s.size + 1, ?_⟩
    have key : ∀ n i c : Nat, i + n = s.size → c < 2 ^ 32 → k (.exit 0) [(0, .int .u32 ((crcGo n s i c : Nat) : Int))] [] →
        loopN cRN (codeOf Tryd.f38) 0 3 (n + 1) [(0, .int .u32 ((c : Nat) : Int)), (1, .string s), (5, .int .i64 ((i : Nat) : Int))] [] k := by
      intro n
      induction n with
      | zero =>
        intro i c hi hc hk
        rw [loopN_succ]
        show tR1 (c : Nat) (i : Nat) s _
        rw [tR1_eq]
        intro x1 h1
        rw [dF (by omega)]
        exact hk
      | succ n ih =>
        intro i c hi hc hk
        rw [loopN_succ]
        show tR1 (c : Nat) (i : Nat) s _
        rw [tR1_eq]
        intro x1 h1
        rw [dT (by omega)]
        refine ⟨by omega, by omega, by omega, by omega, hs, rfl, ?_⟩
        rw [Int.toNat_natCast, Int.toNat_natCast]
        intro x2 h2
        rw [iAdd_i64 (by omega) (by omega)] at h2
        obtain rfl : x2 = ((i + 1 : Nat) : Int) := by omega
        have hb := byteAt_lt s i
        have hl := bitsR_lt 8 0 (byteAt s i) hc
        refine ih (i + 1) _ (by omega) hl ?_
        rw [byteR_eq hb]
        exact hk
    exact key s.size 0 m (by omega) hm hk
  · exact hT.elim
theorem okRNext : SpecOk Tryd.prog G0 38 sNext :=
  spec2 mixed tRN_ok Tryd.func38 (by kernel_rfl : Tryd.f38.body = some (codeOf Tryd.f38)) cRN rfl rfl rfl (by kernel_rfl) (ids := [3, 6]) (by kernel_rfl) ⟨by intro e h k hT; exact loopR1 e h k hT, by intro e h k hT; exact loopR2 e h k hT, trivial⟩ (by
    intro args h K hk
    unfold sNext at hk
    split at hk
    · rename_i c s
      obtain ⟨c0, c1, hs, hk⟩ := hk
      obtain ⟨m, rfl⟩ := nat_of c0
      rw [Int.toNat_natCast] at hk
      have hm : m < 2 ^ 32 := by omega
      show bRN (m : Nat) s K
      rw [bRN_eq]
      intro x1 h1
      replace h1 := xorF hm h1
      have hx := xor32 (show 4294967295 < 2 ^ 32 by decide) hm
      refine ⟨by omega, by omega, hs, rfl, ?_⟩
      intro x3 h3
      rw [h1, Int.toNat_natCast] at h3
      replace h3 := xorF (crcGo_lt _ _ _ hx) h3
      subst h3
      exact hk
    · exact hk.elim)
theorem tSm_ok : AllOk Tryd.prog G0 tSm := ⟨okNext, okRNext, trivial⟩
theorem okSum : SpecOk Tryd.prog G0 30 sSum :=
  spec2 mixed tSm_ok Tryd.func30 (by kernel_rfl : Tryd.f30.body = some (codeOf Tryd.f30)) cSm rfl rfl rfl (by kernel_rfl) (ids := []) (by kernel_rfl) trivial (by
    intro args h K hk
    unfold sSum at hk
    split at hk
    · rename_i s
      obtain ⟨hs, hk⟩ := hk
      show bSm s K
      rw [bSm_eq]
      refine ⟨by omega, by omega, hs, ?_⟩
      intro x1 h1
      subst h1; exact hk
    · exact hk.elim)
theorem okRSum : SpecOk Tryd.prog G0 20 sSum :=
  spec2 mixed tSm_ok Tryd.func20 (by kernel_rfl : Tryd.f20.body = some (codeOf Tryd.f20)) cRS rfl rfl rfl (by kernel_rfl) (ids := []) (by kernel_rfl) trivial (by
    intro args h K hk
    unfold sSum at hk
    split at hk
    · rename_i s
      obtain ⟨hs, hk⟩ := hk
      show bRS s K
      rw [bRS_eq]
      refine ⟨by omega, by omega, hs, ?_⟩
      intro x1 h1
      subst h1; exact hk
    · exact hk.elim)
end Go.Am.Pat

namespace Go.Am.Pat
open Go Go.Am Go.Am.Ham Go.Am.Mem Go.Proofs
set_option maxRecDepth 100000

/-! ### a store -/
structure Stg where
  id : Int
  sum : Int
  len : Int
  bank : Int
structure Sto where
  base : Int
  size : Int
structure Tys where
  t0 : TypeId
  t1 : TypeId
  t2 : TypeId
  t3 : TypeId
  v0 : Bool
  v1 : Bool
  v2 : Bool
  v3 : Bool
def mP (b : Nat) (m : Mem) : List Value := [.slice (some ⟨b, 0, some 0⟩) m.n 2, .int .i64 m.safe, .int .i64 m.scrub, .int .i64 m.fuse, .bool m.bl, .int .i64 m.fx, .int .i64 m.lo, .int .i64 m.st]
/-- A store without and with something staged. -/
def stA (s : Sto) (m : Mem) (t : Tys) : AHeap := [.cells false [.pointer (some ⟨1, 0, some 0⟩), .int .i64 s.base, .int .i64 s.size, .pointer none] t.t0 t.v0, .cells false (mP 2 m) t.t1 t.v1, .cells true m.W t.t2 t.v2]
def stB' (s : Sto) (m : Mem) (g : Stg) (t : Tys) : AHeap := [.cells false [.pointer (some ⟨1, 0, some 0⟩), .int .i64 s.base, .int .i64 s.size, .pointer (some ⟨3, 0, some 0⟩)] t.t0 t.v0, .cells false (mP 2 m) t.t1 t.v1, .cells true m.W t.t2 t.v2,
  .cells true [.int .u32 g.id, .int .u32 g.sum, .int .i64 g.len, .int .i64 g.bank] t.t3 t.v3]
def stA1 (s : Sto) (m : Mem) (t : Tys) (o : AObj) : AHeap := [.cells false [.pointer (some ⟨1, 0, some 0⟩), .int .i64 s.base, .int .i64 s.size, .pointer none] t.t0 t.v0, .cells false (mP 2 m) t.t1 t.v1, .cells true m.W t.t2 t.v2, o]
def stB1 (s : Sto) (m : Mem) (g : Stg) (t : Tys) (o : AObj) : AHeap := [.cells false [.pointer (some ⟨1, 0, some 0⟩), .int .i64 s.base, .int .i64 s.size, .pointer (some ⟨3, 0, some 0⟩)] t.t0 t.v0, .cells false (mP 2 m) t.t1 t.v1, .cells true m.W t.t2 t.v2,
  .cells true [.int .u32 g.id, .int .u32 g.sum, .int .i64 g.len, .int .i64 g.bank] t.t3 t.v3, o]
def ptr (b : Nat) : Value := .pointer (some ⟨b, 0, some 0⟩)
def wordsN (n : Int) : Int := if n < 4 ∨ n > 8192 then 0 else 2 * (5 + (n + 3) / 4)
def sWords : Spec := fun args h K => match args, h with
  | [.int .i64 n], [] => K (.int .i64 (wordsN n)) []
  | _, _ => False
noncomputable def cWords : FCfg := mkG Tryd.prog G0 [] 14 [(0, [0]), (1, [0, 8]), (2, [2]), (3, [2])] [] [] [] [] [] 40 0
noncomputable def bWords (n : Int) (K : Value → AHeap → Prop) : Prop := bodyK cWords (codeOf Tryd.f11) Tryd.f11.results.toList [.int .i64 n] [] K
def tW : List (Nat × Spec) := [(11, sWords)]
noncomputable def cAt : FCfg := { mkG Tryd.prog G0 tW 18 [(0, [0, 1]), (1, [4])] [] [] [] [] [] 40 4 with hold := lookL [(1, [0])] }
noncomputable def bAtA (s : Sto) (m : Mem) (t : Tys) (n : Int) (K : Value → AHeap → Prop) : Prop := bodyK cAt (codeOf Tryd.f33) Tryd.f33.results.toList [ptr 0, .int .i64 n] (stA s m t) K
noncomputable def bAtB (s : Sto) (m : Mem) (g : Stg) (t : Tys) (n : Int) (K : Value → AHeap → Prop) : Prop := bodyK cAt (codeOf Tryd.f33) Tryd.f33.results.toList [ptr 0, .int .i64 n] (stB' s m g t) K
noncomputable def cNeed : FCfg := mkG Tryd.prog G0 [] 6 [(0, [3]), (1, [])] [] [] [] [] [] 40 0
noncomputable def bNeed (b : Bool) (K : AEnd → AHeap → Prop) : Prop := bodyKP cNeed (codeOf Tryd.f59) Tryd.f59.results.toList [.bool b] [] K

/-! ### seal -/
def bytesN (w : Int) : List Value := bytes4 w.toNat
def sealB (a b c d : Int) : List Value := bytesN a ++ bytesN b ++ bytesN c ++ bytesN d
def sealN (a b c d : Int) : Nat := crcN 0 (bytesOf (sealB a b c d))
def hdr (a b c d e : Int) : List Value := [.int .u32 a, .int .u32 b, .int .u32 c, .int .u32 d, .int .u32 e]
def U32 (a : Int) : Prop := 0 ≤ a ∧ a < 4294967296
def sSeal : Spec := fun args h K => match args, h with
  | [.agg ⟨[.int .u32 a, .int .u32 b, .int .u32 c, .int .u32 d, .int .u32 _]⟩], [] => U32 a ∧ U32 b ∧ U32 c ∧ U32 d ∧ ∀ x, x = ((sealN a b c d : Nat) : Int) → K (.agg ⟨[.int .u32 a, .int .u32 b, .int .u32 c, .int .u32 d, .int .u32 x]⟩) []
  | _, _ => False
def AllB (L : List Value) : Prop := List.all L (isInt .u8) = true
/-- the loop over the first four words -/
def TSl : LSpec := fun e h k => match e, h with
  | [(1, .pointer (some ⟨0, 0, some 0⟩)), (2, .pointer (some ⟨1, 0, some 0⟩)), (3, .slice none 0 0), (6, .slice (some ⟨0, 0, some 0⟩) 4 cp), (7, .int .i64 l), (8, .int .i64 i)], [.cells true [.int .u32 a, .int .u32 b, .int .u32 c, .int .u32 d, .int .u32 x] ty0 mv0, .cells true z ty mv] =>
    U32 a ∧ U32 b ∧ U32 c ∧ U32 d ∧ l = 4 ∧ i = 0 ∧ ∀ mv3 L, L = sealB a b c d → L.length = 16 → AllB L →
      k (.exit 0) [(1, .pointer (some ⟨0, 0, some 0⟩)), (2, .pointer (some ⟨1, 0, some 0⟩)), (3, .slice (some ⟨2, 0, some 0⟩) 16 2)] [.cells true [.int .u32 a, .int .u32 b, .int .u32 c, .int .u32 d, .int .u32 x] ty0 mv0, .cells true z ty mv, .cells true L 5 mv3]
  | _, _ => False
def tSl : List (Nat × Spec) := [(30, sSum)]
noncomputable def cSl : FCfg := mkG Tryd.prog G0 tSl 32 [(0, [1, 2]), (1, [1, 2, 3]), (2, [1, 2, 3, 6, 7, 8]), (3, [1, 2, 3, 6, 7, 8, 9]), (4, [1, 2, 3, 5, 6, 7, 8]), (5, [1, 2, 3, 6, 7, 8]), (6, [1, 2, 3, 6, 7, 8]), (7, [1, 2]), (8, [2])] [(3, [1, 2, 3, 6, 7, 8])] [(3, [1, 2, 3])] [(3, TSl)] [] [] 40 0
noncomputable def tSlA (H z : List Value) (ty0 ty : TypeId) (mv0 mv : Bool) (cp : Nat) (l i : Int) (k : AExit → Env → AHeap → Prop) : Prop := codeK cSl (nthLoop 0 (codeOf Tryd.f36)) [(1, .pointer (some ⟨0, 0, some 0⟩)), (2, .pointer (some ⟨1, 0, some 0⟩)), (3, .slice none 0 0), (6, .slice (some ⟨0, 0, some 0⟩) 4 cp), (7, .int .i64 l), (8, .int .i64 i)] [.cells true H ty0 mv0, .cells true z ty mv] k
noncomputable def tSlB (H z L : List Value) (ty0 ty : TypeId) (mv0 mv mv3 : Bool) (n cp : Nat) (l i : Int) (k : AExit → Env → AHeap → Prop) : Prop := codeK cSl (nthLoop 0 (codeOf Tryd.f36)) [(1, .pointer (some ⟨0, 0, some 0⟩)), (2, .pointer (some ⟨1, 0, some 0⟩)), (3, .slice (some ⟨2, 0, some 0⟩) n 2), (6, .slice (some ⟨0, 0, some 0⟩) 4 cp), (7, .int .i64 l), (8, .int .i64 i)] [.cells true H ty0 mv0, .cells true z ty mv, .cells true L 5 mv3] k
noncomputable def bSl (a b c d x : Int) (K : Value → AHeap → Prop) : Prop := bodyK cSl (codeOf Tryd.f36) Tryd.f36.results.toList [.agg ⟨[.int .u32 a, .int .u32 b, .int .u32 c, .int .u32 d, .int .u32 x]⟩] [] K
theorem bWords_eq (n : Int) (K : Value → AHeap → Prop) : bWords n K = (cond (decide ((n < (4 : Int)))) (K (Value.int IntKind.i64 (0 : Int)) []) (cond (decide ((n > (8192 : Int)))) (K (Value.int IntKind.i64 (0 : Int)) []) (∀ x1 : Int, ((x1 = (iAdd IntKind.i64 n (3 : Int))) → (∀ x2 : Int, ((x2 = (IntKind.wrap IntKind.i64 (Int.tdiv x1 (4 : Int)))) → (∀ x3 : Int, ((x3 = (iAdd IntKind.i64 (5 : Int) x2)) → (∀ x4 : Int, ((x4 = (iMul IntKind.i64 (2 : Int) x3)) → (K (Value.int IntKind.i64 x4) []))))))))))) := by
  kernel_rfl
theorem bAtA_eq (s : Sto) (m : Mem) (t : Tys) (n : Int) (K : Value → AHeap → Prop) : bAtA s m t n K = (∀ x1 : Int, ((x1 = (wordsN (Sto.size s))) → (∀ x2 : Int, ((x2 = (iMul IntKind.i64 n x1)) → (∀ x3 : Int, ((x3 = (IntKind.wrap IntKind.i64 (Int.tdiv x2 (2 : Int)))) → (∀ x4 : Int, ((x4 = (iAdd IntKind.i64 (Sto.base s) x3)) → (K (Value.int IntKind.i64 x4) (stA s m t)))))))))) := by
  kernel_rfl
theorem bAtB_eq (s : Sto) (m : Mem) (g : Stg) (t : Tys) (n : Int) (K : Value → AHeap → Prop) : bAtB s m g t n K = (∀ x1 : Int, ((x1 = (wordsN (Sto.size s))) → (∀ x2 : Int, ((x2 = (iMul IntKind.i64 n x1)) → (∀ x3 : Int, ((x3 = (IntKind.wrap IntKind.i64 (Int.tdiv x2 (2 : Int)))) → (∀ x4 : Int, ((x4 = (iAdd IntKind.i64 (Sto.base s) x3)) → (K (Value.int IntKind.i64 x4) (stB' s m g t)))))))))) := by
  kernel_rfl
theorem bNeed_eq (b : Bool) (K : AEnd → AHeap → Prop) : bNeed b K = (cond (!b) (K (AEnd.pan (Value.iface (98 : Nat) (Value.agg (Array.mk [])))) []) (K (AEnd.ret Go.undef) [])) := by
  kernel_rfl
theorem tSlA_eq (H z : List Value) (ty0 ty : TypeId) (mv0 mv : Bool) (cp : Nat) (l i : Int) (k : AExit → Env → AHeap → Prop) : tSlA H z ty0 ty mv0 mv cp l i k = (cond (decide ((i < l))) (cond ((decide (((0 : Int) ≤ i))) && (decide ((i < (4 : Int))))) (cond (decide ((((Int.toNat i) + (1 : Nat) : Nat) ≤ (List.length H)))) (cond (isInt IntKind.u32 (List.getD H (Int.toNat i) Go.undef)) (∀ x1 : Int, ((x1 = (Int.fdiv (intOf (List.getD H (Int.toNat i) Go.undef)) (16777216 : Int))) → (∀ x2 : Int, ((x2 = (IntKind.wrap IntKind.u8 x1)) → (∀ x3 : Int, ((x3 = (Int.fdiv (intOf (List.getD H (Int.toNat i) Go.undef)) (65536 : Int))) → (∀ x4 : Int, ((x4 = (IntKind.wrap IntKind.u8 x3)) → (∀ x5 : Int, ((x5 = (Int.fdiv (intOf (List.getD H (Int.toNat i) Go.undef)) (256 : Int))) → (∀ x6 : Int, ((x6 = (IntKind.wrap IntKind.u8 x5)) → (∀ x7 : Int, ((x7 = (IntKind.wrap IntKind.u8 (intOf (List.getD H (Int.toNat i) Go.undef)))) → (∀ x8 : Int, ((x8 = (iAdd IntKind.i64 i (1 : Int))) → (k AExit.normal [(Prod.mk 1 (ptr 0)), (Prod.mk 2 (ptr (1 : Nat))), (Prod.mk 3 (Value.slice (Option.some (Addr.mk (3 : Nat) 0 (Option.some 0))) (4 : Nat) (2 : Nat))), (Prod.mk 6 (Value.slice (Option.some (Addr.mk 0 0 (Option.some 0))) (4 : Nat) cp)), (Prod.mk 7 (Value.int IntKind.i64 l)), (Prod.mk 8 (Value.int IntKind.i64 x8))] [(AObj.cells Bool.true H ty0 mv0), (AObj.cells Bool.true z ty mv), (AObj.cells Bool.true [(Value.int IntKind.u8 x2), (Value.int IntKind.u8 x4), (Value.int IntKind.u8 x6), (Value.int IntKind.u8 x7)] (5 : Nat) Bool.false), (AObj.cells Bool.true [(Value.int IntKind.u8 x2), (Value.int IntKind.u8 x4), (Value.int IntKind.u8 x6), (Value.int IntKind.u8 x7)] (5 : Nat) Bool.false)]))))))))))))))))) False) False) False) (k (AExit.exit 0) [(Prod.mk 1 (ptr 0)), (Prod.mk 2 (ptr (1 : Nat))), (Prod.mk 3 (Value.slice Option.none 0 0)), (Prod.mk 6 (Value.slice (Option.some (Addr.mk 0 0 (Option.some 0))) (4 : Nat) cp)), (Prod.mk 7 (Value.int IntKind.i64 l)), (Prod.mk 8 (Value.int IntKind.i64 i)), (Prod.mk 9 (Value.bool Bool.false))] [(AObj.cells Bool.true H ty0 mv0), (AObj.cells Bool.true z ty mv)])) := by
  kernel_rfl
theorem tSlB_eq (H z L : List Value) (ty0 ty : TypeId) (mv0 mv mv3 : Bool) (n cp : Nat) (l i : Int) (k : AExit → Env → AHeap → Prop) : tSlB H z L ty0 ty mv0 mv mv3 n cp l i k = (cond (decide ((i < l))) (cond ((decide (((0 : Int) ≤ i))) && (decide ((i < (4 : Int))))) (cond (decide ((((Int.toNat i) + (1 : Nat) : Nat) ≤ (List.length H)))) (cond (isInt IntKind.u32 (List.getD H (Int.toNat i) Go.undef)) (∀ x1 : Int, ((x1 = (Int.fdiv (intOf (List.getD H (Int.toNat i) Go.undef)) (16777216 : Int))) → (∀ x2 : Int, ((x2 = (IntKind.wrap IntKind.u8 x1)) → (∀ x3 : Int, ((x3 = (Int.fdiv (intOf (List.getD H (Int.toNat i) Go.undef)) (65536 : Int))) → (∀ x4 : Int, ((x4 = (IntKind.wrap IntKind.u8 x3)) → (∀ x5 : Int, ((x5 = (Int.fdiv (intOf (List.getD H (Int.toNat i) Go.undef)) (256 : Int))) → (∀ x6 : Int, ((x6 = (IntKind.wrap IntKind.u8 x5)) → (∀ x7 : Int, ((x7 = (IntKind.wrap IntKind.u8 (intOf (List.getD H (Int.toNat i) Go.undef)))) → (cond ((decide (((0 + (n * (1 : Nat) : Nat) : Nat) ≤ (List.length L)))) && (decide ((((n + (4 : Nat) : Nat) * (1 : Nat) : Nat) ≤ (140737488355328 : Nat))))) (∀ x8 : Int, ((x8 = (iAdd IntKind.i64 i (1 : Int))) → (k AExit.normal [(Prod.mk 1 (ptr 0)), (Prod.mk 2 (ptr (1 : Nat))), (Prod.mk 3 (Value.slice (Option.some (Addr.mk (2 : Nat) 0 (Option.some 0))) (n + (4 : Nat) : Nat) (2 : Nat))), (Prod.mk 6 (Value.slice (Option.some (Addr.mk 0 0 (Option.some 0))) (4 : Nat) cp)), (Prod.mk 7 (Value.int IntKind.i64 l)), (Prod.mk 8 (Value.int IntKind.i64 x8))] [(AObj.cells Bool.true H ty0 mv0), (AObj.cells Bool.true z ty mv), (AObj.cells Bool.true (List.append (List.take (n * (1 : Nat) : Nat) (List.drop 0 L)) [(Value.int IntKind.u8 x2), (Value.int IntKind.u8 x4), (Value.int IntKind.u8 x6), (Value.int IntKind.u8 x7)]) (5 : Nat) Bool.true), (AObj.cells Bool.true [(Value.int IntKind.u8 x2), (Value.int IntKind.u8 x4), (Value.int IntKind.u8 x6), (Value.int IntKind.u8 x7)] (5 : Nat) Bool.false)]))) False))))))))))))))) False) False) False) (k (AExit.exit 0) [(Prod.mk 1 (ptr 0)), (Prod.mk 2 (ptr (1 : Nat))), (Prod.mk 3 (Value.slice (Option.some (Addr.mk (2 : Nat) 0 (Option.some 0))) n (2 : Nat))), (Prod.mk 6 (Value.slice (Option.some (Addr.mk 0 0 (Option.some 0))) (4 : Nat) cp)), (Prod.mk 7 (Value.int IntKind.i64 l)), (Prod.mk 8 (Value.int IntKind.i64 i)), (Prod.mk 9 (Value.bool Bool.false))] [(AObj.cells Bool.true H ty0 mv0), (AObj.cells Bool.true z ty mv), (AObj.cells Bool.true L (5 : Nat) mv3)])) := by
  kernel_rfl
theorem bSl_eq (a b c d x : Int) (K : Value → AHeap → Prop) : bSl a b c d x K = (∀ x1 : Int, ((x1 = (4 : Int)) → ((U32 a) ∧ ((U32 b) ∧ ((U32 c) ∧ ((U32 d) ∧ ((x1 = (4 : Int)) ∧ (((0 : Int) = (0 : Int)) ∧ (Bool → (∀ x3 : (List Go.Value), ((x3 = (sealB a b c d)) → (((List.length x3) = (16 : Nat)) → ((AllB x3) → (cond (decide (((16 : Nat) ≤ (List.length x3)))) (cond (List.all (List.take (16 : Nat) (List.drop 0 x3)) (isInt IntKind.u8)) (∀ x4 : ByteArray, ((x4 = (bytesOf (List.take (16 : Nat) (List.drop 0 x3)))) → (((ByteArray.size x4) < (4611686018427387904 : Nat)) ∧ (∀ x5 : Int, ((x5 = (((crcN 0 x4) : Nat) : Int)) → (K (Value.agg (Array.mk [(Value.int IntKind.u32 a), (Value.int IntKind.u32 b), (Value.int IntKind.u32 c), (Value.int IntKind.u32 d), (Value.int IntKind.u32 x5)])) [])))))) False) False)))))))))))))) := by
  kernel_rfl
end Go.Am.Pat

namespace Go.Am.Pat
open Go Go.Am Go.Am.Ham Go.Am.Mem Go.Proofs
set_option maxRecDepth 100000

def asSto (h : AHeap) (k : Sto → Mem → Tys → Prop) (k' : Sto → Mem → Stg → Tys → Prop) : Prop := match h with
  | [.cells false [.pointer (some ⟨1, 0, some 0⟩), .int .i64 b, .int .i64 z, .pointer none] t0 v0, .cells false [.slice (some ⟨2, 0, some 0⟩) n 2, .int .i64 safe, .int .i64 scrub, .int .i64 fuse, .bool bl, .int .i64 fx, .int .i64 lo, .int .i64 st] t1 v1, .cells true W t2 v2] =>
    k ⟨b, z⟩ ⟨W, n, safe, scrub, fuse, bl, fx, lo, st⟩ ⟨t0, t1, t2, t2, v0, v1, v2, v2⟩
  | [.cells false [.pointer (some ⟨1, 0, some 0⟩), .int .i64 b, .int .i64 z, .pointer (some ⟨3, 0, some 0⟩)] t0 v0, .cells false [.slice (some ⟨2, 0, some 0⟩) n 2, .int .i64 safe, .int .i64 scrub, .int .i64 fuse, .bool bl, .int .i64 fx, .int .i64 lo, .int .i64 st] t1 v1, .cells true W t2 v2,
      .cells true [.int .u32 id, .int .u32 sum, .int .i64 len, .int .i64 bank] t3 v3] =>
    k' ⟨b, z⟩ ⟨W, n, safe, scrub, fuse, bl, fx, lo, st⟩ ⟨id, sum, len, bank⟩ ⟨t0, t1, t2, t3, v0, v1, v2, v3⟩
  | _ => False
theorem asSto_elim {h : AHeap} {k : Sto → Mem → Tys → Prop} {k' : Sto → Mem → Stg → Tys → Prop} (hk : asSto h k k') : (∃ s m t, h = stA s m t ∧ k s m t) ∨ (∃ s m g t, h = stB' s m g t ∧ k' s m g t) := by
  unfold asSto at hk
  split at hk
  · exact Or.inl ⟨_, _, _, rfl, hk⟩
  · exact Or.inr ⟨_, _, _, _, rfl, hk⟩
  · exact hk.elim
structure OkS (s : Sto) : Prop where
  b0 : 0 ≤ s.base
  b1 : s.base ≤ 16384
  z0 : 4 ≤ s.size
  z1 : s.size ≤ 8192
def bankAt (s : Sto) (n : Int) : Int := s.base + n * (5 + (s.size + 3) / 4)

theorem okWords : SpecOk Tryd.prog G0 11 sWords :=
  spec2 mixed none_ok Tryd.func11 (by kernel_rfl : Tryd.f11.body = some (codeOf Tryd.f11)) cWords rfl rfl rfl (by kernel_rfl) (ids := []) (by kernel_rfl) trivial (by
    intro args h K hk
    unfold sWords at hk
    split at hk
    · rename_i n
      show bWords n K
      rw [bWords_eq]
      unfold wordsN at hk
      by_cases h1 : n < 4
      · rw [if_pos (Or.inl h1)] at hk
        rw [dT h1]; exact hk
      · rw [dF h1]
        by_cases h2 : n > 8192
        · rw [if_pos (Or.inr h2)] at hk
          rw [dT h2]; exact hk
        · rw [if_neg (by omega)] at hk
          rw [dF h2]
          intro x1 h1' x2 h2' x3 h3 x4 h4
          rw [iAdd_i64 (by omega) (by omega)] at h1'
          rw [h1', Int.tdiv_eq_ediv_of_nonneg (by omega), wrap_i64 (by omega) (by omega)] at h2'
          rw [iAdd_i64 (by omega) (by omega)] at h3
          rw [iMul_i64 (by omega) (by omega)] at h4
          rw [h4, h3, h2']; exact hk
    · exact hk.elim)
theorem tW_ok : AllOk Tryd.prog G0 tW := ⟨okWords, trivial⟩
def sAt : Spec := fun args h K => match args with
  | [.pointer (some ⟨0, 0, some 0⟩), .int .i64 n] => asSto h (fun s m t => OkS s ∧ 0 ≤ n ∧ n ≤ 1 ∧ ∀ x, x = bankAt s n → K (.int .i64 x) (stA s m t)) (fun s m g t => OkS s ∧ 0 ≤ n ∧ n ≤ 1 ∧ ∀ x, x = bankAt s n → K (.int .i64 x) (stB' s m g t))
  | _ => False
theorem at_eq {s : Sto} (o : OkS s) {n x1 x2 x3 x4 : Int} (n0 : 0 ≤ n) (n1 : n ≤ 1) (h1 : x1 = wordsN s.size) (h2 : x2 = iMul .i64 n x1) (h3 : x3 = IntKind.wrap .i64 (Int.tdiv x2 2)) (h4 : x4 = iAdd .i64 s.base x3) : x4 = bankAt s n := by
  have := o.b0; have := o.b1; have := o.z0; have := o.z1
  unfold bankAt
  unfold wordsN at h1
  rw [if_neg (by omega)] at h1
  rcases (by omega : n = 0 ∨ n = 1) with e | e
  · subst e
    rw [iMul_i64 (by omega) (by omega)] at h2
    rw [h2, Int.zero_mul, show Int.tdiv 0 2 = 0 from rfl, wrap_i64 (by omega) (by omega)] at h3
    rw [iAdd_i64 (by omega) (by omega)] at h4
    rw [h4, h3]; omega
  · subst e
    rw [iMul_i64 (by omega) (by omega)] at h2
    rw [Int.tdiv_eq_ediv_of_nonneg (by omega), wrap_i64 (by omega) (by omega)] at h3
    rw [iAdd_i64 (by omega) (by omega)] at h4
    rw [h4, h3, h2, h1]; omega
theorem okAt : SpecOk Tryd.prog G0 33 sAt :=
  spec2 mixed tW_ok Tryd.func33 (by kernel_rfl : Tryd.f33.body = some (codeOf Tryd.f33)) cAt rfl rfl rfl (by kernel_rfl) (ids := []) (by kernel_rfl) trivial (by
    intro args h K hk
    unfold sAt at hk
    split at hk
    · rename_i n
      rcases asSto_elim hk with ⟨s, m, t, rfl, o, n0, n1, hk⟩ | ⟨s, m, g, t, rfl, o, n0, n1, hk⟩
      · show bAtA s m t n K
        rw [bAtA_eq]
        intro x1 h1 x2 h2 x3 h3 x4 h4
        exact hk x4 (at_eq o n0 n1 h1 h2 h3 h4)
      · show bAtB s m g t n K
        rw [bAtB_eq]
        intro x1 h1 x2 h2 x3 h3 x4 h4
        exact hk x4 (at_eq o n0 n1 h1 h2 h3 h4)
    · exact hk.elim)

def invV : Value := .iface 98 (.agg ⟨[]⟩)
def sNeed : PSpec := fun args h K => match args, h with
  | [.bool b], [] => (b = true → K (.ret undef) []) ∧ (b = false → K (.pan (.iface 98 (.agg ⟨[]⟩))) [])
  | _, _ => False
theorem nil_all : AllPOk Tryd.prog G0 [] := trivial
theorem okNeed : PSpecOk Tryd.prog G0 59 sNeed :=
  spec2P mixed none_ok nil_all Tryd.func59 (by kernel_rfl : Tryd.f59.body = some (codeOf Tryd.f59)) cNeed rfl rfl rfl rfl (by kernel_rfl) (ids := []) (by kernel_rfl) trivial (by
    intro args h K hk
    unfold sNeed at hk
    split at hk
    · rename_i b
      show bNeed b K
      rw [bNeed_eq]
      cases b
      · exact hk.2 rfl
      · exact hk.1 rfl
    · exact hk.elim)

end Go.Am.Pat

namespace Go.Am.Pat
open Go Go.Am Go.Am.Ham Go.Am.Mem Go.Proofs
set_option maxRecDepth 100000

/-! ### seal -/
/-- The four words' bytes, up to the i-th. -/
def partB (a b c d : Int) : Nat → List Value
  | 0 => []
  | 1 => bytesN a
  | 2 => bytesN a ++ bytesN b
  | 3 => bytesN a ++ bytesN b ++ bytesN c
  | _ => sealB a b c d
theorem getH {a b c d x : Int} {i : Nat} (hi : i < 4) : ∃ w, (hdr a b c d x).getD i undef = .int .u32 w ∧ (U32 a → U32 b → U32 c → U32 d → U32 w) ∧ partB a b c d i ++ bytesN w = partB a b c d (i + 1) := by
  rcases (by omega : i = 0 ∨ i = 1 ∨ i = 2 ∨ i = 3) with rfl | rfl | rfl | rfl
  · exact ⟨a, rfl, fun h _ _ _ => h, rfl⟩
  · exact ⟨b, rfl, fun _ h _ _ => h, rfl⟩
  · exact ⟨c, rfl, fun _ _ h _ => h, rfl⟩
  · exact ⟨d, rfl, fun _ _ _ h => h, rfl⟩
theorem partB_len (a b c d : Int) {i : Nat} (hi : i ≤ 4) : (partB a b c d i).length = 4 * i := by
  rcases (by omega : i = 0 ∨ i = 1 ∨ i = 2 ∨ i = 3 ∨ i = 4) with rfl | rfl | rfl | rfl | rfl <;> rfl
theorem bytesN_int (w : Int) : ∀ v ∈ bytesN w, isInt .u8 v = true := by
  intro v h
  unfold bytesN bytes4 at h
  simp only [List.mem_cons, List.not_mem_nil, or_false] at h
  rcases h with rfl | rfl | rfl | rfl <;> rfl
theorem sealB_all (a b c d : Int) : AllB (sealB a b c d) := by
  unfold AllB sealB
  refine List.all_eq_true.2 fun v hv => ?_
  rw [List.mem_append, List.mem_append, List.mem_append] at hv
  rcases hv with ((h | h) | h) | h <;> exact bytesN_int _ v h
theorem bytesN_eq {w : Int} (hw : U32 w) {x1 x2 x3 x4 x5 x6 x7 : Int} (h1 : x1 = Int.fdiv w 16777216) (h2 : x2 = IntKind.wrap .u8 x1) (h3 : x3 = Int.fdiv w 65536) (h4 : x4 = IntKind.wrap .u8 x3) (h5 : x5 = Int.fdiv w 256) (h6 : x6 = IntKind.wrap .u8 x5) (h7 : x7 = IntKind.wrap .u8 w) :
    [Value.int .u8 x2, Value.int .u8 x4, Value.int .u8 x6, Value.int .u8 x7] = bytesN w := by
  have h0 := hw.1; have hl := hw.2
  exact byte_eq (w := w.toNat) (x2 := w) (by omega) (by omega) h1 h2 h3 h4 h5 h6 h7
theorem loopSl : ∀ e h k, TSl e h k → ∃ m, loopN cSl (codeOf Tryd.f36) 0 3 m e h k := by
  intro e h k hT
  unfold TSl at hT
  split at hT
  · rename_i cp l i a b c d x ty0 mv0 z ty mv
    obtain ⟨ua, ub, uc, ud, hl4, hi0, hk⟩ := hT
    refine ⟨4 + 1, ?_⟩
    have key : ∀ (n i : Nat) (mv3 : Bool), i + n = 4 → 0 < i → loopN cSl (codeOf Tryd.f36) 0 3 (n + 1) [(1, .pointer (some ⟨0, 0, some 0⟩)), (2, .pointer (some ⟨1, 0, some 0⟩)), (3, .slice (some ⟨2, 0, some 0⟩) (4 * i) 2), (6, .slice (some ⟨0, 0, some 0⟩) 4 cp), (7, .int .i64 l), (8, .int .i64 ((i : Nat) : Int))]
        [.cells true (hdr a b c d x) ty0 mv0, .cells true z ty mv, .cells true (partB a b c d i) 5 mv3] k := by
      intro n
      induction n with
      | zero =>
        intro i mv3 hi h0
        obtain rfl : i = 4 := by omega
        rw [loopN_succ]
        show tSlB (hdr a b c d x) z (partB a b c d 4) ty0 ty mv0 mv mv3 (4 * 4) cp l ((4 : Nat) : Int) _
        rw [tSlB_eq, dF (by omega)]
        exact hk mv3 _ rfl rfl (sealB_all a b c d)
      | succ n ih =>
        intro i mv3 hi h0
        rw [loopN_succ]
        show tSlB (hdr a b c d x) z (partB a b c d i) ty0 ty mv0 mv mv3 (4 * i) cp l ((i : Nat) : Int) _
        obtain ⟨w, hw, hu, hp⟩ := getH (a := a) (b := b) (c := c) (d := d) (x := x) (show i < 4 by omega)
        have hl := partB_len a b c d (show i ≤ 4 by omega)
        rw [tSlB_eq, dT (by omega), dT2 (by omega) (by omega), Int.toNat_natCast, dT (by show i + 1 ≤ 5; omega), hw, isInt_u32, cond_true]
        intro x1 h1 x2 h2 x3 h3 x4 h4 x5 h5 x6 h6 x7 h7
        rw [bytesN_eq (hu ua ub uc ud) h1 h2 h3 h4 h5 h6 h7]
        rw [decide_eq_true (show 0 + 4 * i * 1 ≤ (partB a b c d i).length by omega), decide_eq_true (show (4 * i + 4) * 1 ≤ 140737488355328 by omega)]
        intro x8 h8
        rw [iAdd_i64 (by omega) (by omega)] at h8
        obtain rfl : x8 = ((i + 1 : Nat) : Int) := by omega
        have hn := ih (i + 1) true (by omega) (by omega)
        rw [loopN_succ] at hn
        replace hn : tSlB (hdr a b c d x) z (partB a b c d (i + 1)) ty0 ty mv0 mv true (4 * (i + 1)) cp l ((i + 1 : Nat) : Int) _ := hn
        show loopN cSl (codeOf Tryd.f36) 0 3 (n + 1) _ _ k
        rw [loopN_succ]
        rw [take_all _ hl, show List.append (partB a b c d i) (bytesN w) = partB a b c d (i + 1) from hp]
        show tSlB (hdr a b c d x) z (partB a b c d (i + 1)) ty0 ty mv0 mv true (4 * i + 4) cp l ((i + 1 : Nat) : Int) _
        exact hn
    rw [loopN_succ]
    show tSlA (hdr a b c d x) z ty0 ty mv0 mv cp l i _
    have e0 : Int.toNat i = 0 := by omega
    rw [tSlA_eq, dT (by omega), dT2 (by omega) (by omega), e0, dT (by show 0 + 1 ≤ 5; omega)]
    rw [show (hdr a b c d x).getD 0 undef = .int .u32 a from rfl, isInt_u32, cond_true]
    intro x1 h1 x2 h2 x3 h3 x4 h4 x5 h5 x6 h6 x7 h7 x8 h8
    rw [bytesN_eq ua h1 h2 h3 h4 h5 h6 h7]
    rw [iAdd_i64 (by omega) (by omega)] at h8
    obtain rfl : x8 = ((1 : Nat) : Int) := by omega
    have hn := key 3 1 false rfl (by omega)
    rw [loopN_succ] at hn
    replace hn : tSlB (hdr a b c d x) z (partB a b c d 1) ty0 ty mv0 mv false (4 * 1) cp l ((1 : Nat) : Int) _ := hn
    show loopN cSl (codeOf Tryd.f36) 0 3 (3 + 1) _ _ k
    rw [loopN_succ]
    show tSlB (hdr a b c d x) z (bytesN a) ty0 ty mv0 mv false 4 cp l ((1 : Nat) : Int) _
    exact hn
  · exact hT.elim
theorem tSl_ok : AllOk Tryd.prog G0 tSl := ⟨okSum, trivial⟩
theorem sealB_len (a b c d : Int) : (sealB a b c d).length = 16 := rfl
theorem okSeal : SpecOk Tryd.prog G0 36 sSeal :=
  spec2 mixed tSl_ok Tryd.func36 (by kernel_rfl : Tryd.f36.body = some (codeOf Tryd.f36)) cSl rfl rfl rfl (by kernel_rfl) (ids := [3]) (by kernel_rfl) ⟨by intro e h k hT; exact loopSl e h k hT, trivial⟩ (by
    intro args h K hk
    unfold sSeal at hk
    split at hk
    · rename_i a b c d x
      obtain ⟨ua, ub, uc, ud, hk⟩ := hk
      show bSl a b c d x K
      rw [bSl_eq]
      intro x1 h1
      refine ⟨ua, ub, uc, ud, h1, rfl, fun _ L hL hl ha => ?_⟩
      have e16 : List.take 16 (List.drop 0 L) = L := by rw [List.drop_zero, List.take_of_length_le (by omega)]
      rw [dT (by omega), e16, show List.all L (isInt .u8) = true from ha, cond_true]
      intro x4 h4
      refine ⟨?_, fun x5 h5 => hk x5 ?_⟩
      · rw [h4]
        show (L.map _).length < _
        rw [List.length_map]; omega
      · rw [h5, h4, hL]; rfl
    · exact hk.elim)
end Go.Am.Pat

namespace Go.Am.Pat
open Go Go.Am Go.Am.Ham Go.Am.Mem Go.Proofs
set_option maxRecDepth 100000

/-- The words that are read, one after the other. -/
def rdW : Nat → Mem → Nat → List Int
  | 0, _, _ => []
  | k + 1, m, a => (((decN (wordAt m a)).1 : Nat) : Int) :: rdW k (readF m a) (a + 1)
def bankC (n : Int) (l : List Value) (s : ByteArray) : List Value := .int .i64 n :: (l ++ [.string s])
def noB : ByteArray := ⟨⟨[]⟩⟩
/-- heaps of read: the store, what is returned, what is read -/
def rdA (s : Sto) (m : Mem) (t : Tys) (z L : List Value) (tz tl : TypeId) (vz vl : Bool) : AHeap := [.cells false [.pointer (some ⟨1, 0, some 0⟩), .int .i64 s.base, .int .i64 s.size, .pointer none] t.t0 t.v0, .cells false (mP 2 m) t.t1 t.v1, .cells true m.W t.t2 t.v2, .cells true z tz vz, .cells true L tl vl]
def rdB (s : Sto) (m : Mem) (g : Stg) (t : Tys) (z L : List Value) (tz tl : TypeId) (vz vl : Bool) : AHeap := [.cells false [.pointer (some ⟨1, 0, some 0⟩), .int .i64 s.base, .int .i64 s.size, .pointer (some ⟨3, 0, some 0⟩)] t.t0 t.v0, .cells false (mP 2 m) t.t1 t.v1, .cells true m.W t.t2 t.v2,
  .cells true [.int .u32 g.id, .int .u32 g.sum, .int .i64 g.len, .int .i64 g.bank] t.t3 t.v3, .cells true z tz vz, .cells true L tl vl]
def tRd : List (Nat × Spec) := [(33, sAt), (58, sReadX), (34, sRB), (36, sSeal), (30, sSum)]
def pRd : List (Nat × PSpec) := [(59, sNeed)]
def hd5 (w : List Int) : List Value := w.map (.int .u32 ·)
def wN (w : List Int) (i : Nat) : Int := w.getD i 0
def TRdA : LSpec := fun e h k => match e, h with
  | [(0, .pointer (some ⟨0, 0, some 0⟩)), (4, .pointer (some ⟨3, 0, some 0⟩)), (5, .int .i64 a), (6, .pointer (some ⟨4, 0, some 0⟩)), (18, .int .i64 i)],
    [.cells false [.pointer (some ⟨1, 0, some 0⟩), .int .i64 b, .int .i64 sz, .pointer none] t0 v0, .cells false [.slice (some ⟨2, 0, some 0⟩) n 2, .int .i64 safe, .int .i64 scrub, .int .i64 fuse, .bool bl, .int .i64 fx, .int .i64 lo, .int .i64 st] t1 v1, .cells true W t2 v2, .cells true z tz vz,
      .cells true [.int .i64 num, .int .u32 0, .int .u32 0, .int .u32 0, .int .u32 0, .int .u32 0, .string q] tl vl] =>
    i = 0 ∧ OkM ⟨W, n, safe, scrub, fuse, bl, fx, lo, st⟩ ∧ 0 ≤ a ∧ a + 5 ≤ n ∧ ∀ m0 m', m0 = Mem.mk W n safe scrub fuse bl fx lo st → m' = rbM 5 m0 a.toNat →
      (rbLost 5 m0 a.toNat = true → ∀ e L, k (.panic (.iface 98 (.agg ⟨[]⟩))) e (rdA ⟨b, sz⟩ m' ⟨t0, t1, t2, t2, v0, v1, v2, v2⟩ z L tz tl vz vl)) ∧
      (rbLost 5 m0 a.toNat = false → ∀ w, w = rdW 5 m0 a.toNat → k (.exit 0) [(0, .pointer (some ⟨0, 0, some 0⟩)), (4, .pointer (some ⟨3, 0, some 0⟩)), (5, .int .i64 a), (6, .pointer (some ⟨4, 0, some 0⟩))]
        (rdA ⟨b, sz⟩ m' ⟨t0, t1, t2, t2, v0, v1, v2, v2⟩ z [.int .i64 num, .int .u32 (wN w 0), .int .u32 (wN w 1), .int .u32 (wN w 2), .int .u32 (wN w 3), .int .u32 (wN w 4), .string q] tz tl vz vl))
  | _, _ => False
noncomputable def cRdA : FCfg := { mkG Tryd.prog G0 tRd 93 [(0, [0, 1, 4]), (1, [0, 1, 4, 5]), (2, [0, 4, 5, 6]), (3, [0, 4, 5, 6, 18]), (4, [0, 4, 5, 6, 18, 19]), (5, [0, 4, 5, 6, 7, 18]), (6, [0, 4, 5, 6, 7, 8, 10, 18]), (7, [0, 4, 5, 6, 7, 8, 18]), (8, [0, 4, 5, 6, 18]), (9, [0, 4, 5, 6, 18]), (10, [0, 4, 5, 6]), (11, [4, 6, 11, 12]), (12, [4, 6, 11]), (13, [4, 6]), (14, [4])] [(4, [0, 4, 5, 6, 18])] [(4, [0, 4, 5, 6])] [(4, TRdA)] [] [] 40 3 with hold := lookL [(10, [0, 4]), (11, [0, 4]), (12, [4])], PC := tabP pRd }
noncomputable def tRdA (s : Sto) (m : Mem) (t : Tys) (z L : List Value) (tz tl : TypeId) (vz vl : Bool) (a i : Int) (k : AExit → Env → AHeap → Prop) : Prop := codeK cRdA (nthLoop 0 (codeOf Tryd.f53)) [(0, ptr 0), (4, ptr 3), (5, .int .i64 a), (6, ptr 4), (18, .int .i64 i)] (rdA s m t z L tz tl vz vl) k
noncomputable def bRdA (s : Sto) (m : Mem) (t : Tys) (n : Int) (K : AEnd → AHeap → Prop) : Prop := bodyKP cRdA (codeOf Tryd.f53) Tryd.f53.results.toList [ptr 0, .int .i64 n] (stA s m t) K
theorem tRdA_eq (s : Sto) (m : Mem) (t : Tys) (z L : List Value) (tz tl : TypeId) (vz vl : Bool) (a i : Int) (k : AExit → Env → AHeap → Prop) : tRdA s m t z L tz tl vz vl a i k = (cond (decide ((i < (5 : Int)))) (∀ x1 : Int, ((x1 = (iAdd IntKind.i64 a i)) → ((Mem.OkM m) ∧ (∀ x2 : Mem.Mem, ((x2 = (Mem.readS m x1)) → (∀ x3 : Int, ((x3 = ((((Mem.readR m x1)).fst : Nat) : Int)) → (∀ x4 : Int, ((x4 = (((((Mem.readR m x1)).snd).fst : Nat) : Int)) → (∀ x5 : Int, ((x5 = (((((Mem.readR m x1)).snd).snd : Nat) : Int)) → ((((decide ((x5 = (0 : Int)))) = Bool.true) → (cond ((decide (((0 : Int) ≤ i))) && (decide ((i < (5 : Int))))) (cond (decide (((((1 : Nat) + (Int.toNat i) : Nat) + (1 : Nat) : Nat) ≤ (List.length L)))) (∀ x6 : Int, ((x6 = (iAdd IntKind.i64 i (1 : Int))) → (k AExit.normal [(Prod.mk 0 (ptr 0)), (Prod.mk 4 (ptr (3 : Nat))), (Prod.mk 5 (Value.int IntKind.i64 a)), (Prod.mk 6 (ptr (4 : Nat))), (Prod.mk 18 (Value.int IntKind.i64 x6))] (rdA s x2 t z (List.set L ((1 : Nat) + (Int.toNat i) : Nat) (Value.int IntKind.u32 x3)) tz tl vz vl)))) False) False)) ∧ (((decide ((x5 = (0 : Int)))) = Bool.false) → (k (AExit.panic (Value.iface (98 : Nat) (Value.agg (Array.mk [])))) [(Prod.mk 0 (ptr 0)), (Prod.mk 4 (ptr (3 : Nat))), (Prod.mk 5 (Value.int IntKind.i64 a)), (Prod.mk 6 (ptr (4 : Nat))), (Prod.mk 7 (Value.int IntKind.i64 i)), (Prod.mk 8 (Value.int IntKind.u32 x3)), (Prod.mk 10 (Value.int IntKind.i64 x5)), (Prod.mk 18 (Value.int IntKind.i64 i)), (Prod.mk 33 (Value.int IntKind.i64 x5)), (Prod.mk 34 (Value.bool (decide ((x5 = (0 : Int))))))] (rdA s x2 t z L tz tl vz vl))))))))))))))) (k (AExit.exit 0) [(Prod.mk 0 (ptr 0)), (Prod.mk 4 (ptr (3 : Nat))), (Prod.mk 5 (Value.int IntKind.i64 a)), (Prod.mk 6 (ptr (4 : Nat))), (Prod.mk 18 (Value.int IntKind.i64 i)), (Prod.mk 19 (Value.bool Bool.false))] (rdA s m t z L tz tl vz vl))) := by
  kernel_rfl
theorem bRdA_eq (s : Sto) (m : Mem) (t : Tys) (n : Int) (K : AEnd → AHeap → Prop) : bRdA s m t n K = ((OkS s) ∧ (((0 : Int) ≤ n) ∧ ((n ≤ (1 : Int)) ∧ (∀ x1 : Int, ((x1 = (bankAt s n)) → (∀ x2 : Int, ((x2 = x1) → (((0 : Int) = (0 : Int)) ∧ ((Mem.OkM m) ∧ (((0 : Int) ≤ x2) ∧ (((x2 + (5 : Int) : Int) ≤ (((Mem.Mem.n m) : Nat) : Int)) ∧ (∀ x3 : Mem.Mem, (∀ x4 : Mem.Mem, ((x3 = m) → ((x4 = (Mem.rbM (5 : Nat) x3 (Int.toNat x2))) → ((((Mem.rbLost (5 : Nat) x3 (Int.toNat x2)) = Bool.true) → (Env → ((List Go.Value) → (K (AEnd.pan (Value.iface (98 : Nat) (Value.agg (Array.mk [])))) (stA s x4 t))))) ∧ (((Mem.rbLost (5 : Nat) x3 (Int.toNat x2)) = Bool.false) → (∀ x7 : (List Int), ((x7 = (rdW (5 : Nat) x3 (Int.toNat x2))) → (cond (decide (((wN x7 0) > (0 : Int)))) (∀ x14 : Int, ((x14 = (IntKind.wrap IntKind.i64 (wN x7 (2 : Nat)))) → (cond (decide ((x14 ≤ (Sto.size s)))) ((U32 (wN x7 0)) ∧ ((U32 (wN x7 (1 : Nat))) ∧ ((U32 (wN x7 (2 : Nat))) ∧ ((U32 (wN x7 (3 : Nat))) ∧ (∀ x21 : Int, ((x21 = (((sealN (wN x7 0) (wN x7 (1 : Nat)) (wN x7 (2 : Nat)) (wN x7 (3 : Nat))) : Nat) : Int)) → (((((decide (((wN x7 0) = (wN x7 0)))) && ((decide (((wN x7 (1 : Nat)) = (wN x7 (1 : Nat))))) && ((decide (((wN x7 (2 : Nat)) = (wN x7 (2 : Nat))))) && ((decide (((wN x7 (3 : Nat)) = (wN x7 (3 : Nat))))) && ((decide (((wN x7 (4 : Nat)) = x21))) && Bool.true))))) = Bool.true) → (∀ x22 : Int, ((x22 = (iAdd IntKind.i64 x2 (5 : Int))) → (∀ x23 : Int, ((x23 = (IntKind.wrap IntKind.i64 (wN x7 (2 : Nat)))) → ((Mem.OkM x4) ∧ (∀ x24 : Mem.Mem, ((x24 = (Mem.rbS x4 x22 x23)) → (∀ x25 : ByteArray, ((x25 = ((Mem.rbRes x4 x22 x23)).fst) → (∀ x26 : Int, ((x26 = ((((Mem.rbRes x4 x22 x23)).snd : Nat) : Int)) → (cond (decide ((x26 = (0 : Int)))) (((ByteArray.size x25) < (4611686018427387904 : Nat)) ∧ (∀ x27 : Int, ((x27 = (((crcN 0 x25) : Nat) : Int)) → ((((decide ((x27 = (wN x7 (3 : Nat))))) = Bool.true) → (K (AEnd.ret (Value.agg (Array.mk [(Value.int IntKind.i64 n), (Value.int IntKind.u32 (wN x7 0)), (Value.int IntKind.u32 (wN x7 (1 : Nat))), (Value.int IntKind.u32 (wN x7 (2 : Nat))), (Value.int IntKind.u32 (wN x7 (3 : Nat))), (Value.int IntKind.u32 (wN x7 (4 : Nat))), (Value.string x25)]))) (stA s x24 t))) ∧ (((decide ((x27 = (wN x7 (3 : Nat))))) = Bool.false) → (K (AEnd.pan (Value.iface (98 : Nat) (Value.agg (Array.mk [])))) (stA s x24 t))))))) (((Bool.false = Bool.true) → (K (AEnd.ret (Value.agg (Array.mk [(Value.int IntKind.i64 n), (Value.int IntKind.u32 (wN x7 0)), (Value.int IntKind.u32 (wN x7 (1 : Nat))), (Value.int IntKind.u32 (wN x7 (2 : Nat))), (Value.int IntKind.u32 (wN x7 (3 : Nat))), (Value.int IntKind.u32 (wN x7 (4 : Nat))), (Value.string x25)]))) (stA s x24 t))) ∧ ((Bool.false = Bool.false) → (K (AEnd.pan (Value.iface (98 : Nat) (Value.agg (Array.mk [])))) (stA s x24 t))))))))))))))))) ∧ ((((decide (((wN x7 0) = (wN x7 0)))) && ((decide (((wN x7 (1 : Nat)) = (wN x7 (1 : Nat))))) && ((decide (((wN x7 (2 : Nat)) = (wN x7 (2 : Nat))))) && ((decide (((wN x7 (3 : Nat)) = (wN x7 (3 : Nat))))) && ((decide (((wN x7 (4 : Nat)) = x21))) && Bool.true))))) = Bool.false) → (K (AEnd.pan (Value.iface (98 : Nat) (Value.agg (Array.mk [])))) (stA s x4 t)))))))))) (((Bool.false = Bool.true) → (∀ x15 : Int, ((x15 = (iAdd IntKind.i64 x2 (5 : Int))) → (∀ x16 : Int, ((x16 = (IntKind.wrap IntKind.i64 (wN x7 (2 : Nat)))) → ((Mem.OkM x4) ∧ (∀ x17 : Mem.Mem, ((x17 = (Mem.rbS x4 x15 x16)) → (∀ x18 : ByteArray, ((x18 = ((Mem.rbRes x4 x15 x16)).fst) → (∀ x19 : Int, ((x19 = ((((Mem.rbRes x4 x15 x16)).snd : Nat) : Int)) → (cond (decide ((x19 = (0 : Int)))) (((ByteArray.size x18) < (4611686018427387904 : Nat)) ∧ (∀ x20 : Int, ((x20 = (((crcN 0 x18) : Nat) : Int)) → ((((decide ((x20 = (wN x7 (3 : Nat))))) = Bool.true) → (K (AEnd.ret (Value.agg (Array.mk [(Value.int IntKind.i64 n), (Value.int IntKind.u32 (wN x7 0)), (Value.int IntKind.u32 (wN x7 (1 : Nat))), (Value.int IntKind.u32 (wN x7 (2 : Nat))), (Value.int IntKind.u32 (wN x7 (3 : Nat))), (Value.int IntKind.u32 (wN x7 (4 : Nat))), (Value.string x18)]))) (stA s x17 t))) ∧ (((decide ((x20 = (wN x7 (3 : Nat))))) = Bool.false) → (K (AEnd.pan (Value.iface (98 : Nat) (Value.agg (Array.mk [])))) (stA s x17 t))))))) (((Bool.false = Bool.true) → (K (AEnd.ret (Value.agg (Array.mk [(Value.int IntKind.i64 n), (Value.int IntKind.u32 (wN x7 0)), (Value.int IntKind.u32 (wN x7 (1 : Nat))), (Value.int IntKind.u32 (wN x7 (2 : Nat))), (Value.int IntKind.u32 (wN x7 (3 : Nat))), (Value.int IntKind.u32 (wN x7 (4 : Nat))), (Value.string x18)]))) (stA s x17 t))) ∧ ((Bool.false = Bool.false) → (K (AEnd.pan (Value.iface (98 : Nat) (Value.agg (Array.mk [])))) (stA s x17 t))))))))))))))))) ∧ ((Bool.false = Bool.false) → (K (AEnd.pan (Value.iface (98 : Nat) (Value.agg (Array.mk [])))) (stA s x4 t))))))) (((Bool.false = Bool.true) → (∀ x8 : Int, ((x8 = (iAdd IntKind.i64 x2 (5 : Int))) → (∀ x9 : Int, ((x9 = (IntKind.wrap IntKind.i64 (wN x7 (2 : Nat)))) → ((Mem.OkM x4) ∧ (∀ x10 : Mem.Mem, ((x10 = (Mem.rbS x4 x8 x9)) → (∀ x11 : ByteArray, ((x11 = ((Mem.rbRes x4 x8 x9)).fst) → (∀ x12 : Int, ((x12 = ((((Mem.rbRes x4 x8 x9)).snd : Nat) : Int)) → (cond (decide ((x12 = (0 : Int)))) (((ByteArray.size x11) < (4611686018427387904 : Nat)) ∧ (∀ x13 : Int, ((x13 = (((crcN 0 x11) : Nat) : Int)) → ((((decide ((x13 = (wN x7 (3 : Nat))))) = Bool.true) → (K (AEnd.ret (Value.agg (Array.mk [(Value.int IntKind.i64 n), (Value.int IntKind.u32 (wN x7 0)), (Value.int IntKind.u32 (wN x7 (1 : Nat))), (Value.int IntKind.u32 (wN x7 (2 : Nat))), (Value.int IntKind.u32 (wN x7 (3 : Nat))), (Value.int IntKind.u32 (wN x7 (4 : Nat))), (Value.string x11)]))) (stA s x10 t))) ∧ (((decide ((x13 = (wN x7 (3 : Nat))))) = Bool.false) → (K (AEnd.pan (Value.iface (98 : Nat) (Value.agg (Array.mk [])))) (stA s x10 t))))))) (((Bool.false = Bool.true) → (K (AEnd.ret (Value.agg (Array.mk [(Value.int IntKind.i64 n), (Value.int IntKind.u32 (wN x7 0)), (Value.int IntKind.u32 (wN x7 (1 : Nat))), (Value.int IntKind.u32 (wN x7 (2 : Nat))), (Value.int IntKind.u32 (wN x7 (3 : Nat))), (Value.int IntKind.u32 (wN x7 (4 : Nat))), (Value.string x11)]))) (stA s x10 t))) ∧ ((Bool.false = Bool.false) → (K (AEnd.pan (Value.iface (98 : Nat) (Value.agg (Array.mk [])))) (stA s x10 t))))))))))))))))) ∧ ((Bool.false = Bool.false) → (K (AEnd.pan (Value.iface (98 : Nat) (Value.agg (Array.mk [])))) (stA s x4 t)))))))))))))))))))))))) := by
  kernel_rfl
end Go.Am.Pat

namespace Go.Am.Pat
open Go Go.Am Go.Am.Ham Go.Am.Mem Go.Proofs
set_option maxRecDepth 100000

def TRdB : LSpec := fun e h k => match e, h with
  | [(0, .pointer (some ⟨0, 0, some 0⟩)), (4, .pointer (some ⟨4, 0, some 0⟩)), (5, .int .i64 a), (6, .pointer (some ⟨5, 0, some 0⟩)), (18, .int .i64 i)],
    [.cells false [.pointer (some ⟨1, 0, some 0⟩), .int .i64 b, .int .i64 sz, .pointer (some ⟨3, 0, some 0⟩)] t0 v0, .cells false [.slice (some ⟨2, 0, some 0⟩) n 2, .int .i64 safe, .int .i64 scrub, .int .i64 fuse, .bool bl, .int .i64 fx, .int .i64 lo, .int .i64 st] t1 v1, .cells true W t2 v2, .cells true [.int .u32 gid, .int .u32 gsum, .int .i64 glen, .int .i64 gbank] t3 v3, .cells true z tz vz,
      .cells true [.int .i64 num, .int .u32 0, .int .u32 0, .int .u32 0, .int .u32 0, .int .u32 0, .string q] tl vl] =>
    i = 0 ∧ OkM ⟨W, n, safe, scrub, fuse, bl, fx, lo, st⟩ ∧ 0 ≤ a ∧ a + 5 ≤ n ∧ ∀ m0 m', m0 = Mem.mk W n safe scrub fuse bl fx lo st → m' = rbM 5 m0 a.toNat →
      (rbLost 5 m0 a.toNat = true → ∀ e L, k (.panic (.iface 98 (.agg ⟨[]⟩))) e (rdB ⟨b, sz⟩ m' ⟨gid, gsum, glen, gbank⟩ ⟨t0, t1, t2, t3, v0, v1, v2, v3⟩ z L tz tl vz vl)) ∧
      (rbLost 5 m0 a.toNat = false → ∀ w, w = rdW 5 m0 a.toNat → k (.exit 0) [(0, .pointer (some ⟨0, 0, some 0⟩)), (4, .pointer (some ⟨4, 0, some 0⟩)), (5, .int .i64 a), (6, .pointer (some ⟨5, 0, some 0⟩))]
        (rdB ⟨b, sz⟩ m' ⟨gid, gsum, glen, gbank⟩ ⟨t0, t1, t2, t3, v0, v1, v2, v3⟩ z [.int .i64 num, .int .u32 (wN w 0), .int .u32 (wN w 1), .int .u32 (wN w 2), .int .u32 (wN w 3), .int .u32 (wN w 4), .string q] tz tl vz vl))
  | _, _ => False
noncomputable def cRdB : FCfg := { mkG Tryd.prog G0 tRd 93 [(0, [0, 1, 4]), (1, [0, 1, 4, 5]), (2, [0, 4, 5, 6]), (3, [0, 4, 5, 6, 18]), (4, [0, 4, 5, 6, 18, 19]), (5, [0, 4, 5, 6, 7, 18]), (6, [0, 4, 5, 6, 7, 8, 10, 18]), (7, [0, 4, 5, 6, 7, 8, 18]), (8, [0, 4, 5, 6, 18]), (9, [0, 4, 5, 6, 18]), (10, [0, 4, 5, 6]), (11, [4, 6, 11, 12]), (12, [4, 6, 11]), (13, [4, 6]), (14, [4])] [(4, [0, 4, 5, 6, 18])] [(4, [0, 4, 5, 6])] [(4, TRdB)] [] [] 40 4 with hold := lookL [(10, [0, 5]), (11, [0, 5]), (12, [5])], PC := tabP pRd }
noncomputable def tRdB (s : Sto) (m : Mem) (g : Stg) (t : Tys) (z L : List Value) (tz tl : TypeId) (vz vl : Bool) (a i : Int) (k : AExit → Env → AHeap → Prop) : Prop := codeK cRdB (nthLoop 0 (codeOf Tryd.f53)) [(0, ptr 0), (4, ptr 4), (5, .int .i64 a), (6, ptr 5), (18, .int .i64 i)] (rdB s m g t z L tz tl vz vl) k
noncomputable def bRdB (s : Sto) (m : Mem) (g : Stg) (t : Tys) (n : Int) (K : AEnd → AHeap → Prop) : Prop := bodyKP cRdB (codeOf Tryd.f53) Tryd.f53.results.toList [ptr 0, .int .i64 n] (stB' s m g t) K
theorem tRdB_eq (s : Sto) (m : Mem) (g : Stg) (t : Tys) (z L : List Value) (tz tl : TypeId) (vz vl : Bool) (a i : Int) (k : AExit → Env → AHeap → Prop) : tRdB s m g t z L tz tl vz vl a i k = (cond (decide ((i < (5 : Int)))) (∀ x1 : Int, ((x1 = (iAdd IntKind.i64 a i)) → ((Mem.OkM m) ∧ (∀ x2 : Mem.Mem, ((x2 = (Mem.readS m x1)) → (∀ x3 : Int, ((x3 = ((((Mem.readR m x1)).fst : Nat) : Int)) → (∀ x4 : Int, ((x4 = (((((Mem.readR m x1)).snd).fst : Nat) : Int)) → (∀ x5 : Int, ((x5 = (((((Mem.readR m x1)).snd).snd : Nat) : Int)) → ((((decide ((x5 = (0 : Int)))) = Bool.true) → (cond ((decide (((0 : Int) ≤ i))) && (decide ((i < (5 : Int))))) (cond (decide (((((1 : Nat) + (Int.toNat i) : Nat) + (1 : Nat) : Nat) ≤ (List.length L)))) (∀ x6 : Int, ((x6 = (iAdd IntKind.i64 i (1 : Int))) → (k AExit.normal [(Prod.mk 0 (ptr 0)), (Prod.mk 4 (ptr (4 : Nat))), (Prod.mk 5 (Value.int IntKind.i64 a)), (Prod.mk 6 (ptr (5 : Nat))), (Prod.mk 18 (Value.int IntKind.i64 x6))] (rdB s x2 g t z (List.set L ((1 : Nat) + (Int.toNat i) : Nat) (Value.int IntKind.u32 x3)) tz tl vz vl)))) False) False)) ∧ (((decide ((x5 = (0 : Int)))) = Bool.false) → (k (AExit.panic (Value.iface (98 : Nat) (Value.agg (Array.mk [])))) [(Prod.mk 0 (ptr 0)), (Prod.mk 4 (ptr (4 : Nat))), (Prod.mk 5 (Value.int IntKind.i64 a)), (Prod.mk 6 (ptr (5 : Nat))), (Prod.mk 7 (Value.int IntKind.i64 i)), (Prod.mk 8 (Value.int IntKind.u32 x3)), (Prod.mk 10 (Value.int IntKind.i64 x5)), (Prod.mk 18 (Value.int IntKind.i64 i)), (Prod.mk 33 (Value.int IntKind.i64 x5)), (Prod.mk 34 (Value.bool (decide ((x5 = (0 : Int))))))] (rdB s x2 g t z L tz tl vz vl))))))))))))))) (k (AExit.exit 0) [(Prod.mk 0 (ptr 0)), (Prod.mk 4 (ptr (4 : Nat))), (Prod.mk 5 (Value.int IntKind.i64 a)), (Prod.mk 6 (ptr (5 : Nat))), (Prod.mk 18 (Value.int IntKind.i64 i)), (Prod.mk 19 (Value.bool Bool.false))] (rdB s m g t z L tz tl vz vl))) := by
  kernel_rfl
theorem bRdB_eq (s : Sto) (m : Mem) (g : Stg) (t : Tys) (n : Int) (K : AEnd → AHeap → Prop) : bRdB s m g t n K = ((OkS s) ∧ (((0 : Int) ≤ n) ∧ ((n ≤ (1 : Int)) ∧ (∀ x1 : Int, ((x1 = (bankAt s n)) → (∀ x2 : Int, ((x2 = x1) → (((0 : Int) = (0 : Int)) ∧ ((Mem.OkM m) ∧ (((0 : Int) ≤ x2) ∧ (((x2 + (5 : Int) : Int) ≤ (((Mem.Mem.n m) : Nat) : Int)) ∧ (∀ x3 : Mem.Mem, (∀ x4 : Mem.Mem, ((x3 = m) → ((x4 = (Mem.rbM (5 : Nat) x3 (Int.toNat x2))) → ((((Mem.rbLost (5 : Nat) x3 (Int.toNat x2)) = Bool.true) → (Env → ((List Go.Value) → (K (AEnd.pan (Value.iface (98 : Nat) (Value.agg (Array.mk [])))) (stB' s x4 g t))))) ∧ (((Mem.rbLost (5 : Nat) x3 (Int.toNat x2)) = Bool.false) → (∀ x7 : (List Int), ((x7 = (rdW (5 : Nat) x3 (Int.toNat x2))) → (cond (decide (((wN x7 0) > (0 : Int)))) (∀ x14 : Int, ((x14 = (IntKind.wrap IntKind.i64 (wN x7 (2 : Nat)))) → (cond (decide ((x14 ≤ (Sto.size s)))) ((U32 (wN x7 0)) ∧ ((U32 (wN x7 (1 : Nat))) ∧ ((U32 (wN x7 (2 : Nat))) ∧ ((U32 (wN x7 (3 : Nat))) ∧ (∀ x21 : Int, ((x21 = (((sealN (wN x7 0) (wN x7 (1 : Nat)) (wN x7 (2 : Nat)) (wN x7 (3 : Nat))) : Nat) : Int)) → (((((decide (((wN x7 0) = (wN x7 0)))) && ((decide (((wN x7 (1 : Nat)) = (wN x7 (1 : Nat))))) && ((decide (((wN x7 (2 : Nat)) = (wN x7 (2 : Nat))))) && ((decide (((wN x7 (3 : Nat)) = (wN x7 (3 : Nat))))) && ((decide (((wN x7 (4 : Nat)) = x21))) && Bool.true))))) = Bool.true) → (∀ x22 : Int, ((x22 = (iAdd IntKind.i64 x2 (5 : Int))) → (∀ x23 : Int, ((x23 = (IntKind.wrap IntKind.i64 (wN x7 (2 : Nat)))) → ((Mem.OkM x4) ∧ (∀ x24 : Mem.Mem, ((x24 = (Mem.rbS x4 x22 x23)) → (∀ x25 : ByteArray, ((x25 = ((Mem.rbRes x4 x22 x23)).fst) → (∀ x26 : Int, ((x26 = ((((Mem.rbRes x4 x22 x23)).snd : Nat) : Int)) → (cond (decide ((x26 = (0 : Int)))) (((ByteArray.size x25) < (4611686018427387904 : Nat)) ∧ (∀ x27 : Int, ((x27 = (((crcN 0 x25) : Nat) : Int)) → ((((decide ((x27 = (wN x7 (3 : Nat))))) = Bool.true) → (K (AEnd.ret (Value.agg (Array.mk [(Value.int IntKind.i64 n), (Value.int IntKind.u32 (wN x7 0)), (Value.int IntKind.u32 (wN x7 (1 : Nat))), (Value.int IntKind.u32 (wN x7 (2 : Nat))), (Value.int IntKind.u32 (wN x7 (3 : Nat))), (Value.int IntKind.u32 (wN x7 (4 : Nat))), (Value.string x25)]))) (stB' s x24 g t))) ∧ (((decide ((x27 = (wN x7 (3 : Nat))))) = Bool.false) → (K (AEnd.pan (Value.iface (98 : Nat) (Value.agg (Array.mk [])))) (stB' s x24 g t))))))) (((Bool.false = Bool.true) → (K (AEnd.ret (Value.agg (Array.mk [(Value.int IntKind.i64 n), (Value.int IntKind.u32 (wN x7 0)), (Value.int IntKind.u32 (wN x7 (1 : Nat))), (Value.int IntKind.u32 (wN x7 (2 : Nat))), (Value.int IntKind.u32 (wN x7 (3 : Nat))), (Value.int IntKind.u32 (wN x7 (4 : Nat))), (Value.string x25)]))) (stB' s x24 g t))) ∧ ((Bool.false = Bool.false) → (K (AEnd.pan (Value.iface (98 : Nat) (Value.agg (Array.mk [])))) (stB' s x24 g t))))))))))))))))) ∧ ((((decide (((wN x7 0) = (wN x7 0)))) && ((decide (((wN x7 (1 : Nat)) = (wN x7 (1 : Nat))))) && ((decide (((wN x7 (2 : Nat)) = (wN x7 (2 : Nat))))) && ((decide (((wN x7 (3 : Nat)) = (wN x7 (3 : Nat))))) && ((decide (((wN x7 (4 : Nat)) = x21))) && Bool.true))))) = Bool.false) → (K (AEnd.pan (Value.iface (98 : Nat) (Value.agg (Array.mk [])))) (stB' s x4 g t)))))))))) (((Bool.false = Bool.true) → (∀ x15 : Int, ((x15 = (iAdd IntKind.i64 x2 (5 : Int))) → (∀ x16 : Int, ((x16 = (IntKind.wrap IntKind.i64 (wN x7 (2 : Nat)))) → ((Mem.OkM x4) ∧ (∀ x17 : Mem.Mem, ((x17 = (Mem.rbS x4 x15 x16)) → (∀ x18 : ByteArray, ((x18 = ((Mem.rbRes x4 x15 x16)).fst) → (∀ x19 : Int, ((x19 = ((((Mem.rbRes x4 x15 x16)).snd : Nat) : Int)) → (cond (decide ((x19 = (0 : Int)))) (((ByteArray.size x18) < (4611686018427387904 : Nat)) ∧ (∀ x20 : Int, ((x20 = (((crcN 0 x18) : Nat) : Int)) → ((((decide ((x20 = (wN x7 (3 : Nat))))) = Bool.true) → (K (AEnd.ret (Value.agg (Array.mk [(Value.int IntKind.i64 n), (Value.int IntKind.u32 (wN x7 0)), (Value.int IntKind.u32 (wN x7 (1 : Nat))), (Value.int IntKind.u32 (wN x7 (2 : Nat))), (Value.int IntKind.u32 (wN x7 (3 : Nat))), (Value.int IntKind.u32 (wN x7 (4 : Nat))), (Value.string x18)]))) (stB' s x17 g t))) ∧ (((decide ((x20 = (wN x7 (3 : Nat))))) = Bool.false) → (K (AEnd.pan (Value.iface (98 : Nat) (Value.agg (Array.mk [])))) (stB' s x17 g t))))))) (((Bool.false = Bool.true) → (K (AEnd.ret (Value.agg (Array.mk [(Value.int IntKind.i64 n), (Value.int IntKind.u32 (wN x7 0)), (Value.int IntKind.u32 (wN x7 (1 : Nat))), (Value.int IntKind.u32 (wN x7 (2 : Nat))), (Value.int IntKind.u32 (wN x7 (3 : Nat))), (Value.int IntKind.u32 (wN x7 (4 : Nat))), (Value.string x18)]))) (stB' s x17 g t))) ∧ ((Bool.false = Bool.false) → (K (AEnd.pan (Value.iface (98 : Nat) (Value.agg (Array.mk [])))) (stB' s x17 g t))))))))))))))))) ∧ ((Bool.false = Bool.false) → (K (AEnd.pan (Value.iface (98 : Nat) (Value.agg (Array.mk [])))) (stB' s x4 g t))))))) (((Bool.false = Bool.true) → (∀ x8 : Int, ((x8 = (iAdd IntKind.i64 x2 (5 : Int))) → (∀ x9 : Int, ((x9 = (IntKind.wrap IntKind.i64 (wN x7 (2 : Nat)))) → ((Mem.OkM x4) ∧ (∀ x10 : Mem.Mem, ((x10 = (Mem.rbS x4 x8 x9)) → (∀ x11 : ByteArray, ((x11 = ((Mem.rbRes x4 x8 x9)).fst) → (∀ x12 : Int, ((x12 = ((((Mem.rbRes x4 x8 x9)).snd : Nat) : Int)) → (cond (decide ((x12 = (0 : Int)))) (((ByteArray.size x11) < (4611686018427387904 : Nat)) ∧ (∀ x13 : Int, ((x13 = (((crcN 0 x11) : Nat) : Int)) → ((((decide ((x13 = (wN x7 (3 : Nat))))) = Bool.true) → (K (AEnd.ret (Value.agg (Array.mk [(Value.int IntKind.i64 n), (Value.int IntKind.u32 (wN x7 0)), (Value.int IntKind.u32 (wN x7 (1 : Nat))), (Value.int IntKind.u32 (wN x7 (2 : Nat))), (Value.int IntKind.u32 (wN x7 (3 : Nat))), (Value.int IntKind.u32 (wN x7 (4 : Nat))), (Value.string x11)]))) (stB' s x10 g t))) ∧ (((decide ((x13 = (wN x7 (3 : Nat))))) = Bool.false) → (K (AEnd.pan (Value.iface (98 : Nat) (Value.agg (Array.mk [])))) (stB' s x10 g t))))))) (((Bool.false = Bool.true) → (K (AEnd.ret (Value.agg (Array.mk [(Value.int IntKind.i64 n), (Value.int IntKind.u32 (wN x7 0)), (Value.int IntKind.u32 (wN x7 (1 : Nat))), (Value.int IntKind.u32 (wN x7 (2 : Nat))), (Value.int IntKind.u32 (wN x7 (3 : Nat))), (Value.int IntKind.u32 (wN x7 (4 : Nat))), (Value.string x11)]))) (stB' s x10 g t))) ∧ ((Bool.false = Bool.false) → (K (AEnd.pan (Value.iface (98 : Nat) (Value.agg (Array.mk [])))) (stB' s x10 g t))))))))))))))))) ∧ ((Bool.false = Bool.false) → (K (AEnd.pan (Value.iface (98 : Nat) (Value.agg (Array.mk [])))) (stB' s x4 g t)))))))))))))))))))))))) := by
  kernel_rfl
end Go.Am.Pat

namespace Go.Am.Pat
open Go Go.Am Go.Am.Ham Go.Am.Mem Go.Proofs
set_option maxRecDepth 100000

def putW (L : List Value) (i : Nat) : List Int → List Value
  | [] => L
  | w :: ws => putW (L.set (1 + i) (.int .u32 w)) (i + 1) ws
theorem readR_in {m : Mem} {a : Nat} (h : a < m.n) : readS m (a : Nat) = Mem.readF m a ∧ readR m (a : Nat) = (if kindAt m a = 2 then (0, 2, 300) else ((decN (wordAt m a)).1, (decN (wordAt m a)).2.1, 0)) := by
  have hin : inM m (a : Nat) = true := inM_iff.2 (by omega)
  unfold readS readR
  rw [hin, Int.toNat_natCast]
  exact ⟨rfl, rfl⟩
theorem rbM_ok : ∀ (k : Nat) {m : Mem} (a : Nat), OkM m → OkM (rbM k m a) ∧ (rbM k m a).n = m.n
  | 0, m, a, h => ⟨h, rfl⟩
  | k + 1, m, a, h => by
    rw [rbM]
    split
    · exact ⟨ok_readF h a, readF_n m a⟩
    · have := rbM_ok k (a + 1) (ok_readF h a)
      exact ⟨this.1, this.2.trans (readF_n m a)⟩
theorem loopRdA : ∀ e h k, TRdA e h k → ∃ m, loopN cRdA (codeOf Tryd.f53) 0 4 m e h k := by
  intro e h k hT
  unfold TRdA at hT
  split at hT
  · rename_i a i b sz t0 v0 n safe scrub fuse bl fx lo st t1 v1 W t2 v2 z tz vz num q tl vl
    obtain ⟨hi0, ho, a0, a5, hk⟩ := hT
    obtain ⟨A, rfl⟩ : ∃ A : Nat, a = (A : Int) := ⟨a.toNat, by omega⟩
    rw [Int.toNat_natCast] at hk
    refine ⟨5 + 1, ?_⟩
    have key : ∀ (c i : Nat) (L : List Value) (m : Mem) (l : Int), l = (i : Nat) → i + c = 5 → OkM m → m.n = n → L.length = 7 → (∀ m', m' = rbM c m (A + i) →
          (rbLost c m (A + i) = true → ∀ e L, k (.panic (.iface 98 (.agg ⟨[]⟩))) e (rdA ⟨b, sz⟩ m' ⟨t0, t1, t2, t2, v0, v1, v2, v2⟩ z L tz tl vz vl)) ∧
          (rbLost c m (A + i) = false → k (.exit 0) [(0, .pointer (some ⟨0, 0, some 0⟩)), (4, .pointer (some ⟨3, 0, some 0⟩)), (5, .int .i64 (A : Int)), (6, .pointer (some ⟨4, 0, some 0⟩))]
            (rdA ⟨b, sz⟩ m' ⟨t0, t1, t2, t2, v0, v1, v2, v2⟩ z (putW L i (rdW c m (A + i))) tz tl vz vl))) →
        loopN cRdA (codeOf Tryd.f53) 0 4 (c + 1) [(0, .pointer (some ⟨0, 0, some 0⟩)), (4, .pointer (some ⟨3, 0, some 0⟩)), (5, .int .i64 (A : Int)), (6, .pointer (some ⟨4, 0, some 0⟩)), (18, .int .i64 l)]
          (rdA ⟨b, sz⟩ m ⟨t0, t1, t2, t2, v0, v1, v2, v2⟩ z L tz tl vz vl) k := by
      intro c
      induction c with
      | zero =>
        intro i L m l hl hc ho hn hL hk
        rw [loopN_succ]
        show tRdA ⟨b, sz⟩ m ⟨t0, t1, t2, t2, v0, v1, v2, v2⟩ z L tz tl vz vl (A : Int) l _
        rw [tRdA_eq, dF (by omega)]
        exact (hk m rfl).2 rfl
      | succ c ih =>
        intro i L m l hl hc ho hn hL hk
        have hle := ho.le
        rw [loopN_succ]
        show tRdA ⟨b, sz⟩ m ⟨t0, t1, t2, t2, v0, v1, v2, v2⟩ z L tz tl vz vl (A : Int) l _
        rw [tRdA_eq, dT (by omega)]
        intro x1 h1
        rw [iAdd_i64 (by omega) (by omega)] at h1
        obtain rfl : x1 = ((A + i : Nat) : Int) := by omega
        obtain ⟨e1, e2⟩ := readR_in (m := m) (a := A + i) (by omega)
        refine ⟨ho, ?_⟩
        rw [e1, e2]
        intro x2 h2 x3 h3 x4 h4 x5 h5
        by_cases hkd : kindAt m (A + i) = 2
        · rw [if_pos hkd] at h5
          have h5' : x5 = 300 := h5
          refine ⟨fun hx => ?_, fun _ => ?_⟩
          · rw [decide_eq_false (by omega)] at hx; cases hx
          · refine (hk x2 ?_).1 ?_ _ _
            · rw [rbM, if_pos hkd]; exact h2
            · rw [rbLost, if_pos hkd]
        · rw [if_neg hkd] at h5 h3
          have h5' : x5 = 0 := h5
          have h3' : x3 = (((decN (wordAt m (A + i))).1 : Nat) : Int) := h3
          refine ⟨fun _ => ?_, fun hx => ?_⟩
          · rw [dT2 (by omega) (by omega)]
            rw [dT (by omega)]
            intro x6 h6
            rw [iAdd_i64 (by omega) (by omega)] at h6
            obtain rfl : x2 = Mem.readF m (A + i) := h2
            have hi : l.toNat = i := by omega
            rw [hi]
            refine ih (i + 1) (L.set (1 + i) (.int .u32 x3)) (Mem.readF m (A + i)) x6 (by omega) (by omega) (ok_readF ho _) ((readF_n _ _).trans hn) (by rw [List.length_set]; exact hL) (fun m' hm' => ?_)
            have := hk m' (by rw [rbM, if_neg hkd]; exact hm')
            rw [rbLost, if_neg hkd, rdW, putW, ← h3'] at this
            exact this
          · rw [decide_eq_true h5'] at hx; cases hx
    refine key 5 0 _ ⟨W, n, safe, scrub, fuse, bl, fx, lo, st⟩ i hi0 rfl ho rfl rfl (fun m' hm' => ?_)
    have := hk ⟨W, n, safe, scrub, fuse, bl, fx, lo, st⟩ m' rfl hm'
    refine ⟨fun hl e L => this.1 hl e L, fun hl => this.2 hl _ rfl⟩
  · exact hT.elim
end Go.Am.Pat

namespace Go.Am.Pat
open Go Go.Am Go.Am.Ham Go.Am.Mem Go.Proofs
set_option maxRecDepth 100000

theorem loopRdB : ∀ e h k, TRdB e h k → ∃ m, loopN cRdB (codeOf Tryd.f53) 0 4 m e h k := by
  intro e h k hT
  unfold TRdB at hT
  split at hT
  · rename_i a i b sz t0 v0 n safe scrub fuse bl fx lo st t1 v1 W t2 v2 gid gsum glen gbank t3 v3 z tz vz num q tl vl
    obtain ⟨hi0, ho, a0, a5, hk⟩ := hT
    obtain ⟨A, rfl⟩ : ∃ A : Nat, a = (A : Int) := ⟨a.toNat, by omega⟩
    rw [Int.toNat_natCast] at hk
    refine ⟨5 + 1, ?_⟩
    have key : ∀ (c i : Nat) (L : List Value) (m : Mem) (l : Int), l = (i : Nat) → i + c = 5 → OkM m → m.n = n → L.length = 7 → (∀ m', m' = rbM c m (A + i) →
          (rbLost c m (A + i) = true → ∀ e L, k (.panic (.iface 98 (.agg ⟨[]⟩))) e (rdB ⟨b, sz⟩ m' ⟨gid, gsum, glen, gbank⟩ ⟨t0, t1, t2, t3, v0, v1, v2, v3⟩ z L tz tl vz vl)) ∧
          (rbLost c m (A + i) = false → k (.exit 0) [(0, .pointer (some ⟨0, 0, some 0⟩)), (4, .pointer (some ⟨4, 0, some 0⟩)), (5, .int .i64 (A : Int)), (6, .pointer (some ⟨5, 0, some 0⟩))]
            (rdB ⟨b, sz⟩ m' ⟨gid, gsum, glen, gbank⟩ ⟨t0, t1, t2, t3, v0, v1, v2, v3⟩ z (putW L i (rdW c m (A + i))) tz tl vz vl))) →
        loopN cRdB (codeOf Tryd.f53) 0 4 (c + 1) [(0, .pointer (some ⟨0, 0, some 0⟩)), (4, .pointer (some ⟨4, 0, some 0⟩)), (5, .int .i64 (A : Int)), (6, .pointer (some ⟨5, 0, some 0⟩)), (18, .int .i64 l)]
          (rdB ⟨b, sz⟩ m ⟨gid, gsum, glen, gbank⟩ ⟨t0, t1, t2, t3, v0, v1, v2, v3⟩ z L tz tl vz vl) k := by
      intro c
      induction c with
      | zero =>
        intro i L m l hl hc ho hn hL hk
        rw [loopN_succ]
        show tRdB ⟨b, sz⟩ m ⟨gid, gsum, glen, gbank⟩ ⟨t0, t1, t2, t3, v0, v1, v2, v3⟩ z L tz tl vz vl (A : Int) l _
        rw [tRdB_eq, dF (by omega)]
        exact (hk m rfl).2 rfl
      | succ c ih =>
        intro i L m l hl hc ho hn hL hk
        have hle := ho.le
        rw [loopN_succ]
        show tRdB ⟨b, sz⟩ m ⟨gid, gsum, glen, gbank⟩ ⟨t0, t1, t2, t3, v0, v1, v2, v3⟩ z L tz tl vz vl (A : Int) l _
        rw [tRdB_eq, dT (by omega)]
        intro x1 h1
        rw [iAdd_i64 (by omega) (by omega)] at h1
        obtain rfl : x1 = ((A + i : Nat) : Int) := by omega
        obtain ⟨e1, e2⟩ := readR_in (m := m) (a := A + i) (by omega)
        refine ⟨ho, ?_⟩
        rw [e1, e2]
        intro x2 h2 x3 h3 x4 h4 x5 h5
        by_cases hkd : kindAt m (A + i) = 2
        · rw [if_pos hkd] at h5
          have h5' : x5 = 300 := h5
          refine ⟨fun hx => ?_, fun _ => ?_⟩
          · rw [decide_eq_false (by omega)] at hx; cases hx
          · refine (hk x2 ?_).1 ?_ _ _
            · rw [rbM, if_pos hkd]; exact h2
            · rw [rbLost, if_pos hkd]
        · rw [if_neg hkd] at h5 h3
          have h5' : x5 = 0 := h5
          have h3' : x3 = (((decN (wordAt m (A + i))).1 : Nat) : Int) := h3
          refine ⟨fun _ => ?_, fun hx => ?_⟩
          · rw [dT2 (by omega) (by omega)]
            rw [dT (by omega)]
            intro x6 h6
            rw [iAdd_i64 (by omega) (by omega)] at h6
            obtain rfl : x2 = Mem.readF m (A + i) := h2
            have hi : l.toNat = i := by omega
            rw [hi]
            refine ih (i + 1) (L.set (1 + i) (.int .u32 x3)) (Mem.readF m (A + i)) x6 (by omega) (by omega) (ok_readF ho _) ((readF_n _ _).trans hn) (by rw [List.length_set]; exact hL) (fun m' hm' => ?_)
            have := hk m' (by rw [rbM, if_neg hkd]; exact hm')
            rw [rbLost, if_neg hkd, rdW, putW, ← h3'] at this
            exact this
          · rw [decide_eq_true h5'] at hx; cases hx
    refine key 5 0 _ ⟨W, n, safe, scrub, fuse, bl, fx, lo, st⟩ i hi0 rfl ho rfl rfl (fun m' hm' => ?_)
    have := hk ⟨W, n, safe, scrub, fuse, bl, fx, lo, st⟩ m' rfl hm'
    refine ⟨fun hl e L => this.1 hl e L, fun hl => this.2 hl _ rfl⟩
  · exact hT.elim
end Go.Am.Pat

namespace Go.Am.Pat
open Go Go.Am Go.Am.Ham Go.Am.Mem Go.Proofs
set_option maxRecDepth 100000

/-- Is a header one of a store? -/
def hdOk (s : Sto) (w : List Int) : Bool := decide (0 < wN w 0) && decide (wN w 2 ≤ s.size) && decide (wN w 4 = ((sealN (wN w 0) (wN w 1) (wN w 2) (wN w 3) : Nat) : Int))
def rdA0 (s : Sto) (n : Int) : Nat := (bankAt s n).toNat
def rdH (s : Sto) (m : Mem) (n : Int) : List Int := rdW 5 m (rdA0 s n)
def rdM1 (s : Sto) (m : Mem) (n : Int) : Mem := rbM 5 m (rdA0 s n)
def rdHO (s : Sto) (m : Mem) (n : Int) : Bool := !(rbLost 5 m (rdA0 s n)) && hdOk s (rdH s m n)
/-- The memory behind read. -/
def rdM (s : Sto) (m : Mem) (n : Int) : Mem := if rdHO s m n then rbS (rdM1 s m n) (bankAt s n + 5) (wN (rdH s m n) 2) else rdM1 s m n
def rdR (s : Sto) (m : Mem) (n : Int) : ByteArray × Nat := rbRes (rdM1 s m n) (bankAt s n + 5) (wN (rdH s m n) 2)
def rdD (s : Sto) (m : Mem) (n : Int) : ByteArray := (rdR s m n).1
/-- Is the bank valid? -/
def rdOk (s : Sto) (m : Mem) (n : Int) : Bool := rdHO s m n && decide ((rdR s m n).2 = 0) && decide (((crcN 0 (rdD s m n) : Nat) : Int) = wN (rdH s m n) 3)
def bankV (n : Int) (w : List Int) (d : ByteArray) : List Value := [.int .i64 n, .int .u32 (wN w 0), .int .u32 (wN w 1), .int .u32 (wN w 2), .int .u32 (wN w 3), .int .u32 (wN w 4), .string d]
def Fits (s : Sto) (m : Mem) : Prop := bankAt s 2 ≤ m.n
def sRead : PSpec := fun args h K => match args with
  | [.pointer (some ⟨0, 0, some 0⟩), .int .i64 n] => asSto h
      (fun s m t => OkS s ∧ OkM m ∧ Fits s m ∧ 0 ≤ n ∧ n ≤ 1 ∧ ∀ m', m' = rdM s m n → (rdOk s m n = false → K (.pan (.iface 98 (.agg ⟨[]⟩))) (stA s m' t)) ∧
        (rdOk s m n = true → ∀ w d, w = rdH s m n → d = rdD s m n → K (.ret (.agg ⟨[.int .i64 n, .int .u32 (wN w 0), .int .u32 (wN w 1), .int .u32 (wN w 2), .int .u32 (wN w 3), .int .u32 (wN w 4), .string d]⟩)) (stA s m' t)))
      (fun s m g t => OkS s ∧ OkM m ∧ Fits s m ∧ 0 ≤ n ∧ n ≤ 1 ∧ ∀ m', m' = rdM s m n → (rdOk s m n = false → K (.pan (.iface 98 (.agg ⟨[]⟩))) (stB' s m' g t)) ∧
        (rdOk s m n = true → ∀ w d, w = rdH s m n → d = rdD s m n → K (.ret (.agg ⟨[.int .i64 n, .int .u32 (wN w 0), .int .u32 (wN w 1), .int .u32 (wN w 2), .int .u32 (wN w 3), .int .u32 (wN w 4), .string d]⟩)) (stB' s m' g t)))
  | _ => False

theorem u32_cast {n : Nat} (h : n < 2 ^ 32) : U32 ((n : Nat) : Int) := ⟨by omega, by omega⟩
theorem dec_lt (c : Nat) : (decN c).1 < 2 ^ 32 := (decN_lt c).1
theorem rdW_u32 : ∀ (k : Nat) (m : Mem) (a i : Nat), U32 (wN (rdW k m a) i)
  | 0, m, a, i => by unfold rdW wN; rw [List.getD_nil]; exact ⟨by omega, by omega⟩
  | k + 1, m, a, 0 => u32_cast (dec_lt _)
  | k + 1, m, a, i + 1 => rdW_u32 k _ _ i
theorem rbRes_size (m : Mem) (a n : Int) : (rbRes m a n).1.size ≤ n.toNat := by
  unfold rbRes
  split
  · split
    · exact Nat.zero_le _
    · show ((List.map _ _).toArray).size ≤ _
      rw [List.size_toArray, List.length_map, List.length_take]
      omega
  · exact Nat.zero_le _
theorem bank_range {s : Sto} (o : OkS s) {m : Mem} (f : Fits s m) (hm : OkM m) {n : Int} (n0 : 0 ≤ n) (n1 : n ≤ 1) : 0 ≤ bankAt s n ∧ bankAt s n + 5 ≤ m.n ∧ bankAt s n + 5 ≤ 16384 := by
  have := o.b0; have := o.z0; have := o.z1; have := hm.le
  unfold Fits bankAt at f
  unfold bankAt
  rcases (by omega : n = 0 ∨ n = 1) with e | e <;> subst e <;> omega

theorem rdM_no {s : Sto} {m : Mem} {n : Int} (h : rdHO s m n = false) : rdM s m n = rdM1 s m n := by
  unfold rdM; rw [h, if_neg (by decide)]
theorem rdM_yes {s : Sto} {m : Mem} {n : Int} (h : rdHO s m n = true) : rdM s m n = rbS (rdM1 s m n) (bankAt s n + 5) (wN (rdH s m n) 2) := by
  unfold rdM; rw [h, if_pos rfl]
theorem rdOk_no {s : Sto} {m : Mem} {n : Int} (h : rdHO s m n = false) : rdOk s m n = false := by
  unfold rdOk; rw [h, Bool.false_and, Bool.false_and]
-- FROM HERE
theorem readA {s : Sto} {m : Mem} {t : Tys} {n : Int} {K : AEnd → AHeap → Prop} (o : OkS s) (hm : OkM m) (f : Fits s m) (n0 : 0 ≤ n) (n1 : n ≤ 1)
    (hk : ∀ m', m' = rdM s m n → (rdOk s m n = false → K (.pan (.iface 98 (.agg ⟨[]⟩))) (stA s m' t)) ∧
        (rdOk s m n = true → ∀ w d, w = rdH s m n → d = rdD s m n → K (.ret (.agg ⟨[.int .i64 n, .int .u32 (wN w 0), .int .u32 (wN w 1), .int .u32 (wN w 2), .int .u32 (wN w 3), .int .u32 (wN w 4), .string d]⟩)) (stA s m' t))) : bRdA s m t n K := by
  obtain ⟨r0, r1, r2⟩ := bank_range o f hm n0 n1
  rw [bRdA_eq]
  refine ⟨o, n0, n1, fun x1 h1 x2 h2 => ?_⟩
  subst h1; subst h2
  refine ⟨rfl, hm, r0, r1, fun x3 x4 h3 h4 => ?_⟩
  subst h3
  have e4 : x4 = rdM1 s x3 n := h4
  have ho4 : OkM x4 := by rw [e4]; exact (rbM_ok 5 _ hm).1
  refine ⟨fun hl e L => ?_, fun hl x7 h7 => ?_⟩
  · have eo : rdHO s x3 n = false := by unfold rdHO; rw [show rbLost 5 x3 (rdA0 s n) = true from hl, Bool.not_true, Bool.false_and]
    refine (hk x4 ?_).1 ?_
    · rw [rdM_no eo]; exact e4
    · exact rdOk_no eo
  have e7 : x7 = rdH s x3 n := h7
  have u (i : Nat) : U32 (wN x7 i) := by rw [h7]; exact rdW_u32 _ _ _ _
  have nl : rbLost 5 x3 (rdA0 s n) = false := hl
  have bad : hdOk s x7 = false → K (.pan (.iface 98 (.agg ⟨[]⟩))) (stA s x4 t) := fun hb => by
    have eo : rdHO s x3 n = false := by unfold rdHO; rw [nl, ← e7, hb, Bool.and_false]
    refine (hk x4 ?_).1 ?_
    · rw [rdM_no eo]; exact e4
    · exact rdOk_no eo
  by_cases c0 : wN x7 0 > 0
  · rw [dT c0]
    intro x14 h14
    rw [wrap_i64 (by have := (u 2).1; omega) (by have := (u 2).2; omega)] at h14
    subst h14
    by_cases c2 : wN x7 2 ≤ s.size
    · rw [dT c2]
      refine ⟨u 0, u 1, u 2, u 3, fun x21 h21 => ⟨fun hb => ?_, fun hb => ?_⟩⟩
      · simp only [Bool.and_eq_true, decide_eq_true_eq, Bool.and_true] at hb
        have e4' : wN x7 4 = x21 := hb.2.2.2.2
        have eo : rdHO s x3 n = true := by
          unfold rdHO hdOk; rw [nl, ← e7, decide_eq_true c0, decide_eq_true c2, e4', decide_eq_true h21, Bool.and_true, Bool.and_true, Bool.not_false, Bool.and_true]
        intro x22 h22 x23 h23
        rw [iAdd_i64 (by omega) (by omega)] at h22
        rw [wrap_i64 (by have := (u 2).1; omega) (by have := (u 2).2; omega)] at h23
        refine ⟨ho4, fun x24 h24 x25 h25 x26 h26 => ?_⟩
        have e24 : x24 = rdM s x3 n := by rw [rdM_yes eo, h24, h22, h23, e4, e7]
        have eR : rbRes x4 x22 x23 = rdR s x3 n := by unfold rdR; rw [h22, h23, e4, e7]
        rw [eR] at h25 h26
        have e25 : x25 = rdD s x3 n := h25
        obtain ⟨k1, k2⟩ := hk x24 e24
        by_cases c3 : x26 = 0
        · rw [dT c3]
          have c3' : (rdR s x3 n).2 = 0 := by omega
          refine ⟨?_, fun x27 h27 => ⟨fun hb => k2 ?_ x7 x25 e7 e25, fun hb => k1 ?_⟩⟩
          · rw [h25]
            have hz := rbRes_size (rdM1 s x3 n) (bankAt s n + 5) (wN (rdH s x3 n) 2)
            have hz' : (rdR s x3 n).1.size ≤ (wN (rdH s x3 n) 2).toNat := hz
            rw [← e7] at hz'
            have := o.z1
            omega
          · unfold rdOk; rw [eo, decide_eq_true c3', ← e25, ← e7, ← h27, Bool.and_true, Bool.true_and]; exact hb
          · unfold rdOk; rw [eo, decide_eq_true c3', ← e25, ← e7, ← h27, Bool.and_true, Bool.true_and]; exact hb
        · rw [dF c3]
          have c3' : ¬ (rdR s x3 n).2 = 0 := by omega
          refine ⟨fun hb => (Bool.noConfusion hb), fun _ => k1 ?_⟩
          unfold rdOk; rw [decide_eq_false c3', Bool.and_false, Bool.false_and]
      · refine bad ?_
        unfold hdOk
        rw [decide_eq_true c0, decide_eq_true c2, ← h21]
        simpa using hb
    · rw [dF c2]
      refine ⟨fun hb => (Bool.noConfusion hb), fun _ => bad ?_⟩
      unfold hdOk
      rw [decide_eq_false c2, Bool.and_false, Bool.false_and]
  · rw [dF c0]
    refine ⟨fun hb => (Bool.noConfusion hb), fun _ => bad ?_⟩
    unfold hdOk
    rw [decide_eq_false c0, Bool.false_and, Bool.false_and]
-- TO HERE
end Go.Am.Pat

namespace Go.Am.Pat
open Go Go.Am Go.Am.Ham Go.Am.Mem Go.Proofs
set_option maxRecDepth 100000
theorem readB {s : Sto} {m : Mem} {g : Stg} {t : Tys} {n : Int} {K : AEnd → AHeap → Prop} (o : OkS s) (hm : OkM m) (f : Fits s m) (n0 : 0 ≤ n) (n1 : n ≤ 1)
    (hk : ∀ m', m' = rdM s m n → (rdOk s m n = false → K (.pan (.iface 98 (.agg ⟨[]⟩))) (stB' s m' g t)) ∧
        (rdOk s m n = true → ∀ w d, w = rdH s m n → d = rdD s m n → K (.ret (.agg ⟨[.int .i64 n, .int .u32 (wN w 0), .int .u32 (wN w 1), .int .u32 (wN w 2), .int .u32 (wN w 3), .int .u32 (wN w 4), .string d]⟩)) (stB' s m' g t))) : bRdB s m g t n K := by
  obtain ⟨r0, r1, r2⟩ := bank_range o f hm n0 n1
  rw [bRdB_eq]
  refine ⟨o, n0, n1, fun x1 h1 x2 h2 => ?_⟩
  subst h1; subst h2
  refine ⟨rfl, hm, r0, r1, fun x3 x4 h3 h4 => ?_⟩
  subst h3
  have e4 : x4 = rdM1 s x3 n := h4
  have ho4 : OkM x4 := by rw [e4]; exact (rbM_ok 5 _ hm).1
  refine ⟨fun hl e L => ?_, fun hl x7 h7 => ?_⟩
  · have eo : rdHO s x3 n = false := by unfold rdHO; rw [show rbLost 5 x3 (rdA0 s n) = true from hl, Bool.not_true, Bool.false_and]
    refine (hk x4 ?_).1 ?_
    · rw [rdM_no eo]; exact e4
    · exact rdOk_no eo
  have e7 : x7 = rdH s x3 n := h7
  have u (i : Nat) : U32 (wN x7 i) := by rw [h7]; exact rdW_u32 _ _ _ _
  have nl : rbLost 5 x3 (rdA0 s n) = false := hl
  have bad : hdOk s x7 = false → K (.pan (.iface 98 (.agg ⟨[]⟩))) (stB' s x4 g t) := fun hb => by
    have eo : rdHO s x3 n = false := by unfold rdHO; rw [nl, ← e7, hb, Bool.and_false]
    refine (hk x4 ?_).1 ?_
    · rw [rdM_no eo]; exact e4
    · exact rdOk_no eo
  by_cases c0 : wN x7 0 > 0
  · rw [dT c0]
    intro x14 h14
    rw [wrap_i64 (by have := (u 2).1; omega) (by have := (u 2).2; omega)] at h14
    subst h14
    by_cases c2 : wN x7 2 ≤ s.size
    · rw [dT c2]
      refine ⟨u 0, u 1, u 2, u 3, fun x21 h21 => ⟨fun hb => ?_, fun hb => ?_⟩⟩
      · simp only [Bool.and_eq_true, decide_eq_true_eq, Bool.and_true] at hb
        have e4' : wN x7 4 = x21 := hb.2.2.2.2
        have eo : rdHO s x3 n = true := by
          unfold rdHO hdOk; rw [nl, ← e7, decide_eq_true c0, decide_eq_true c2, e4', decide_eq_true h21, Bool.and_true, Bool.and_true, Bool.not_false, Bool.and_true]
        intro x22 h22 x23 h23
        rw [iAdd_i64 (by omega) (by omega)] at h22
        rw [wrap_i64 (by have := (u 2).1; omega) (by have := (u 2).2; omega)] at h23
        refine ⟨ho4, fun x24 h24 x25 h25 x26 h26 => ?_⟩
        have e24 : x24 = rdM s x3 n := by rw [rdM_yes eo, h24, h22, h23, e4, e7]
        have eR : rbRes x4 x22 x23 = rdR s x3 n := by unfold rdR; rw [h22, h23, e4, e7]
        rw [eR] at h25 h26
        have e25 : x25 = rdD s x3 n := h25
        obtain ⟨k1, k2⟩ := hk x24 e24
        by_cases c3 : x26 = 0
        · rw [dT c3]
          have c3' : (rdR s x3 n).2 = 0 := by omega
          refine ⟨?_, fun x27 h27 => ⟨fun hb => k2 ?_ x7 x25 e7 e25, fun hb => k1 ?_⟩⟩
          · rw [h25]
            have hz := rbRes_size (rdM1 s x3 n) (bankAt s n + 5) (wN (rdH s x3 n) 2)
            have hz' : (rdR s x3 n).1.size ≤ (wN (rdH s x3 n) 2).toNat := hz
            rw [← e7] at hz'
            have := o.z1
            omega
          · unfold rdOk; rw [eo, decide_eq_true c3', ← e25, ← e7, ← h27, Bool.and_true, Bool.true_and]; exact hb
          · unfold rdOk; rw [eo, decide_eq_true c3', ← e25, ← e7, ← h27, Bool.and_true, Bool.true_and]; exact hb
        · rw [dF c3]
          have c3' : ¬ (rdR s x3 n).2 = 0 := by omega
          refine ⟨fun hb => (Bool.noConfusion hb), fun _ => k1 ?_⟩
          unfold rdOk; rw [decide_eq_false c3', Bool.and_false, Bool.false_and]
      · refine bad ?_
        unfold hdOk
        rw [decide_eq_true c0, decide_eq_true c2, ← h21]
        simpa using hb
    · rw [dF c2]
      refine ⟨fun hb => (Bool.noConfusion hb), fun _ => bad ?_⟩
      unfold hdOk
      rw [decide_eq_false c2, Bool.and_false, Bool.false_and]
  · rw [dF c0]
    refine ⟨fun hb => (Bool.noConfusion hb), fun _ => bad ?_⟩
    unfold hdOk
    rw [decide_eq_false c0, Bool.false_and, Bool.false_and]
end Go.Am.Pat

namespace Go.Am.Pat
open Go Go.Am Go.Am.Ham Go.Am.Mem Go.Proofs
set_option maxRecDepth 100000
theorem tRd_ok : AllOk Tryd.prog G0 tRd := ⟨okAt, weaken okRead iRead, okRB, okSeal, okSum, trivial⟩
theorem pRd_ok : AllPOk Tryd.prog G0 pRd := ⟨okNeed, trivial⟩
theorem okReadA : PSpecOk Tryd.prog G0 53 (fun args h K => match args with
    | [.pointer (some ⟨0, 0, some 0⟩), .int .i64 _] => asSto h (fun _ _ _ => sRead args h K) (fun _ _ _ _ => False)
    | _ => False) :=
  spec2P mixed tRd_ok pRd_ok Tryd.func53 (by kernel_rfl : Tryd.f53.body = some (codeOf Tryd.f53)) cRdA rfl rfl rfl rfl (by kernel_rfl) (ids := [4]) (by kernel_rfl) ⟨by intro e h k hT; exact loopRdA e h k hT, trivial⟩ (by
    intro args h K hk
    split at hk
    · rename_i n
      rcases asSto_elim hk with ⟨s, m, t, rfl, hk⟩ | ⟨s, m, g, t, rfl, hk⟩
      · obtain ⟨o, hm, f, n0, n1, hk⟩ := hk
        exact readA o hm f n0 n1 hk
      · exact hk.elim
    · exact hk.elim)
theorem okReadB : PSpecOk Tryd.prog G0 53 (fun args h K => match args with
    | [.pointer (some ⟨0, 0, some 0⟩), .int .i64 _] => asSto h (fun _ _ _ => False) (fun _ _ _ _ => sRead args h K)
    | _ => False) :=
  spec2P mixed tRd_ok pRd_ok Tryd.func53 (by kernel_rfl : Tryd.f53.body = some (codeOf Tryd.f53)) cRdB rfl rfl rfl rfl (by kernel_rfl) (ids := [4]) (by kernel_rfl) ⟨by intro e h k hT; exact loopRdB e h k hT, trivial⟩ (by
    intro args h K hk
    split at hk
    · rename_i n
      rcases asSto_elim hk with ⟨s, m, t, rfl, hk⟩ | ⟨s, m, g, t, rfl, hk⟩
      · exact hk.elim
      · obtain ⟨o, hm, f, n0, n1, hk⟩ := hk
        exact readB o hm f n0 n1 hk
    · exact hk.elim)
theorem okPRead : PSpecOk Tryd.prog G0 53 sRead := by
  intro W0 hG args h K hk
  have hk' := hk
  unfold sRead at hk'
  split at hk'
  · rcases asSto_elim hk' with ⟨s, m, t, rfl, h2⟩ | ⟨s, m, g, t, rfl, h2⟩
    · exact okReadA W0 hG _ _ _ hk
    · exact okReadB W0 hG _ _ _ hk
  · exact hk'.elim
end Go.Am.Pat

namespace Go.Am.Pat
open Go Go.Am Go.Am.Ham Go.Am.Mem Go.Proofs
set_option maxRecDepth 100000

def regs : Code → List (Array Oper)
  | .seq a b => regs a ++ regs b
  | .region _ o _ => [o]
  | _ => []
noncomputable def rgV (k : Nat) : Array Oper := (regs (codeOf Tryd.f46)).getD k #[]
def behind : Code → Code
  | .seq _ b => b
  | _ => .skip
noncomputable def clV : Code := behind (codeOf Tryd.f52)
def pVa : List (Nat × PSpec) := [(53, sRead)]
noncomputable def cVa : FCfg := { mkG Tryd.prog G0 [] 10 [(0, [0, 1, 4]), (1, [0, 1, 4]), (2, [4, 5]), (3, [4])] [] [] [] [] [] 40 3 with PC := tabP pVa }
noncomputable def gVa : FCfg := { mkG Tryd.prog G0 [] 10 [(0, [0, 4]), (1, [3]), (2, []), (3, [0, 4, 6]), (4, []), (5, [0, 4, 8, 9]), (6, [0]), (7, [])] [] [] [] [] [] 40 0 with gc := none }
noncomputable def dVaA (s : Sto) (m : Mem) (t : Tys) (n : Int) (K : Value → AHeap → Prop) : Prop := deferK cVa gVa [0, 1, 4] (rgV 0) (rgV 2) (rgV 3) clV Tryd.f46.results.toList [ptr 0, .int .i64 n] (stA s m t) K
noncomputable def dVaB (s : Sto) (m : Mem) (g : Stg) (t : Tys) (n : Int) (K : Value → AHeap → Prop) : Prop := deferK cVa gVa [0, 1, 4] (rgV 0) (rgV 2) (rgV 3) clV Tryd.f46.results.toList [ptr 0, .int .i64 n] (stB' s m g t) K
theorem dVaA_eq (s : Sto) (m : Mem) (t : Tys) (n : Int) (K : Value → AHeap → Prop) : dVaA s m t n K = ((OkS s) ∧ ((Mem.OkM m) ∧ ((Fits s m) ∧ (((0 : Int) ≤ n) ∧ ((n ≤ (1 : Int)) ∧ (∀ x1 : Mem.Mem, ((x1 = (rdM s m n)) → ((((rdOk s m n) = Bool.false) → (K (Value.pointer Option.none) (stA s x1 t))) ∧ (((rdOk s m n) = Bool.true) → (∀ x2 : (List Int), (∀ x3 : ByteArray, ((x2 = (rdH s m n)) → ((x3 = (rdD s m n)) → (K (ptr (3 : Nat)) [(AObj.cells Bool.false [(ptr (1 : Nat)), (Value.int IntKind.i64 (Sto.base s)), (Value.int IntKind.i64 (Sto.size s)), (Value.pointer Option.none)] (Tys.t0 t) (Tys.v0 t)), (AObj.cells Bool.false [(Value.slice (Option.some (Addr.mk (2 : Nat) 0 (Option.some 0))) (Mem.Mem.n x1) (2 : Nat)), (Value.int IntKind.i64 (Mem.Mem.safe x1)), (Value.int IntKind.i64 (Mem.Mem.scrub x1)), (Value.int IntKind.i64 (Mem.Mem.fuse x1)), (Value.bool (Mem.Mem.bl x1)), (Value.int IntKind.i64 (Mem.Mem.fx x1)), (Value.int IntKind.i64 (Mem.Mem.lo x1)), (Value.int IntKind.i64 (Mem.Mem.st x1))] (Tys.t1 t) (Tys.v1 t)), (AObj.cells Bool.true (Mem.Mem.W x1) (Tys.t2 t) (Tys.v2 t)), (AObj.cells Bool.true [(Value.int IntKind.i64 n), (Value.int IntKind.u32 (wN x2 0)), (Value.int IntKind.u32 (wN x2 (1 : Nat))), (Value.int IntKind.u32 (wN x2 (2 : Nat))), (Value.int IntKind.u32 (wN x2 (3 : Nat))), (Value.int IntKind.u32 (wN x2 (4 : Nat))), (Value.string x3)] (79 : Nat) Bool.false)])))))))))))))) := by
  kernel_rfl
theorem dVaB_eq (s : Sto) (m : Mem) (g : Stg) (t : Tys) (n : Int) (K : Value → AHeap → Prop) : dVaB s m g t n K = ((OkS s) ∧ ((Mem.OkM m) ∧ ((Fits s m) ∧ (((0 : Int) ≤ n) ∧ ((n ≤ (1 : Int)) ∧ (∀ x1 : Mem.Mem, ((x1 = (rdM s m n)) → ((((rdOk s m n) = Bool.false) → (K (Value.pointer Option.none) (stB' s x1 g t))) ∧ (((rdOk s m n) = Bool.true) → (∀ x2 : (List Int), (∀ x3 : ByteArray, ((x2 = (rdH s m n)) → ((x3 = (rdD s m n)) → (K (ptr (4 : Nat)) [(AObj.cells Bool.false [(ptr (1 : Nat)), (Value.int IntKind.i64 (Sto.base s)), (Value.int IntKind.i64 (Sto.size s)), (ptr (3 : Nat))] (Tys.t0 t) (Tys.v0 t)), (AObj.cells Bool.false [(Value.slice (Option.some (Addr.mk (2 : Nat) 0 (Option.some 0))) (Mem.Mem.n x1) (2 : Nat)), (Value.int IntKind.i64 (Mem.Mem.safe x1)), (Value.int IntKind.i64 (Mem.Mem.scrub x1)), (Value.int IntKind.i64 (Mem.Mem.fuse x1)), (Value.bool (Mem.Mem.bl x1)), (Value.int IntKind.i64 (Mem.Mem.fx x1)), (Value.int IntKind.i64 (Mem.Mem.lo x1)), (Value.int IntKind.i64 (Mem.Mem.st x1))] (Tys.t1 t) (Tys.v1 t)), (AObj.cells Bool.true (Mem.Mem.W x1) (Tys.t2 t) (Tys.v2 t)), (AObj.cells Bool.true [(Value.int IntKind.u32 (Stg.id g)), (Value.int IntKind.u32 (Stg.sum g)), (Value.int IntKind.i64 (Stg.len g)), (Value.int IntKind.i64 (Stg.bank g))] (Tys.t3 t) (Tys.v3 t)), (AObj.cells Bool.true [(Value.int IntKind.i64 n), (Value.int IntKind.u32 (wN x2 0)), (Value.int IntKind.u32 (wN x2 (1 : Nat))), (Value.int IntKind.u32 (wN x2 (2 : Nat))), (Value.int IntKind.u32 (wN x2 (3 : Nat))), (Value.int IntKind.u32 (wN x2 (4 : Nat))), (Value.string x3)] (79 : Nat) Bool.false)])))))))))))))) := by
  kernel_rfl
end Go.Am.Pat

namespace Go.Am.Pat
open Go Go.Am Go.Am.Ham Go.Am.Mem Go.Proofs
set_option maxRecDepth 100000

def sValid : Spec := fun args h K => match args with
  | [.pointer (some ⟨0, 0, some 0⟩), .int .i64 n] => asSto h
      (fun s m t => OkS s ∧ OkM m ∧ Fits s m ∧ 0 ≤ n ∧ n ≤ 1 ∧ ∀ m', m' = rdM s m n → (rdOk s m n = false → K (.pointer none) (stA s m' t)) ∧
        (rdOk s m n = true → ∀ w d, w = rdH s m n → d = rdD s m n → K (ptr 3) (stA1 s m' t (.cells true [.int .i64 n, .int .u32 (wN w 0), .int .u32 (wN w 1), .int .u32 (wN w 2), .int .u32 (wN w 3), .int .u32 (wN w 4), .string d] 79 false))))
      (fun s m g t => OkS s ∧ OkM m ∧ Fits s m ∧ 0 ≤ n ∧ n ≤ 1 ∧ ∀ m', m' = rdM s m n → (rdOk s m n = false → K (.pointer none) (stB' s m' g t)) ∧
        (rdOk s m n = true → ∀ w d, w = rdH s m n → d = rdD s m n → K (ptr 4) (stB1 s m' g t (.cells true [.int .i64 n, .int .u32 (wN w 0), .int .u32 (wN w 1), .int .u32 (wN w 2), .int .u32 (wN w 3), .int .u32 (wN w 4), .string d] 79 false))))
  | _ => False
theorem pVa_ok : AllPOk Tryd.prog G0 pVa := ⟨okPRead, trivial⟩
theorem rg1 : ∃ t1 p1 a1 t2 p2 a2, rgV 1 = #[⟨some 6, .makeFunc (.func 52) #[] #[.tmp 4], t1, p1, a1, none⟩, ⟨none, .defer ⟨.value (.tmp 6), #[], #[]⟩, t2, p2, a2, none⟩] := ⟨_, _, _, _, _, _, rfl⟩
noncomputable def rgR : Array Oper := (regs (codeOf Tryd.f52)).getD 0 #[]
theorem rg2 : ∃ t1 p1 a1, rgR = #[⟨some 4, .call ⟨.builtin .recover, #[], #[]⟩, t1, p1, a1, none⟩] := ⟨_, _, _, rfl⟩
theorem rg1_run (Q : Exit → Act → World → Prop) (a : Act) (w : World) (p : Addr) (h4 : a.tmps.getD 4 undef = .pointer (some p)) (hd : a.defers = []) (hsz : 6 < a.tmps.size)
    (hQ : ∀ v, Q .normal { tmps := a.tmps.setIfInBounds 6 v, defers := [{ target := .fn (.func 52) #[.pointer (some p)], args := #[] }] } w) : wpOps Tryd.prog (rgV 1) Q (List.range (rgV 1).size) a w := by
  obtain ⟨t1, p1, a1, t2, p2, a2, e⟩ := rg1
  rw [e]
  have hmf : ∀ (fn : Fn) (first cap : Array Value) (w : World), (Instr.makeFunc fn first cap).run Tryd.prog w = .ok (.func fn first cap) w := fun _ _ _ _ => rfl
  have hq := hQ (.func (.func 52) #[] #[.pointer (some p)])
  simp [wpOps, go_sem, hmf, hd, h4, Act.eval, Act.put, hsz, Oper.upon]
  exact .inl (.inl hq)
theorem rg2_run (mode mode' : FrameMode) (v' : Value) (hm : (mode = .returning ∧ mode' = .returning ∧ v' = .nilIface) ∨ (mode = .panicking [{ v := v', recovered := false }] ∧ mode' = .panicking [{ v := v', recovered := true }]))
    (Q : Exit → Act → List Frame → World → Prop) (a : Act) (c : Frame) (cs : List Frame) (w : World) (hc : c.mode = mode) (hQ : Q .normal (a.put (some 4) v') ({ c with mode := mode' } :: cs) w) : wpOpsS Tryd.prog rgR Q (List.range rgR.size) a (c :: cs) w := by
  obtain ⟨t1, p1, a1, e⟩ := rg2
  rw [e]
  rcases hm with ⟨rfl, rfl, rfl⟩ | ⟨rfl, rfl⟩
  · have e2 : ({ c with mode := .returning } : Frame) = c := by cases c; simp_all
    rw [e2] at hQ
    simp [wpOpsS, go_sem, recoverD, hc]
    exact hQ
  · simp [wpOpsS, go_sem, recoverD, hc]
    exact hQ
theorem okValid : SpecOk Tryd.prog G0 46 sValid :=
  specDefer mixed (tbl := []) (tbl2 := []) (pt := pVa) none_ok pVa_ok none_ok Tryd.func46
    (by kernel_rfl : Tryd.f46.body = some (.seq (.region 0 (rgV 0) false) (.seq (.region 1 (rgV 1) false) (.seq (.region 2 (rgV 2) false) (.seq (.region 3 (rgV 3) false) .ret)))))
    Tryd.func52 (by kernel_rfl : Tryd.f52.body = some (.seq (.region 0 rgR false) clV)) (by kernel_rfl) cVa gVa rfl rfl rfl rfl (by kernel_rfl)
    rfl rfl rfl (by kernel_rfl) (by kernel_rfl) (by decide) rfl (fun _ => rfl) [0, 1, 4] (by decide) (by kernel_rfl)
    (fun Q a w p h4 hd hsz hQ => rg1_run Q a w p h4 hd (by rw [hsz]; decide) hQ) rg2_run (by
    intro args h K hk
    unfold sValid at hk
    split at hk
    · rename_i n
      rcases asSto_elim hk with ⟨s, m, t, rfl, hk⟩ | ⟨s, m, g, t, rfl, hk⟩
      · show dVaA s m t n K
        rw [dVaA_eq]
        obtain ⟨o, hm, f, n0, n1, hk⟩ := hk
        exact ⟨o, hm, f, n0, n1, fun x1 h1 => ⟨fun hr => (hk x1 h1).1 hr, fun hr x2 x3 h2 h3 => (hk x1 h1).2 hr x2 x3 h2 h3⟩⟩
      · show dVaB s m g t n K
        rw [dVaB_eq]
        obtain ⟨o, hm, f, n0, n1, hk⟩ := hk
        exact ⟨o, hm, f, n0, n1, fun x1 h1 => ⟨fun hr => (hk x1 h1).1 hr, fun hr x2 x3 h2 h3 => (hk x1 h1).2 hr x2 x3 h2 h3⟩⟩
    · exact hk.elim)
end Go.Am.Pat
