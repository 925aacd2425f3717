/-
  The abstract machine, part 3: what an operation does, as a weakest precondition that the kernel can evaluate. Own work; plain definitions.
-/
import Derived.Test.YtjbagcmcpmhfnaaDoorAm2
import GoSem.Step
namespace Go.Am
open Go

abbrev Env := List (Nat × Value)
def eget : Env → Nat → Option Value
  | [], _ => none
  | (j, v) :: r, k => cond (Nat.beq j k) (some v) (eget r k)
def eset : Env → Nat → Value → Env
  | [], k, x => [(k, x)]
  | (j, v) :: r, k, x => cond (Nat.beq j k) ((j, x) :: r) ((j, v) :: eset r k x)
def esetO (e : Env) (d : Option Nat) (x : Value) : Env := match d with | some k => eset e k x | none => e
def memB (i : Nat) : List Nat → Bool
  | [] => false
  | j :: r => cond (Nat.beq i j) true (memB i r)
def epz (q : Nat → Bool) : Env → Env
  | [] => []
  | (j, v) :: r => (j, pz q v) :: epz q r
def epzs (e : Env) (l : List Nat) : Env := match l with | [] => e | i :: r => epz (fun j => memB j (i :: r)) e

def ev (e : Env) : Operand → Option Value
  | .tmp t => eget e t
  | .const v => cond (flat v) (some v) none
  | .global g => some (.pointer (some ⟨g, 0, none⟩))
  | .func f => some (.func (.func f) #[] #[])

/-- A computation that touches no memory. -/
def pureRun (P : Program) {α : Type} : Sem α → Option α
  | .pure a => some a
  | .program k => pureRun P (k P)
  | .mark _ k => pureRun P k
  | _ => none
theorem pureRun_run {P : Program} {α : Type} {s : Sem α} {a : α} (h : pureRun P s = some a) (w : World) : s.run P w = .ok a w := by
  induction s generalizing w with
  | pure b => simp [pureRun] at h; subst h; rfl
  | program k ih => simp only [pureRun] at h; exact ih _ h w
  | mark m k ih => simp only [pureRun] at h; exact ih h w
  | _ => simp [pureRun] at h

structure Cfg where
  P : Program
  G : Nat → Option (List Value)
  C : FuncId → List Value → AHeap → (Value → AHeap → Prop) → Prop
  N : Nat
  shut : Nat → Nat

/-- The number itself, under a name that the kernel does not open. -/
noncomputable def sealI (n : Int) : Int := Classical.choose (⟨n, rfl⟩ : ∃ m : Int, m = n)
theorem sealI_eq (n : Int) : sealI n = n := Classical.choose_spec (⟨n, rfl⟩ : ∃ m : Int, m = n)
noncomputable def sealV (b : Bool) (v : Value) : Value := cond b (match v with | .int k n => .int k (sealI n) | _ => v) v
theorem sealV_eq (b : Bool) (v : Value) : sealV b v = v := by
  cases b <;> simp only [sealV, cond_true, cond_false]
  split <;> simp only [sealI_eq]

/-- How a result is kept: as it is (0), sealed (1), under a name of its own (else). -/
noncomputable def bindV (m : Nat) (v : Value) (k : Value → Prop) : Prop :=
  match m with
  | 0 => k v
  | 1 => k (sealV true v)
  | _ => match v with
    | .int kd n => ∀ x : Int, x = n → k (.int kd x)
    | .string s => ∀ x : ByteArray, x = s → k (.string x)
    | v => k v
theorem bindV_sound {m : Nat} {v : Value} {k : Value → Prop} (h : bindV m v k) : k v := by
  unfold bindV at h
  split at h
  · exact h
  · rw [sealV_eq] at h; exact h
  · split at h
    · exact h _ rfl
    · exact h _ rfl
    · exact h

def isInt (k : IntKind) : Value → Bool | .int k' _ => decide (k' = k) | _ => false
def intOf : Value → Int | .int _ n => n | _ => 0
def isBool : Value → Bool | .bool _ => true | _ => false
def boolOf : Value → Bool | .bool b => b | _ => false
def isStr : Value → Bool | .string _ => true | _ => false
def strOf : Value → ByteArray | .string s => s | _ => .empty

/-- The value as one of the zero value's kind: its constructor is laid open. -/
def coer (z v : Value) (k : Value → Prop) : Prop :=
  match z with
  | .int kd _ => cond (isInt kd v) (k (.int kd (intOf v))) False
  | .bool _ => cond (isBool v) (k (.bool (boolOf v))) False
  | .string _ => cond (isStr v) (k (.string (strOf v))) False
  | _ => k v
def coerL : List Value → List Value → (List Value → Prop) → Prop
  | [], [], k => k []
  | z :: zs, v :: vs, k => coer z v fun u => coerL zs vs fun us => k (u :: us)
  | _, _, _ => False

def cellsAt (vs : List Value) (off n : Nat) : List Value := (vs.drop off).take n
def aggO (P : Program) (t : TypeId) : Option Bool := match P.underlying t with | some (.struct _) => some true | some (.array _ _) => some true | some _ => some false | none => none
/-- one cell after the other: for a number of cells that is written out -/
def listAt (vs : List Value) (off : Nat) : Nat → List Value
  | 0 => []
  | n + 1 => vs.getD off undef :: listAt vs (off + 1) n

def loadCellsK (P : Program) (t : TypeId) (vs : List Value) (off : Nat) (k : Value → Prop) : Prop :=
  match P.info? t with
  | some i => match i.zero with
    | some z => cond (Nat.beq i.size z.cells.size && decide (off + i.size ≤ vs.length))
        (coerL z.cells.toList (listAt vs off i.size) fun l => match aggO P t with
          | some true => k (.agg ⟨l⟩)
          | some false => (match l with | [v] => k v | _ => False)
          | none => False) False
    | none => False
  | none => False
def loadK (c : Cfg) (t : TypeId) (addr : Value) (h : AHeap) (k : Value → Prop) : Prop :=
  match addr with
  | .pointer (some a) => match a.spot with
    | some _ => match h[a.block]? with
      | some (.cells _ vs _ _) => loadCellsK c.P t vs a.off k
      | some (.ro vs _) => loadCellsK c.P t vs a.off k
      | _ => False
    | none => match c.G a.block with
      | some vs => loadCellsK c.P t vs a.off k
      | none => False
  | _ => False

def setCells (vs : List Value) (off : Nat) : List Value → List Value
  | [] => vs
  | x :: r => setCells (vs.set off x) (off + 1) r
def storeK (P : Program) (t : TypeId) (addr v : Value) (h : AHeap) (k : AHeap → Prop) : Prop :=
  match addr with
  | .pointer (some a) => match a.spot with
    | some _ => match h[a.block]? with
      | some (.cells fl vs ty mv) => match P.info? t with
        | some i => cond (Nat.beq v.cells.size i.size && decide (a.off + i.size ≤ vs.length))
            (k (h.set a.block (.cells (cond (flatA v.cells) fl false) (setCells vs a.off v.cells.toList) ty mv))) False
        | none => False
      | _ => False
    | none => False
  | _ => False

def newAddr (h : AHeap) : Addr := ⟨h.length, 0, some 0⟩
def allocK (t : TypeId) (cs : List Value) (h : AHeap) (k : Value → AHeap → Prop) : Prop :=
  k (.pointer (some (newAddr h))) (h ++ [.cells (flatL cs) cs t false])

/-- Product and sum, with what is plain left out. -/
def mul1 (i s : Nat) : Nat := cond (Nat.beq s 1) i (i * s)
def add0 (a b : Nat) : Nat := cond (Nat.beq a 0) b (a + b)
theorem mul1_eq (i s : Nat) : mul1 i s = i * s := by
  unfold mul1
  cases h : Nat.beq s 1 with
  | true => rw [cond_true, Nat.eq_of_beq_eq_true h, Nat.mul_one]
  | false => rfl
theorem add0_eq (a b : Nat) : add0 a b = a + b := by
  unfold add0
  cases h : Nat.beq a 0 with
  | true => rw [cond_true, Nat.eq_of_beq_eq_true h, Nat.zero_add]
  | false => rfl
/-- The place behind an address. -/
def addA (a : Addr) (n : Nat) : Addr := ⟨a.block, add0 a.off n, a.spot⟩

def fieldAddrK (P : Program) (s : TypeId) (x : Value) (f : Nat) (k : Value → Prop) : Prop :=
  match P.underlying s with
  | some (.struct fields) => match fields[f]? with
    | some fd => match P.info? fd.type with
      | some i => match i.size with
        | 0 => False
        | _ + 1 => match x with
          | .pointer (some a) => k (.pointer (some (addA a fd.offset)))
          | _ => False
      | none => False
    | none => False
  | _ => False

def indexAddrK (P : Program) (t : TypeId) (x ix : Value) (k : Value → Prop) : Prop :=
  match ix with
  | .int _ i => match P.underlying t, x with
    | some (.array len elem), .pointer (some a) => match P.info? elem with
      | some inf => cond (decide (0 ≤ i) && decide (i < len)) (k (.pointer (some (addA a (mul1 i.toNat inf.size))))) False
      | none => False
    | some (.slice elem), .slice (some a) len _ => match P.info? elem with
      | some inf => cond (decide (0 ≤ i) && decide (i < len)) (k (.pointer (some (addA a (mul1 i.toNat inf.size))))) False
      | none => False
    | _, _ => False
  | _ => False

def indexK (P : Program) (t : TypeId) (x ix : Value) (k : Value → Prop) : Prop :=
  match ix with
  | .int _ i => match P.underlying t, x with
    | some (.array len elem), .agg cs => match P.info? elem with
      | some inf => match inf.zero with
        | some z => cond (decide (0 ≤ i) && decide (i < len) && decide (mul1 i.toNat inf.size + inf.size ≤ cs.size) && Nat.beq inf.size z.cells.size)
            (coerL z.cells.toList (listAt cs.toList (mul1 i.toNat inf.size) inf.size) fun l => match aggO P elem with
              | some true => k (.agg ⟨l⟩)
              | some false => (match l with | [v] => k v | _ => False)
              | none => False) False
        | none => False
      | none => False
    | some .string, .string s => cond (decide (0 ≤ i) && decide (i < s.size)) (k (.int .u8 (s.data.toList.getD i.toNat 0).toNat)) False
    | _, _ => False
  | _ => False

/-- The bounds of a slice expression: low, high against a length. -/
def boundsK (lo hi : Option Value) (len : Nat) (k : Nat → Nat → Prop) : Prop :=
  match hi with
  | none => match lo with
    | none => k 0 len
    | some (.int _ l) => cond (decide (0 ≤ l) && decide (l ≤ len)) (k l.toNat len) False
    | _ => False
  | some (.int _ hh) => match lo with
    | none => cond (decide (0 ≤ hh) && decide (hh ≤ len)) (k 0 hh.toNat) False
    | some (.int _ l) => cond (decide (0 ≤ l) && decide (l ≤ hh) && decide (hh ≤ len)) (k l.toNat hh.toNat) False
    | _ => False
  | _ => False

def sliceK (P : Program) (t : TypeId) (x : Value) (lo hi mx : Option Value) (h : AHeap) (k : Value → Prop) : Prop :=
  match P.underlying t, x with
  | some .string, .string s => match mx with
    | none => boundsK lo hi s.size fun l h => k (.string (s.extract l h))
    | some _ => False
  | some (.slice elem), .slice (some a) len cc => match a.spot with
    | some _ => match P.info? elem with
      | some inf => cond (Nat.beq (cc / 2) inf.size) (match mx with
        | none => boundsK lo hi len fun l h => k (.slice (some (addA a (mul1 l inf.size))) (h - l) (2 * inf.size + cond (Nat.beq h len) (cc % 2) 0))
        | some (.int _ m) => cond (decide (0 ≤ m) && decide (m ≤ len) && hi.isSome) (boundsK lo hi m.toNat fun l h => k (.slice (some (addA a (mul1 l inf.size))) (h - l) (2 * inf.size + cond (Nat.beq h m.toNat) 1 0))) False
        | _ => False) False
      | none => False
    | none => False
  | some (.slice elem), .slice none 0 0 => match P.info? elem, mx with
    | some _, none => boundsK lo hi 0 fun _ _ => k (.slice none 0 0)
    | _, _ => False
  | some (.array n elem), .pointer (some a) => match a.spot with
    | some _ => match P.info? elem, mx with
      | some inf, none => match h[a.block]? with
        | some (.cells _ vs _ _) => cond (decide (a.off + n * inf.size ≤ vs.length)) (boundsK lo hi n fun l h => k (.slice (some (addA a (mul1 l inf.size))) (h - l) (2 * inf.size + cond (Nat.beq h n) 1 0))) False
        | _ => False
      | _, _ => False
    | none => False
  | _, _ => False

def bytesOf (l : List Value) : ByteArray := ⟨(l.map fun v => UInt8.ofNat (intOf v).toNat).toArray⟩
def bytesV (s : ByteArray) : List Value := s.data.toList.map fun b => .int .u8 b.toNat

def elemIs (P : Program) (t : TypeId) (k : IntKind) : Bool :=
  match P.underlying t with
  | some (.slice e) => match P.underlying e with | some (.int k') => decide (k' = k) | _ => false
  | _ => false
def elemOfSlice (P : Program) (t : TypeId) : TypeId := match P.underlying t with | some (.slice e) => e | _ => 0
def isStringT (P : Program) (t : TypeId) : Bool := match P.underlying t with | some .string => true | _ => false

/-- The contents of a slice: its cells. -/
def contents (h : AHeap) (x : Value) (es : Nat) (k : List Value → Bool → Prop) : Prop :=
  match x with
  | .slice none 0 _ => k [] true
  | .slice (some a) n _ => match a.spot with
    | some _ => match h[a.block]? with
      | some (.cells fl vs _ _) => cond (decide (a.off + n * es ≤ vs.length)) (k (cellsAt vs a.off (n * es)) fl) False
      | some (.ro vs _) => cond (decide (a.off + n * es ≤ vs.length)) (k (cellsAt vs a.off (n * es)) true) False
      | _ => False
    | none => False
  | _ => False

def convertK (P : Program) (src dst : TypeId) (x : Value) (h : AHeap) (k : Value → AHeap → Prop) (other : Prop) : Prop :=
  match x with
  | .string s => match elemIs P dst .u8 && isStringT P src with
    | true => k (.slice (some (newAddr h)) s.size 2) (h ++ [.cells true (bytesV s) (elemOfSlice P dst) false])
    | false => other
  | .slice a n cc => match elemIs P src .u8 && isStringT P dst with
    | true => contents h (.slice a n cc) 1 fun l _ => cond (l.all (isInt .u8)) (k (.string (bytesOf l)) h) False
    | false => False
  | _ => other

def oneB : Value → Bool
  | .agg _ | .tuple _ | .chan (some _) => false
  | _ => true
def oneL : List Value → Bool
  | [] => true
  | v :: r => oneB v && oneL r
/-- So many zero values, one behind the other. -/
def zeroRow (z : Array Value) (c size : Nat) : List Value := match z.toList with
  | [v] => List.replicate c v
  | _ => ((Array.range (c * size)).map (z[· % z.size]!)).toList
def makeSliceK (P : Program) (t : TypeId) (len cap : Value) (h : AHeap) (k : Value → AHeap → Prop) : Prop :=
  match P.underlying t, len, cap with
  | some (.slice elem), .int .i64 l, .int .i64 c => match P.info? elem with
    | some inf => match inf.zero with
      | some z => cond (decide (0 ≤ l) && decide (l ≤ c) && decide (c ≤ 9223372036854775807) && decide (inf.bytes * c ≤ 2 ^ 48) && Nat.beq inf.size z.cells.size && flatA z.cells && oneL z.cells.toList)
          (k (.slice (some (newAddr h)) l.toNat (2 * inf.size))
            (h ++ [.cells true (zeroRow z.cells c.toNat inf.size) elem false])) False
      | none => False
    | none => False
  | _, _, _ => False

/-- append: the new contents; a slice that is not nil keeps its block's number, every older naming of the block is poisoned. -/
def appendF (es bytes : Nat) (el : TypeId) (s : Value) (h : AHeap) (k : Value → AHeap → List Nat → Prop) (new : List Value) (flN : Bool) (n : Nat) : Prop :=
  match s with
  | .slice none 0 0 => cond (decide (n * bytes ≤ 2 ^ 47))
      (cond (Nat.beq n 0) (k (.slice none 0 0) h [])
        (k (.slice (some (newAddr h)) n (2 * es)) (h ++ [.cells flN new el false]) [])) False
  | .slice (some a) len cc => match a.spot with
    | some _ => match h[a.block]? with
      | some (.cells fl vs ty _) => cond (Nat.beq (cc / 2) es && Nat.beq ty el && decide (a.off + len * es ≤ vs.length) && decide ((len + n) * bytes ≤ 2 ^ 47))
          (k (.slice (some ⟨a.block, 0, some 0⟩) (len + n) (2 * es)) ((pzH (fun j => Nat.beq j a.block) h).set a.block (.cells (fl && flN) (cond (fl && flN) (cellsAt vs a.off (len * es) ++ new) (pzL (fun j => Nat.beq j a.block) (cellsAt vs a.off (len * es) ++ new))) ty true)) [a.block]) False
      | some (.ro vs _) => cond (Nat.beq (cc % 2) 1 && decide (a.off + len * es ≤ vs.length) && decide (0 < n) && decide ((len + n) * bytes ≤ 2 ^ 47))
          (k (.slice (some (newAddr h)) (len + n) (2 * es)) (h ++ [.cells flN (cellsAt vs a.off (len * es) ++ new) el false]) []) False
      | _ => False
    | none => False
  | _ => False
def appendK (P : Program) (argTypes : Array TypeId) (s x : Value) (h : AHeap) (k : Value → AHeap → List Nat → Prop) : Prop :=
  match argTypes[0]? with
  | some st => match P.underlying st with
    | some (.slice elem) => match P.info? elem with
      | some inf => cond (Nat.blt 0 inf.size && Nat.blt 0 inf.bytes && (match inf.zero with | some z => Nat.beq z.cells.size inf.size | none => false)) (match x with
          | .string b => cond (Nat.beq inf.size 1) (appendF inf.size inf.bytes elem s h k (bytesV b) true b.size) False
          | .slice a n cc => contents h (.slice a n cc) inf.size fun l fl => appendF inf.size inf.bytes elem s h k l fl n
          | _ => False) False
      | none => False
    | _ => False
  | none => False

def copyF (es : Nat) (d : Value) (h : AHeap) (k : Value → AHeap → Prop) (new : List Value) (flN : Bool) (n : Nat) : Prop :=
  match d with
  | .slice (some a) len _ => match a.spot with
    | some _ => match h[a.block]? with
      | some (.cells fl vs ty mv) => cond (decide (a.off + len * es ≤ vs.length))
          (k (.int .i64 (min n len : Nat)) (h.set a.block (.cells (fl && flN) (setCells vs a.off (new.take (min n len * es))) ty mv))) False
      | _ => False
    | none => False
  | _ => False
def copyK (P : Program) (argTypes : Array TypeId) (d x : Value) (h : AHeap) (k : Value → AHeap → Prop) : Prop :=
  match argTypes[0]? with
  | some dt => match P.underlying dt with
    | some (.slice elem) => match P.info? elem with
      | some inf => match x with
        | .string b => cond (Nat.beq inf.size 1) (copyF inf.size d h k (bytesV b) true b.size) False
        | .slice a n cc => contents h (.slice a n cc) inf.size fun l fl => copyF inf.size d h k l fl n
        | _ => False
      | none => False
    | _ => False
  | none => False

def clearK (P : Program) (argTypes : Array TypeId) (x : Value) (h : AHeap) (k : Value → AHeap → Prop) : Prop :=
  match argTypes[0]? with
  | some dt => match P.underlying dt with
    | some (.slice elem) => match P.info? elem with
      | some inf => match inf.zero with
        | some z => match z.cells.toList, x with
          | [v], .slice (some a) n _ => match a.spot with
            | some _ => match h[a.block]? with
              | some (.cells fl vs ty mv) => cond (decide (a.off + n ≤ vs.length) && flat v && oneB v && Nat.beq inf.size 1)
                  (k (.tuple #[]) (h.set a.block (.cells fl (setCells vs a.off (List.replicate n v)) ty mv))) False
              | _ => False
            | none => False
          | _, _ => False
        | none => False
      | none => False
    | _ => False
  | none => False
end Go.Am
