/-
  The abstract machine, part 5: one operation. Own work; plain definitions.
-/
import Derived.Test.YtjbagcmcpmhfnaaDoorAm4
namespace Go.Am
open Go

def evK (e : Env) (x : Operand) (k : Value → Prop) : Prop := match ev e x with | some v => k v | none => False
def evL (e : Env) : List Operand → Option (List Value)
  | [] => some []
  | x :: r => match ev e x with
    | some v => match evL e r with
      | some vs => some (v :: vs)
      | none => none
    | none => none
def evO (e : Env) : Option Operand → Option (Option Value)
  | none => some none
  | some x => match ev e x with | some v => some (some v) | none => none
def evP (e : Env) : List (Nat × Operand) → Option (List (Nat × Value))
  | [] => some []
  | (i, x) :: r => match ev e x with
    | some v => match evP e r with
      | some vs => some ((i, v) :: vs)
      | none => none
    | none => none

def rho (e : Env) (x : Operand) : Value := (ev e x).getD undef
def allFlat (e : Env) : List Operand → Bool
  | [] => true
  | x :: r => match ev e x with | some v => flat v && allFlat e r | none => false
/-- An operation that touches no memory, on operands that name none: the model's own words. -/
def pureK (P : Program) (o : Oper) (e : Env) (k : Value → Prop) : Prop :=
  cond (allFlat e o.op.operands.toList) (match pureRun P (execOp (rho e) o) with
    | some (.value v) => cond (flat v) (k v) False
    | _ => False) False

/-- Strings by their bytes. -/
def eqLB : List UInt8 → List UInt8 → Bool
  | [], [] => true
  | a :: x, b :: y => Nat.beq a.toNat b.toNat && eqLB x y
  | _, _ => false
def strEq (a b : ByteArray) : Bool := eqLB a.data.toList b.data.toList
def partO (P : Program) (t : TypeId) (xs : List Value) (off : Nat) : Option Value :=
  match aggO P t with
  | some true => match P.info? t with
    | some i => some (.agg ⟨cellsAt xs off i.size⟩)
    | none => none
  | some false => xs[off]?
  | none => none
def eqFs (P : Program) (q : TypeId → Value → Value → Option Bool) (xs ys : List Value) : List Field → Option Bool
  | [] => some true
  | f :: r => cond (decide (f.name = "_")) (eqFs P q xs ys r) (match partO P f.type xs f.offset with
    | some a => match partO P f.type ys f.offset with
      | some b => match q f.type a b with
        | some p => match eqFs P q xs ys r with
          | some q => some (p && q)
          | none => none
        | none => none
      | none => none
    | none => none)
def eqB2 : Value → Value → Option Bool
  | .bool a, .bool b => some (a == b)
  | _, _ => none
def eqI2 : Value → Value → Option Bool
  | .int k a, .int k' b => cond (decide (k = k')) (some (decide (a = b))) none
  | _, _ => none
def eqS2 : Value → Value → Option Bool
  | .string a, .string b => some (strEq a b)
  | _, _ => none
def eqA2 (q : Array Value → Array Value → Option Bool) : Value → Value → Option Bool
  | .agg xs, .agg ys => q xs ys
  | _, _ => none
/-- Values without a field of interface type: are they equal? -/
def eqD (P : Program) : Nat → TypeId → Value → Value → Option Bool
  | 0 => fun _ _ _ => none
  | d + 1 => fun t x y => match P.underlying t with
    | some .bool => eqB2 x y
    | some (.int _) => eqI2 x y
    | some .string => eqS2 x y
    | some (.struct fs) => cond (P.stoodInHeld t) none (eqA2 (fun xs ys => eqFs P (eqD P d) xs.toList ys.toList fs.toList) x y)
    | _ => none
def aggEqK (P : Program) (t : TypeId) (xs ys : Array Value) (k : Bool → Prop) : Prop :=
  cond (P.eqGuardType P.depth t || !(flatA xs) || !(flatA ys)) False (match eqD P 100 t (.agg xs) (.agg ys) with
    | some b => k b
    | none => False)
def eqK (P : Program) (t : TypeId) (x y : Value) (k : Bool → Prop) (other : Prop) : Prop :=
  match x, y with
  | .pointer none, .pointer (some _) => match P.underlying t with | some (.pointer _) => k false | _ => False
  | .pointer (some _), .pointer none => match P.underlying t with | some (.pointer _) => k false | _ => False
  | .pointer (some a), .pointer (some b) => match P.underlying t with
    | some (.pointer el) => match P.info? el with
      | some i => match i.size with
        | 0 => False
        | _ + 1 => cond (a.spot.isSome && b.spot.isSome && Nat.beq a.block b.block) (k (decide (a.off = b.off))) False
      | none => False
    | _ => False
  | .slice none _ _, .slice (some _) _ _ => match P.underlying t with | some (.slice _) => k false | _ => False
  | .slice (some _) _ _, .slice none _ _ => match P.underlying t with | some (.slice _) => k false | _ => False
  | .map none, .map (some _) => match P.underlying t with | some (.map _ _) => k false | _ => False
  | .map (some _), .map none => match P.underlying t with | some (.map _ _) => k false | _ => False
  | .nilFunc, .func _ _ _ => match P.underlying t with | some (.func _ _ _) => k false | _ => False
  | .func _ _ _, .nilFunc => match P.underlying t with | some (.func _ _ _) => k false | _ => False
  | _, _ => other

def binK (P : Program) (op : BinOp) (t : TypeId) (x y : Value) (k : Value → Prop) (other : Prop) : Prop :=
  match op with
  | .shl => match x, y with
    | .int kd a, .int _ b => cond (decide (0 ≤ b)) (k (.int kd (kd.wrap (a * 2 ^ min b.toNat kd.bits)))) False
    | _, _ => False
  | .shr => match x, y with
    | .int kd a, .int _ b => cond (decide (0 ≤ b)) (k (.int kd (a.fdiv (2 ^ min b.toNat kd.bits)))) False
    | _, _ => False
  | .quo => match x, y with
    | .int kd a, .int kd' b => cond (decide (kd = kd') && !decide (b = 0)) (k (.int kd (kd.wrap (a.tdiv b)))) False
    | _, _ => False
  | .rem => match x, y with
    | .int kd a, .int kd' b => cond (decide (kd = kd') && !decide (b = 0)) (k (.int kd (a.tmod b))) False
    | _, _ => False
  | .add => match x, y with
    | .string a, .string b => cond (decide (((a.size + b.size : Nat) : Int) ≤ IntKind.i64.max)) (k (.string (a ++ b))) False
    | _, _ => other
  | .eql => match x, y with
    | .string a, .string b => k (.bool (strEq a b))
    | .agg xs, .agg ys => aggEqK P t xs ys fun b => k (.bool b)
    | _, _ => eqK P t x y (fun b => k (.bool b)) other
  | .neq => match x, y with
    | .string a, .string b => k (.bool !strEq a b)
    | .agg xs, .agg ys => aggEqK P t xs ys fun b => k (.bool !b)
    | _, _ => eqK P t x y (fun b => k (.bool !b)) other
  | _ => other

def fieldK (P : Program) (t : TypeId) (x : Value) (f : Nat) (k : Value → Prop) : Prop :=
  match x with
  | .agg cs => match P.underlying t with
    | some (.struct fields) => match fields[f]? with
      | some fd => match aggO P fd.type with
        | some true => (match P.info? fd.type with
          | some i => k (.agg ⟨cellsAt cs.toList fd.offset i.size⟩)
          | none => False)
        | some false => (match cs.toList[fd.offset]? with
          | some v => k v
          | none => False)
        | none => False
      | none => False
    | _ => False
  | _ => False

def zeroFlat (P : Program) (t : TypeId) : Bool := match P.info? t with | some i => (match i.zero with | some z => flatA z.cells | none => false) | none => false
def onePs : List (Nat × Value) → Bool
  | [] => true
  | p :: r => oneL p.2.cells.toList && onePs r

/-! ### a heap brought to plain form: the kernel would else put it together anew at each use -/
def frI (l : List Nat) (k : List Nat → Prop) : Prop := match l with
  | [] => k []
  | i :: r => strictN i fun i => frI r fun r => k (i :: r)
theorem frI_eq (l : List Nat) : ∀ k : List Nat → Prop, frI l k = k l := by
  induction l with
  | nil => exact fun k => rfl
  | cons o h ih => exact fun k => by rw [frI, strictN_eq, ih]
def frL (l : List Value) (k : List Value → Prop) : Prop := match l with
  | [] => k []
  | v :: l => frL l fun l => k (v :: l)
theorem frL_eq (l : List Value) : ∀ k : List Value → Prop, frL l k = k l := by
  induction l with
  | nil => exact fun k => rfl
  | cons o h ih => exact fun k => by rw [frL, ih]
def frO (o : AObj) (k : AObj → Prop) : Prop := match o with
  | .cells true vs t mv => k (.cells true vs t mv)
  | .cells false vs t mv => frL vs fun vs => k (.cells false vs t mv)
  | .ro vs t => k (.ro vs t)
  | .map es => k (.map es)
  | .siter s p => k (.siter s p)
  | .dead => k .dead
theorem frO_eq (o : AObj) (k : AObj → Prop) : frO o k = k o := by
  cases o with
  | cells fl vs t mv => cases fl <;> simp only [frO, frL_eq]
  | _ => rfl
def frH (h : AHeap) (k : AHeap → Prop) : Prop := match h with
  | [] => k []
  | o :: h => frO o fun o => frH h fun h => k (o :: h)
theorem frH_eq (h : AHeap) : ∀ k : AHeap → Prop, frH h k = k h := by
  induction h with
  | nil => exact fun k => rfl
  | cons o h ih => exact fun k => by rw [frH, frO_eq, ih]

def callK' (c : Cfg) (f : FuncId) (args : List Value) (h : AHeap) (k : Value → AHeap → List Nat → Prop) (ι : List Nat) : Prop :=
  cond (closedB h ι && idsBL (fun j => memB j ι) args)
    (c.C f (rnL (findI ι) args) (pullH true h ι) fun u h1 => frH (mergeH ι h h1) fun h2 => k (rn (pushI ι h.length) u) h2 (movedIds ι h1)) False
def callK (c : Cfg) (f : FuncId) (args : List Value) (h : AHeap) (k : Value → AHeap → List Nat → Prop) : Prop :=
  frI (reach 4000 h (idsVL args) []) (callK' c f args h k)
/-- The function has a text of its own: its call enters it. -/
def entersB (P : Program) (f : FuncId) : Bool := match P.funcs[f]? with | some fn => fn.body.isSome && !(fn.name == "runtime.NumGoroutine") | none => false

def lenK (P : Program) (t : TypeId) (x : Value) (k : Value → Prop) (other : Prop) : Prop :=
  match x with
  | .slice (some _) n _ => match P.underlying t with | some (.slice _) => k (.int .i64 (n : Nat)) | _ => False
  | .slice none n _ => match P.underlying t with | some (.slice _) => k (.int .i64 (n : Nat)) | _ => False
  | _ => other

def builtinK (c : Cfg) (b : Builtin) (argTypes : Array TypeId) (args : List Value) (h : AHeap) (k : Value → AHeap → List Nat → Prop) (other : Prop) : Prop :=
  match b with
  | .len => match args with | [x] => (match argTypes[0]? with | some t => lenK c.P t x (fun v => k v h []) other | none => False) | _ => False
  | .append => match args with | [s, x] => cond (match argTypes[1]? with | some xt => (match c.P.underlying xt with | some (.slice _) => true | some .string => true | _ => false) | none => false) (appendK c.P argTypes s x h k) False | _ => False
  | .copy => match args with | [d, x] => copyK c.P argTypes d x h (fun v h' => k v h' []) | _ => False
  | .clear => match args with | [x] => clearK c.P argTypes x h (fun v h' => k v h' []) | _ => False
  | _ => other

def execK (c : Cfg) (o : Oper) (e : Env) (h : AHeap) (k : Value → AHeap → List Nat → Prop) : Prop :=
  let pr : Prop := pureK c.P o e fun v => k v h []
  match o.op with
  | .move x => evK e x fun v => k v h []
  | .assign x => evK e x fun v => k v h []
  | .pick x a b => evK e x fun v => match v with
    | .bool t => cond t (evK e a fun u => k u h []) (evK e b fun u => k u h [])
    | _ => False
  | .alloc t => match c.P.info? t with
    | some i => match i.zero with
      | some z => cond (oneL z.cells.toList && flatL z.cells.toList) (allocK t z.cells.toList h fun v h' => k v h' []) False
      | none => False
    | none => False
  | .box t x => evK e x fun v => cond (oneL v.cells.toList) (allocK t v.cells.toList h fun v h' => k v h' []) False
  | .build t parts => match evP e parts.toList with
    | some ps => cond (zeroFlat c.P t && onePs ps) (match pureRun c.P (Instr.build t ps.toArray) with
      | some v => k v h []
      | none => False) False
    | none => False
  | .buildSlice t n parts => match evP e parts.toList with
    | some ps => match c.P.underlying t with
      | some (.slice el) => match c.P.info? el with
        | some i => match i.zero with
          | some z => cond (decide (n * i.size ≤ 2 ^ 24) && flatA z.cells && Nat.beq i.size z.cells.size && onePs ps) (match Instr.fill (fun j => some (j * i.size, i.size)) (cond (Nat.beq (n * i.size) 0) #[] ((Array.range (n * i.size)).map (z.cells[· % z.cells.size]!))) ps with
            | some cs => cond (oneL cs.toList) (k (.slice (some (newAddr h)) n (2 * i.size + 1)) (h ++ [.cells (flatL cs.toList) cs.toList el false]) []) False
            | none => False) False
          | none => False
        | none => False
      | _ => False
    | none => False
  | .load t a => evK e a fun ad => loadK c t ad h fun v => k v h []
  | .store t a x => evK e a fun ad => evK e x fun v => cond (oneL v.cells.toList) (storeK c.P t ad v h fun h' => k undef h' []) False
  | .nilCheck x => evK e x fun v => match v with
    | .pointer (some a) => k (.pointer (some a)) h []
    | .func (.func f) a b => k (.func (.func f) a b) h []
    | _ => False
  | .binOp op t x y _ => evK e x fun a => evK e y fun b => binK c.P op t a b (fun v => k v h []) pr
  | .convert s d x => evK e x fun v => convertK c.P s d v h (fun u h' => k u h' []) pr
  | .makeInterface t x => evK e x fun v => match c.P.underlying t with
    | some (.interface _) => False
    | some _ => k (.iface t v) h []
    | none => False
  | .makeFunc fn first captured => match evL e first.toList, evL e captured.toList with
    | some fs, some cs => k (.func fn ⟨fs⟩ ⟨cs⟩) h []
    | _, _ => False
  | .makeSlice t l cp => evK e l fun lv => evK e cp fun cv => makeSliceK c.P t lv cv h fun v h' => k v h' []
  | .slice t x lo hi mx => evK e x fun v => match evO e lo, evO e hi, evO e mx with
    | some l, some hh, some m => sliceK c.P t v l hh m h fun u => k u h []
    | _, _, _ => False
  | .fieldAddr t x f => evK e x fun v => fieldAddrK c.P t v f fun u => k u h []
  | .indexAddr t x ix => evK e x fun v => evK e ix fun i => indexAddrK c.P t v i fun u => k u h []
  | .index t x ix => evK e x fun v => evK e ix fun i => indexK c.P t v i fun u => k u h []
  | .field t x f => evK e x fun v => fieldK c.P t v f fun u => k u h []
  | .extract x i => evK e x fun v => match v with
    | .tuple vs => match vs.toList[i]? with
      | some u => k u h []
      | none => False
    | _ => False
  | .unOp _ _ _ => pr
  | .typeAssert _ _ _ _ => pr
  | .call cl => match evL e cl.args.toList with
    | some args => match cl.callee with
      | .value f => evK e f fun fv => match fv with
        | .func (.func fid) first captured => cond (entersB c.P fid) (callK c fid (first.toList ++ args ++ captured.toList) h k) pr
        | _ => False
      | .builtin b => builtinK c b cl.argTypes args h k pr
      | .invoke _ _ => False
    | none => False
  | _ => False
end Go.Am
