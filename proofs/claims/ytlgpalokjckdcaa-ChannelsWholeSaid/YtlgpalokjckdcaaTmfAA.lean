/-
  Tmframe: plain mathematics. Own work.
-/
import Derived.Test.YtlgpalokjckdcaaAmY
namespace Go.Am.Clt
open Go Go.Am Go.Am.Lib
set_option maxRecDepth 100000

/-! ### the register -/
/-- One more bit, and the division by the polynomial. -/
def step (r b:Nat):Nat:=if 2 * r + b < 128 then 2 * r + b else (2 * r + b) ^^^ 197
/-- The same for what is multiplied by x^7. -/
def stepC (r b:Nat):Nat:=(2 * r % 128) ^^^ (if (r / 64 + b) % 2 = 1 then 69 else 0)
def fold (l:List Nat) (r:Nat):Nat:=l.foldl step r
def z7 (r:Nat):Nat:=fold [0,0,0,0,0,0,0] r
attribute [irreducible] step stepC z7

/-! ### it is linear -/
theorem xor4 (a b c d:Nat):(a ^^^ b) ^^^ (c ^^^ d) = (a ^^^ c) ^^^ (b ^^^ d):=by
 rw [Nat.xor_assoc,Nat.xor_assoc,← Nat.xor_assoc b c d,Nat.xor_comm b c,Nat.xor_assoc c b d]

/-! ### bytes -/

/-! ### the powers of x -/
end Go.Am.Clt

namespace Go.Am.Tmf
open Go Go.Am Go.Am.Lib Go.Am.Clt
set_option maxRecDepth 100000

def stp (c:Nat):Nat:=(2 * c % 65536) ^^^ (c / 32768 % 2 * 4129)
def stpN:Nat → Nat → Nat
 | 0,c=>c
 | n + 1,c=>stpN n (stp c)
def stB (c b:Nat):Nat:=(2 * c % 65536) ^^^ (if c / 32768 = b then 0 else 4129)

theorem xor16 {a b:Nat} (ha:a < 65536) (hb:b < 65536):a ^^^ b < 65536:=Nat.xor_lt_two_pow (n:=16) ha hb
theorem stp_lt (c:Nat):stp c < 65536:=by
 unfold stp
 refine xor16 (by omega) ?_
 have:=Nat.mod_lt (c / 32768) (show 0 < 2 by omega)
 omega
theorem stB_lt (c b:Nat):stB c b < 65536:=by
 unfold stB
 refine xor16 (by omega) ?_
 split <;> omega
theorem stpN_lt:∀ (n:Nat) {c:Nat},c < 65536 → stpN n c < 65536
 | 0,_,h=>h
 | n + 1,_,_=>stpN_lt n (stp_lt _)

/-! ### the step is linear -/
theorem bit_xor (a b k:Nat):(a ^^^ b) / 2 ^ k % 2 = (a / 2 ^ k % 2) ^^^ (b / 2 ^ k % 2):=by
 have h:∀ n:Nat,n / 2 ^ k % 2 = (n.testBit k).toNat:=fun n=>by rw [Nat.toNat_testBit]
 rw [h,h,h,Nat.testBit_xor]
 cases a.testBit k <;> cases b.testBit k <;> rfl
theorem sh_xor (a b:Nat):2 * (a ^^^ b) % 65536 = (2 * a % 65536) ^^^ (2 * b % 65536):=by
 apply Nat.eq_of_testBit_eq
 intro i
 have e:∀ x:Nat,(2 * x % 65536).testBit i = (decide (i < 16) && (decide (1 ≤ i) && x.testBit (i - 1))):=fun x=>by
  rw [show 65536 = 2 ^ 16 from rfl,Nat.testBit_mod_two_pow,show 2 * x = 2 ^ 1 * x by omega,Nat.testBit_two_pow_mul]
 rw [Nat.testBit_xor,e,e,e,Nat.testBit_xor]
 cases decide (i < 16) <;> cases decide (1 ≤ i) <;> simp
theorem x4 (a b c d:Nat):(a ^^^ b) ^^^ (c ^^^ d) = (a ^^^ c) ^^^ (b ^^^ d):=xor4 a b c d
theorem mul_xor {p q:Nat} (hp:p < 2) (hq:q < 2):(p ^^^ q) * 4129 = p * 4129 ^^^ q * 4129:=by
 have h1:p = 0 ∨ p = 1:=by omega
 have h2:q = 0 ∨ q = 1:=by omega
 rcases h1 with rfl | rfl <;> rcases h2 with rfl | rfl <;> rfl
theorem stp_xor (a b:Nat):stp (a ^^^ b) = stp a ^^^ stp b:=by
 unfold stp
 rw [sh_xor,show 32768 = 2 ^ 15 from rfl,bit_xor,mul_xor (Nat.mod_lt _ (by omega)) (Nat.mod_lt _ (by omega)),x4]
theorem stpN_xor:∀ (n a b:Nat),stpN n (a ^^^ b) = stpN n a ^^^ stpN n b
 | 0,_,_=>rfl
 | n + 1,a,b=>by rw [stpN,stpN,stpN,stp_xor,stpN_xor n]
theorem xadd {k a b:Nat} (h:b < 2 ^ k):2 ^ k * a ^^^ b = 2 ^ k * a + b:=by
 apply Nat.eq_of_testBit_eq
 intro i
 rw [Nat.testBit_xor,Nat.testBit_two_pow_mul,Nat.testBit_two_pow_mul_add _ h]
 by_cases hi:i < k
 · rw [if_pos hi,decide_eq_false (by omega)];simp
 · rw [if_neg hi,decide_eq_true (by omega),Nat.testBit_lt_two_pow (Nat.lt_of_lt_of_le h (Nat.pow_le_pow_right (by decide) (by omega)))]
   simp
theorem stp_small {c:Nat} (h:c < 32768):stp c = 2 * c:=by
 unfold stp
 rw [show c / 32768 = 0 by omega,Nat.mod_eq_of_lt (by omega)];simp
theorem stpN_small:∀ (n:Nat) {c:Nat},n ≤ 16 → c < 2 ^ (16 - n) → stpN n c = 2 ^ n * c
 | 0,c,_,_=>by rw [Nat.pow_zero,Nat.one_mul];rfl
 | n + 1,c,hn,h=>by
  have e:2 ^ (16 - n) = 2 * 2 ^ (16 - (n + 1)):=by rw [show 16 - n = (16 - (n + 1)) + 1 by omega,Nat.pow_succ];omega
  have h15:2 ^ (16 - (n + 1)) ≤ 2 ^ 15:=Nat.pow_le_pow_right (by omega) (by omega)
  rw [stpN,stp_small (by omega),stpN_small n (by omega) (by omega),Nat.pow_succ,Nat.mul_assoc]
theorem stB_stp {c b:Nat} (hc:c < 65536) (hb:b < 2):stB c b = stp (c ^^^ b * 32768):=by
 unfold stB
 rw [stp_xor]
 unfold stp
 have hb':b = 0 ∨ b = 1:=by omega
 have hq:c / 32768 = 0 ∨ c / 32768 = 1:=by omega
 rcases hb' with rfl | rfl <;> rcases hq with h | h <;> rw [h] <;> simp [Nat.xor_assoc]
/-! ### a byte -/
theorem top_add {n x:Nat} (hn:n + 1 ≤ 16):(x / 2 ^ n % 2) * 32768 ^^^ (x % 2 ^ n) * 2 ^ (16 - (n + 1)) = (x % 2 ^ (n + 1)) * 2 ^ (16 - (n + 1)):=by
 have hlt:(x % 2 ^ n) * 2 ^ (16 - (n + 1)) < 2 ^ 15:=by
  have h1:=Nat.mod_lt x (Nat.two_pow_pos n)
  have h2:=Nat.two_pow_pos (16 - (n + 1))
  have e:2 ^ 15 = 2 ^ n * 2 ^ (16 - (n + 1)):=by rw [← Nat.pow_add];congr 1;omega
  rw [e]
  exact Nat.mul_lt_mul_of_pos_right h1 h2
 rw [Nat.mul_comm _ 32768,show 32768 = 2 ^ 15 from rfl,xadd hlt,Nat.mod_pow_succ]
 have e:2 ^ 15 = 2 ^ n * 2 ^ (16 - (n + 1)):=by rw [← Nat.pow_add];congr 1;omega
 rw [e,Nat.add_mul]
 have:2 ^ n * 2 ^ (16 - (n + 1)) * (x / 2 ^ n % 2) = 2 ^ n * (x / 2 ^ n % 2) * 2 ^ (16 - (n + 1)):=by
  rw [Nat.mul_assoc,Nat.mul_assoc,Nat.mul_comm (2 ^ (16 - (n + 1)))]
 omega
/-- n bits of x, the highest first -/
def bitsM:Nat → Nat → Nat → Nat
 | 0,_,c=>c
 | n + 1,x,c=>bitsM n x (stB c (x / 2 ^ n % 2))
theorem bitsM_eq:∀ (n x:Nat) {c:Nat},n ≤ 16 → c < 65536 → bitsM n x c = stpN n (c ^^^ (x % 2 ^ n) * 2 ^ (16 - n))
 | 0,x,c,_,_=>by rw [Nat.pow_zero,Nat.mod_one,Nat.zero_mul,Nat.xor_zero];rfl
 | n + 1,x,c,hn,hc=>by
  have hb:=Nat.mod_lt (x / 2 ^ n) (show 0 < 2 by omega)
  rw [bitsM,bitsM_eq n x (by omega) (stB_lt _ _),stB_stp hc hb,stpN]
  have h15:(x % 2 ^ n) * 2 ^ (16 - (n + 1)) < 32768:=by
   have h1:=Nat.mod_lt x (Nat.two_pow_pos n)
   have e:32768 = 2 ^ n * 2 ^ (16 - (n + 1)):=by rw [← Nat.pow_add,show n + (16 - (n + 1)) = 15 by omega]
   rw [e]
   exact Nat.mul_lt_mul_of_pos_right h1 (Nat.two_pow_pos _)
  have e2:(x % 2 ^ n) * 2 ^ (16 - n) = stp ((x % 2 ^ n) * 2 ^ (16 - (n + 1))):=by
   rw [stp_small h15,show 16 - n = (16 - (n + 1)) + 1 by omega,Nat.pow_succ]
   rw [← Nat.mul_assoc,Nat.mul_comm]
  rw [e2,← stp_xor,Nat.xor_assoc,top_add hn]
/-- The register behind a byte. -/
def stp8 (c x:Nat):Nat:=stpN 8 (c ^^^ x * 256)
theorem stp8_lt {c x:Nat} (hc:c < 65536) (hx:x < 256):stp8 c x < 65536:=stpN_lt 8 (xor16 hc (by omega))
theorem low8 {x:Nat} (hx:x < 256):stpN 8 x = x * 256:=by rw [stpN_small 8 (by omega) (by omega)];omega
theorem split8 (c:Nat):c = (c / 256 * 256) ^^^ (c % 256):=by
 have:=xadd (k:=8) (a:=c / 256) (b:=c % 256) (by omega)
 rw [Nat.mul_comm (c / 256),show 256 = 2 ^ 8 from rfl,this];omega
theorem mul256_xor (a b:Nat):(a ^^^ b) * 256 = a * 256 ^^^ b * 256:=by
 apply Nat.eq_of_testBit_eq
 intro i
 rw [Nat.testBit_xor,Nat.mul_comm _ 256,Nat.mul_comm a,Nat.mul_comm b,show 256 = 2 ^ 8 from rfl,Nat.testBit_two_pow_mul,Nat.testBit_two_pow_mul,Nat.testBit_two_pow_mul,Nat.testBit_xor]
 cases decide (i ≥ 8) <;> simp
/-- A byte by the table. -/
theorem byteT_eq {c x:Nat} (_hc:c < 65536):(c * 256 % 65536) ^^^ stpN 8 ((c / 256 ^^^ x) * 256) = stp8 c x:=by
 have h:=split8 c
 have e:c ^^^ x * 256 = (c / 256 ^^^ x) * 256 ^^^ (c % 256):=by
  rw [mul256_xor,Nat.xor_assoc,Nat.xor_comm (x * 256),← Nat.xor_assoc,← h]
 have e2:c * 256 % 65536 = c % 256 * 256:=by omega
 unfold stp8
 clear h
 have h2:=low8 (x:=c % 256) (by omega)
 rw [e,stpN_xor,h2,Nat.xor_comm,e2]
/-! ### a string -/
def crcGo:Nat → ByteArray → Nat → Nat → Nat
 | 0,_,_,c=>c
 | n + 1,s,i,c=>crcGo n s (i + 1) (stp8 c (byteAt s i))
def crc (s:ByteArray):Nat:=crcGo s.size s 0 65535
theorem crcGo_lt:∀ (n:Nat) (s:ByteArray) (i:Nat) {c:Nat},c < 65536 → crcGo n s i c < 65536
 | 0,_,_,_,h=>h
 | n + 1,s,i,_,h=>crcGo_lt n s (i + 1) (stp8_lt h (byteAt_lt _ _))
theorem crc_lt (s:ByteArray):crc s < 65536:=crcGo_lt _ _ _ (by omega)
/-! ### what is zero -/
end Go.Am.Tmf

namespace Go.Am.Tmf
open Go Go.Am Go.Am.Lib
set_option maxRecDepth 100000

abbrev L8:=List UInt8
/-- The program's filler: the bytes that wait, where packets begin in them, the idle rest's length. -/
structure FS where
 size:Nat
 q:L8
 st:List Nat
 idle:Nat
/-- The reference's. -/
structure RS where
 size:Nat
 L:List L8
 begun:Bool
 rest:L8
def firstOf (n:Nat):List Nat → Nat
 | []=>2047
 | a :: _=>if a < n then a else 2047
theorem firstOf_cons (n a:Nat) (l:List Nat):firstOf n (a :: l) = if a < n then a else 2047:=rfl
def cutS (n:Nat) (l:List Nat):List Nat:=(l.filter fun a=>decide (n ≤ a)).map fun a=>a - n
/-- The first place of all: where packets begin. -/
def stOf:Nat → Bool → List L8 → List Nat
 | _,_,[]=>[]
 | b,true,p :: r=>stOf (b + p.length) false r
 | b,false,p :: r=>b :: stOf (b + p.length) false r
def cat (L:List L8):L8:=L.flatten
def lenS (L:List L8):Nat:=(cat L).length


theorem stOf_ge:∀ (L:List L8) (b:Nat) (bg:Bool),∀ a ∈ stOf b bg L,b ≤ a
 | [],_,_,a,h=>by cases h
 | p :: r,b,true,a,h=>by
  have:=stOf_ge r _ _ a h
  omega
 | p :: r,b,false,a,h=>by
  rcases List.mem_cons.1 h with h | h
  · omega
  · have:=stOf_ge r _ _ a h
    omega
theorem stOf_shift:∀ (L:List L8) (n b:Nat) (bg:Bool),stOf (n + b) bg L = (stOf b bg L).map fun a=>n + a
 | [],_,_,_=>rfl
 | p :: r,n,b,true=>by rw [stOf,stOf,Nat.add_assoc,stOf_shift r]
 | p :: r,n,b,false=>by rw [stOf,stOf,Nat.add_assoc,stOf_shift r,List.map_cons]
theorem cutS_shift (n:Nat):∀ l:List Nat,cutS n (l.map fun a=>n + a) = l
 | []=>rfl
 | a :: l=>by
  have h:=cutS_shift n l
  unfold cutS at h ⊢
  rw [List.map_cons,List.filter_cons,decide_eq_true (by omega),if_pos rfl,List.map_cons,h]
  congr 1
  omega
theorem cutS_drop {n a:Nat} (h:a < n) (l:List Nat):cutS n (a :: l) = cutS n l:=by
 unfold cutS
 rw [List.filter_cons,decide_eq_false (by omega)]
 rfl
theorem cutS_snoc (n:Nat) (l:List Nat) (a:Nat):cutS n (l ++ [a]) = cutS n l ++ (if n ≤ a then [a - n] else []):=by
 unfold cutS
 rw [List.filter_append,List.map_append]
 congr 1
 by_cases h:n ≤ a
 · rw [if_pos h,List.filter_cons,decide_eq_true h];rfl
 · rw [if_neg h,List.filter_cons,decide_eq_false h];rfl


/-! ### the calls -/
def FS.wait (x:FS):Nat:=x.q.length - x.idle
def FS.add (x:FS) (p:L8):FS:={ x with q:=x.q ++ p,st:=x.st ++ [x.q.length] }
def FS.pad (idle:Nat → L8) (x:FS):FS :=
 if x.q.length < x.size then { x.add (idle (max (x.size - x.q.length) 7)) with idle:=max (x.size - x.q.length) 7 - (x.size - x.q.length) } else { x with idle:=0 }
def FS.cut (x:FS):FS:={ x with q:=x.q.drop x.size,st:=cutS x.size x.st }
def FS.next (idle:Nat → L8) (x:FS):FS:=(x.pad idle).cut
def FS.data (idle:Nat → L8) (x:FS):L8:=(x.pad idle).q.take x.size
def FS.first (idle:Nat → L8) (x:FS):Nat:=firstOf x.size (x.pad idle).st
structure Rel (x:FS) (y:RS):Prop where
 size:x.size = y.size
 lo:32 ≤ x.size
 hi:x.size ≤ 200
 q:x.q = y.rest ++ cat y.L
 idle:x.idle = y.rest.length
 rest:y.rest.length ≤ 6
 st:x.st = stOf y.rest.length y.begun y.L
 ne:∀ p ∈ y.L,p ≠ []
 bg:y.L = [] → y.begun = false
theorem stOf_snoc:∀ (L:List L8) (b:Nat) (bg:Bool) (p:L8),(L = [] → bg = false) → stOf b bg (L ++ [p]) = stOf b bg L ++ [b + lenS L]
 | [],b,bg,p,h=>by
  rw [h rfl]
  rfl
 | p :: r,b,true,q,_=>by
  show stOf (b + p.length) false (r ++ [q]) = stOf (b + p.length) false r ++ _
  rw [stOf_snoc r _ _ q (fun _=>rfl)]
  congr 2
  unfold lenS cat
  rw [List.flatten_cons,List.length_append];omega
 | p :: r,b,false,q,_=>by
  show b :: stOf (b + p.length) false (r ++ [q]) = (b :: stOf (b + p.length) false r) ++ _
  rw [stOf_snoc r _ _ q (fun _=>rfl),List.cons_append]
  congr 3
  unfold lenS cat
  rw [List.flatten_cons,List.length_append];omega
end Go.Am.Tmf
