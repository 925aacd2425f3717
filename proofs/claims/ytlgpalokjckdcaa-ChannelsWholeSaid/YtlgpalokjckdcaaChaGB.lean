/-
  Channels: a mux in memory. Own work.
-/
import Derived.Test.YtlgpalokjckdcaaChaGA
import Derived.Test.YtlgpalokjckdcaaTmfAD
import Derived.Lib.SliceRun
import Derived.Test.YtlgpalokjckdcaaChaB1
import Derived.Test.YtlgpalokjckdcaaChaB2
import Derived.Test.YtlgpalokjckdcaaChaB3
namespace Go.Am.Cha
open Go Go.Am Go.Am.Lib Go.Lib Go.Proofs Go.RowKit
open Go.Am.Own
open Go.Am.Tmf (FS FAt FC OkF idleL)
set_option maxRecDepth 100000

/-- A channel of a mux: its filler, priority, share, credit, count. -/
structure Sr where
 x:FS
 pr:Nat
 sh:Nat
 cr:Nat
 ct:Nat
structure MS where
 craft:Nat
 size:Nat
 master:Nat
 f:Nat → Sr
def upd (f:Nat → Sr) (k:Nat) (s:Sr):Nat → Sr:=fun j=>if j = k then s else f j
theorem upd_same (f:Nat → Sr) (k:Nat) (s:Sr):upd f k s k = s:=if_pos rfl
theorem upd_other (f:Nat → Sr) {k j:Nat} (s:Sr) (h:j ≠ k):upd f k s j = f j:=if_neg h
def intN (n:Nat):Value:=.int .i64 ((n:Nat):Int)
def srC (b:Nat) (s:Sr):List Value:=[.pointer (some ⟨b,0,none⟩),intN s.pr,intN s.sh,intN s.cr,intN s.ct]
def flN (bk:Nat → Nat) (f:Nat → Sr):Nat → List Value
 | 0=>[]
 | n + 1=>flN bk f n ++ srC (bk n) (f n)
theorem flN_len (bk:Nat → Nat) (f:Nat → Sr):∀ n,(flN bk f n).length = n * 5
 | 0=>rfl
 | n + 1=>by
  show (flN bk f n ++ srC (bk n) (f n)).length = _
  rw [List.length_append,flN_len bk f n]
  show n * 5 + 5 = _
  omega
theorem flN_get (bk:Nat → Nat) (f:Nat → Sr) {k q:Nat} (hq:q < 5):∀ {n},k < n → (flN bk f n)[k * 5 + q]? = (srC (bk k) (f k))[q]?
 | 0,h=>absurd h (Nat.not_lt_zero _)
 | n + 1,h=>by
  have hl:=flN_len bk f n
  show (flN bk f n ++ srC (bk n) (f n))[k * 5 + q]? = _
  rcases Nat.lt_or_ge k n with h1 | h1
  · rw [List.getElem?_append_left (by omega),flN_get bk f hq h1]
  · have e:k = n:=by omega
    subst e
    rw [List.getElem?_append_right (by omega),hl]
    congr 1
    omega
theorem flN_ext {n:Nat} {l:List Value} {bk:Nat → Nat} {f:Nat → Sr} (hl:l.length = n * 5) (h:∀ k q,k < n → q < 5 → l[k * 5 + q]? = (srC (bk k) (f k))[q]?):l = flN bk f n:=by
 apply List.ext_getElem?
 intro j
 rcases Nat.lt_or_ge j (n * 5) with hj | hj
 · obtain ⟨q,r,hr,rfl⟩:∃ q r,r < 5 ∧ j = q * 5 + r:=⟨j / 5,j % 5,by omega,by omega⟩
   rw [h q r (by omega) hr,flN_get bk f hr (by omega)]
 · rw [List.getElem?_eq_none (by omega),List.getElem?_eq_none (by rw [flN_len];omega)]
theorem flN_set {n k p:Nat} {v:Value} {bk:Nat → Nat} {f:Nat → Sr} {s:Sr} (hk:k < n) (hp:p < 5) (h:(srC (bk k) (f k)).set p v = srC (bk k) s):(flN bk f n).set (k * 5 + p) v = flN bk (upd f k s) n:=by
 refine flN_ext (by rw [List.length_set,flN_len]) fun j q hj hq=>?_
 rw [List.getElem?_set]
 by_cases e:j = k
 · subst e
   rw [upd_same,← h,List.getElem?_set,flN_len,flN_get bk f hq hj]
   by_cases e2:p = q
   · subst e2;rw [if_pos rfl,if_pos rfl,if_pos (by omega),if_pos (by show p < 5;exact hp)]
   · rw [if_neg (by omega),if_neg e2]
 · rw [upd_other f s e,if_neg (by omega),flN_get bk f hq hj]
theorem flN_congr {bk bk':Nat → Nat} {f f':Nat → Sr}:∀ {n},(∀ k,k < n → srC (bk k) (f k) = srC (bk' k) (f' k)) → flN bk f n = flN bk' f' n
 | 0,_=>rfl
 | n + 1,h=>by
  show flN bk f n ++ srC (bk n) (f n) = flN bk' f' n ++ srC (bk' n) (f' n)
  rw [flN_congr (fun k hk=>h k (Nat.lt_succ_of_lt hk)),h n (Nat.lt_succ_self n)]
def ShS (S:Nat → Prop) (n m:Nat):Nat → Prop:=fun k=>(S k ∧ k < n) ∨ m ≤ k
theorem ShS.old {S:Nat → Prop} {n m k:Nat} (h:ShS S n m k) (hk:k < m):S k ∧ k < n:=by
 rcases h with h | h
 · exact h
 · omega
theorem fshrink {S:Nat → Prop} {b:Nat} {x:FS} {w w':World} (h:FAt S b x w) (hk:∀ k,S k → k < w.heap.size → w'.heap[k]? = w.heap[k]?):FAt (ShS S w.heap.size w'.heap.size) b x w':=by
 obtain ⟨v1,v2,h⟩:=h
 exact ⟨v1,v2,{ hS:=fun k hk=>.inr hk,hb:=.inl ⟨h.hb,h.lt⟩,cell:=(hk b h.hb h.lt).trans h.cell,r1:=h.r1.keep fun k hv=>hk k (h.s1 k hv) (h.r1.lt k hv),r2:=ownsRow_keep h.r2 fun k hv=>hk k (h.s2 k hv) (h.r2.lt k hv).2,s1:=fun k hv=>.inl ⟨h.s1 k hv,h.r1.lt k hv⟩,s2:=fun k hv=>.inl ⟨h.s2 k hv,(h.r2.lt k hv).2⟩ }⟩
/-- What is true of a mux's numbers. -/
structure OkM (N:Nat) (M:MS):Prop where
 craft:M.craft ≤ 255
 lo:32 ≤ M.size
 hi:M.size ≤ 200
 master:M.master < 256
 x:∀ k,k < 8 → OkF (M.f k).x N
 sz:∀ k,k < 8 → (M.f k).x.size = M.size
 pr:∀ k,k < 8 → (M.f k).pr ≤ 7
 sh:∀ k,k < 8 → 1 ≤ (M.f k).sh ∧ (M.f k).sh ≤ 100
 cr:∀ k,k < 8 → (M.f k).cr ≤ 100
 ct:∀ k,k < 8 → (M.f k).ct < 256
/-- The mux mb; g: its row of channels; bk: their fillers; S: what may change. -/
structure MC (S:Nat → Prop) (mb g cap:Nat) (bk:Nat → Nat) (M:MS) (w:World):Prop where
 hS:∀ k,w.heap.size ≤ k → S k
 cell:w.heap[mb]? = some (.cells #[intN M.craft,intN M.size,intN M.master,.slice (some ⟨g,0,none⟩) 8 cap] 69 (0,0))
 row:w.ownsRow 0 104 5 (.slice (some ⟨g,0,none⟩) 8 cap) 8 (flN bk M.f 8)
 Sm:S mb
 Sg:S g
 fil:∃ Sk:Nat → Nat → Prop,(∀ k,k < 8 → FAt (Sk k) (bk k) (M.f k).x w) ∧ (∀ k,k < 8 → ∀ n,n < w.heap.size → Sk k n → S n ∧ n ≠ mb ∧ n ≠ g) ∧ ∀ k k',k < 8 → k' < 8 → k ≠ k' → ∀ n,n < w.heap.size → Sk k n → ¬ Sk k' n
variable {S:Nat → Prop} {mb g cap N:Nat} {bk:Nat → Nat} {M:MS} {w w':World}
theorem MC.lt (h:MC S mb g cap bk M w):mb < w.heap.size:=(Array.getElem?_eq_some_iff.1 h.cell).1
theorem MC.glt (h:MC S mb g cap bk M w):g < w.heap.size:=(h.row.lt g rfl).2
theorem MC.gne (h:MC S mb g cap bk M w):g ≠ mb:=fun e=>ownsRow_neb h.row h.cell (by decide) (by rw [← e];rfl)
/-- Where nothing of the mux has changed. -/
theorem MC.keep {S':Nat → Prop} (h:MC S mb g cap bk M w) (hk:∀ k,S k → k < w.heap.size → w'.heap[k]? = w.heap[k]?) (hS':∀ k,w'.heap.size ≤ k → S' k) (hSS:∀ k,k < w.heap.size → S k → S' k):MC S' mb g cap bk M w':=by
 obtain ⟨Sk,h1,h2,h3⟩:=h.fil
 refine ⟨hS',(hk mb h.Sm h.lt).trans h.cell,ownsRow_keep h.row fun k e=>?_,hSS mb h.lt h.Sm,hSS g h.glt h.Sg,fun k=>ShS (Sk k) w.heap.size w'.heap.size,fun k hk8=>fshrink (h1 k hk8) fun n hn hlt=>hk n (h2 k hk8 n hlt hn).1 hlt,fun k hk8 n hn e=>?_,fun k k' a b hne n hn e e'=>h3 k k' a b hne n (e.old hn).2 (e.old hn).1 (e'.old hn).1⟩
 · injection e with e;subst e;exact hk _ h.Sg h.glt
 · obtain ⟨e1,e2⟩:=e.old hn
   obtain ⟨a1,a2,a3⟩:=h2 k hk8 n e2 e1
   exact ⟨hSS n e2 a1,a2,a3⟩
theorem MC.below (h:MC S mb g cap bk M w) (hb:Below w.heap.size w w'):MC S mb g cap bk M w' :=
 h.keep (fun k _ hk=>hb.block k hk) (fun k hk=>h.hS k (Nat.le_trans hb.size hk)) fun _ _ hs=>hs
theorem MC.drew (h:MC S mb g cap bk M w):MC S mb g cap bk M w.drew:=h.below (Below.refl _ w).drew
theorem MC.alloc (h:MC S mb g cap bk M w) (o:Obj):MC S mb g cap bk M (w.alloc o):=h.below ((Below.refl _ w).alloc (Nat.le_refl _) o)
/-- Only the filler of one channel turns. -/
theorem MC.turn (h:MC S mb g cap bk M w) {k:Nat} (hk:k < 8) {E:Ending → Prop} {x':FS} {f:FuncId} {args:Array Value} (c:∀ S',FAt S' (bk k) (M.f k).x w → Calls Try.prog f args w fun e w'=>E e ∧ FAt S' (bk k) x' w' ∧ FrS S' w w') :
 Calls Try.prog f args w fun e w'=>E e ∧ MC S mb g cap bk { M with f:=upd M.f k { M.f k with x:=x' } } w' ∧ FrS S w w':=by
 obtain ⟨Sk,h1,h2,h3⟩:=h.fil
 refine (c (Sk k) (h1 k hk)).mono fun e w' ⟨he,g1,g2⟩=>⟨he,?_,?_⟩
 · refine ⟨fun n hn=>h.hS n (Nat.le_trans g2.size hn),(g2.block mb fun e=>(h2 k hk mb h.lt e).2.1 rfl).trans h.cell,?_,h.Sm,h.Sg,fun j=>if j = k then Sk k else ShS (Sk j) w.heap.size w'.heap.size,fun j hj=>?_,fun j hj n hn e=>?_,fun j j' hj hj' hne n hn e e'=>?_⟩
   · have e:flN bk (upd M.f k { M.f k with x:=x' }) 8 = flN bk M.f 8:=flN_congr fun j _=>by
      by_cases e:j = k
      · subst e;rw [upd_same];rfl
      · rw [upd_other _ _ e]
     show w'.ownsRow 0 _ 5 _ 8 (flN bk (upd M.f k { M.f k with x:=x' }) 8)
     rw [e]
     exact ownsRow_keep h.row fun n e=>g2.block n fun e'=>(by injection e with e;subst e;exact (h2 k hk g h.glt e').2.2 rfl)
   · show FAt (if j = k then Sk k else ShS (Sk j) w.heap.size w'.heap.size) (bk j) (upd M.f k { M.f k with x:=x' } j).x w'
     by_cases e:j = k
     · subst e;rw [if_pos rfl,upd_same];exact g1
     · rw [if_neg e,upd_other _ _ e]
       exact fshrink (h1 j hj) fun n hn hlt=>g2.block n fun e'=>h3 j k hj hk e n hlt hn e'
   · replace e:(if j = k then Sk k else ShS (Sk j) w.heap.size w'.heap.size) n:=e
     by_cases hjk:j = k
     · subst hjk
       rw [if_pos rfl] at e
       by_cases hlt:n < w.heap.size
       · exact h2 j hj n hlt e
       · have:=h.lt
         have:=h.glt
         exact ⟨h.hS n (by omega),by omega,by omega⟩
     · rw [if_neg hjk] at e
       exact h2 j hj n (e.old hn).2 (e.old hn).1
   · replace e:(if j = k then Sk k else ShS (Sk j) w.heap.size w'.heap.size) n:=e
     replace e':(if j' = k then Sk k else ShS (Sk j') w.heap.size w'.heap.size) n:=e'
     by_cases hjk:j = k
     · subst hjk
       rw [if_pos rfl] at e
       rw [if_neg (fun h=>hne h.symm)] at e'
       exact h3 j j' hj hj' hne n (e'.old hn).2 e (e'.old hn).1
     · rw [if_neg hjk] at e
       by_cases hj'k:j' = k
       · subst hj'k
         rw [if_pos rfl] at e'
         exact h3 j j' hj hj' hne n (e.old hn).2 (e.old hn).1 e'
       · rw [if_neg hj'k] at e'
         exact h3 j j' hj hj' hne n (e.old hn).2 (e.old hn).1 (e'.old hn).1
 · refine ⟨g2.os,g2.tape,g2.output,g2.size,fun n hn=>g2.block n fun e=>?_⟩
   by_cases hlt:n < w.heap.size
   · exact hn (h2 k hk n hlt e).1
   · exact hn (h.hS n (by omega))
/-- A cell of the row. -/
theorem MC.at (h:MC S mb g cap bk M w) {k q:Nat} (hk:k < 8) (hq:q < 5) {v:Value} (hv:(srC (bk k) (M.f k))[q]? = some v):w.cell? ⟨g,k * 5 + q,none⟩ = some v:=by
 rw [h.row.cellAt (k * 5 + q) (by omega),flN_get bk M.f hq hk];exact hv
theorem MC.at0 (h:MC S mb g cap bk M w) {k:Nat} (hk:k < 8):w.cell? ⟨g,k * 5,none⟩ = some (.pointer (some ⟨bk k,0,none⟩)):=h.at (q:=0) hk (by decide) rfl
theorem MC.c0 (h:MC S mb g cap bk M w):w.cell? ⟨mb,0,none⟩ = some (intN M.craft):=cell_of h.cell
theorem MC.c1 (h:MC S mb g cap bk M w):w.cell? ⟨mb,1,none⟩ = some (intN M.size):=cell_of h.cell
theorem MC.c2 (h:MC S mb g cap bk M w):w.cell? ⟨mb,2,none⟩ = some (intN M.master):=cell_of h.cell
theorem MC.c3 (h:MC S mb g cap bk M w):w.cell? ⟨mb,3,none⟩ = some (.slice (some ⟨g,0,none⟩) 8 cap):=cell_of h.cell
/-- A number of a channel turns. -/
theorem MC.put (h:MC S mb g cap bk M w) {k p:Nat} {v:Value} {s:Sr} (hk:k < 8) (hp:p < 5) (hx:s.x = (M.f k).x) (hv:(srC (bk k) (M.f k)).set p v = srC (bk k) s) :
 MC S mb g cap bk { M with f:=upd M.f k s } (w.setCell ⟨g,k * 5 + p,none⟩ v) ∧ FrS S w (w.setCell ⟨g,k * 5 + p,none⟩ v):=by
 have ho:OnlyB g w (w.setCell ⟨g,k * 5 + p,none⟩ v):=(OnlyB.refl g w).setCell (k * 5 + p) v
 obtain ⟨Sk,h1,h2,h3⟩:=h.fil
 refine ⟨⟨fun n hn=>h.hS n (by rw [ho.size] at hn;exact hn),(ho.rest mb fun e=>h.gne e.symm).trans h.cell,?_,h.Sm,h.Sg,Sk,fun j hj=>?_,fun j hj n hn=>h2 j hj n (by rw [ho.size] at hn;exact hn),fun j j' a b c n hn=>h3 j j' a b c n (by rw [ho.size] at hn;exact hn)⟩,ho.fr h.Sg⟩
 · have e:=(h.row.stored (k * 5 + p) v).1
   rw [flN_set hk hp hv] at e
   exact e
 · have hf:FAt (Sk j) (bk j) (M.f j).x (w.setCell ⟨g,k * 5 + p,none⟩ v):=(h1 j hj).keep (Nat.le_of_eq ho.size.symm) fun n hn hlt=>ho.rest n fun e=>(h2 j hj n hlt hn).2.2 e
   show FAt (Sk j) (bk j) (upd M.f k s j).x _
   by_cases e:j = k
   · subst e;rw [upd_same,hx];exact hf
   · rw [upd_other _ _ e];exact hf
/-- The count of all frames turns. -/
theorem MC.setM (h:MC S mb g cap bk M w) (n:Nat):MC S mb g cap bk { M with master:=n } (w.setCell ⟨mb,2,none⟩ (intN n)) ∧ FrS S w (w.setCell ⟨mb,2,none⟩ (intN n)):=by
 have ho:OnlyB mb w (w.setCell ⟨mb,2,none⟩ (intN n)):=(OnlyB.refl mb w).setCell 2 (intN n)
 obtain ⟨Sk,h1,h2,h3⟩:=h.fil
 refine ⟨⟨fun n hn=>h.hS n (by rw [ho.size] at hn;exact hn),set_at (o:=2) (v:=intN n) h.cell,ownsRow_keep h.row fun k e=>ho.rest k fun e'=>(by injection e with e;exact h.gne (by rw [← e'] ;exact e)),h.Sm,h.Sg,Sk,fun j hj=>?_,fun j hj n hn=>h2 j hj n (by rw [ho.size] at hn;exact hn),fun j j' a b c n hn=>h3 j j' a b c n (by rw [ho.size] at hn;exact hn)⟩,ho.fr h.Sm⟩
 exact (h1 j hj).keep (Nat.le_of_eq ho.size.symm) fun n hn hlt=>ho.rest n fun e=>(h2 j hj n hlt hn).2.1 e
end Go.Am.Cha

namespace Go.Am.Cha
open Go Go.Am Go.Am.Lib Go.Lib Go.Proofs Go.RowKit
open Go.Am.Own
open Go.Am.Tmf (FS FAt FC OkF idleL waits addE add_at)
set_option maxRecDepth 100000

variable {S:Nat → Prop} {mb g cap N:Nat} {bk:Nat → Nat} {M:MS} {w:World}
theorem mnone_at (h:MC S mb g cap bk M w):Calls Try.prog 37 #[.pointer (some ⟨mb,0,none⟩)] w fun e w'=>e = .returned (.bool false) ∧ w = w':=by
 have k3:=h.c3
 have q:=fun (w:World) (a:Option Addr) (n c n' c':Nat)=>Lib.run_eql_slice_nil (P:=Try.prog) w _ _ a n c n' c' Try.underlying67
 clear h
 go_enter Try.func37,Try.ntmps37
 go_wp2
 go_ret
 exact ⟨rfl,rfl⟩
/-- A filler's contract that changes nothing of it. -/
theorem MC.fwait (h:MC S mb g cap bk M w) (ho:OkM N M) {k:Nat} (hk:k < 8):Calls Try.prog 38 #[.pointer (some ⟨bk k,0,none⟩)] w fun e w'=>e = .returned (.int .i64 (((M.f k).x.wait:Nat):Int)) ∧ Below w.heap.size w w':=by
 obtain ⟨Sk,h1,h2,h3⟩:=h.fil
 exact waits (h1 k hk) (ho.x k hk)
theorem mwait_at (h:MC S mb g cap bk M w) (ho:OkM N M) {k:Nat} (hk:k < 8):Calls Try.prog 18 #[.pointer (some ⟨mb,0,none⟩),.int .i64 ((k:Nat):Int)] w fun e w'=>e = .returned (.int .i64 (((M.f k).x.wait:Nat):Int)) ∧ Below w.heap.size w w':=by
 have cN:=mnone_at h
 have cW:=h.fwait ho hk
 have k3:=h.c3
 have k0:=h.at0 hk
 have hk':((k:Nat):Int) < 8:=by omega
 have hk2:¬ ((k:Nat):Int) < 0:=by omega
 have hk3:¬ (8:Int) ≤ ((k:Nat):Int):=by omega
 obtain ⟨b,hb⟩:∃ b,bk k = b:=⟨_,rfl⟩
 obtain ⟨wt,hwt⟩:∃ b,(M.f k).x.wait = b:=⟨_,rfl⟩
 rw [hb] at k0 cW
 rw [hwt] at cW ⊢
 clear h ho hb hwt
 go_enter Try.func18,Try.ntmps18
 go_wp2_with (first
  | (go_at_call 37;refine cN.mono ?_;clear cN;rintro e W2 ⟨rfl,rfl⟩)
  | (go_at_call 38;refine cW.mono ?_;clear cW;rintro e W2 ⟨rfl,b2⟩))
 go_ret
 exact ⟨rfl,b2⟩
/-- What a mux is behind Add. -/
def addM (M:MS) (k:Nat) (p:ByteArray):MS:={ M with f:=upd M.f k { M.f k with x:=if addE (M.f k).x p = 0 then (M.f k).x.add p.data.toList else (M.f k).x } }
set_option maxHeartbeats 800000 in
theorem madd_at (h:MC S mb g cap bk M w) (ho:OkM N M) {k:Nat} (hk:k < 8) (p:ByteArray) (hp:p.size ≤ 2 ^ 40):Calls Try.prog 19 #[.pointer (some ⟨mb,0,none⟩),.int .i64 ((k:Nat):Int),.string p] w fun e w'=>e = .returned (.int .i64 (addE (M.f k).x p)) ∧ MC S mb g cap bk (addM M k p) w' ∧ FrS S w w':=by
 have cN:=mnone_at h
 have cA:=h.turn hk (E:=fun e=>e = .returned (.int .i64 (addE (M.f k).x p))) (x':=if addE (M.f k).x p = 0 then (M.f k).x.add p.data.toList else (M.f k).x) (f:=39) (args:=#[.pointer (some ⟨bk k,0,none⟩),.string p]) fun S' hf=>Tmf.add_at hf (ho.x k hk) p hp
 have k3:=h.c3
 have k0:=h.at0 hk
 have hk':((k:Nat):Int) < 8:=by omega
 have hk2:¬ ((k:Nat):Int) < 0:=by omega
 have hk3:¬ (8:Int) ≤ ((k:Nat):Int):=by omega
 obtain ⟨b,hb⟩:∃ b,bk k = b:=⟨_,rfl⟩
 obtain ⟨er,her⟩:∃ b,addE (M.f k).x p = b:=⟨_,rfl⟩
 obtain ⟨M2,hM2⟩:∃ b,addM M k p = b:=⟨_,rfl⟩
 change Calls _ _ _ _ (fun e w'=>_ ∧ MC S mb g cap bk (addM M k p) w' ∧ _) at cA
 rw [hb] at k0 cA
 rw [hM2,her] at cA ⊢
 clear h ho hb her hM2
 go_enter Try.func19,Try.ntmps19
 go_wp2_with (first
  | (go_at_call 37;refine cN.mono ?_;clear cN;rintro e W2 ⟨rfl,rfl⟩)
  | (go_at_call 39;refine cA.mono ?_;clear cA;rintro e W2 ⟨rfl,h2,f2⟩))
 go_ret
 exact ⟨rfl,h2,f2⟩
theorem madd_out (h:MC S mb g cap bk M w) {z:Int} (hz:z < 0 ∨ 8 ≤ z) (p:ByteArray):Calls Try.prog 19 #[.pointer (some ⟨mb,0,none⟩),.int .i64 z,.string p] w fun e w'=>e = .returned (.int .i64 2) ∧ w = w':=by
 have cN:=mnone_at h
 clear h
 rcases hz with hz | hz
 · go_enter Try.func19,Try.ntmps19
   go_wp2_with (go_at_call 37;refine cN.mono ?_;clear cN;rintro e W2 ⟨rfl,rfl⟩)
   go_ret
   exact ⟨rfl,rfl⟩
 · have hz2:¬ z < 0:=by omega
   go_enter Try.func19,Try.ntmps19
   go_wp2_with (go_at_call 37;refine cN.mono ?_;clear cN;rintro e W2 ⟨rfl,rfl⟩)
   go_ret
   exact ⟨rfl,rfl⟩
/-! choose's rules -/
theorem rule2_at (h:MC S mb g cap bk M w) {k:Nat} (hk:k < 8):Calls Try.prog 71 #[ptrS g k] w fun e w'=>e = .returned (.int .i64 (((M.f k).pr:Nat):Int)) ∧ Below w.heap.size w w':=by
 have k1:w.cell? ⟨g,k * 5 + 1,none⟩ = some (.int .i64 (((M.f k).pr:Nat):Int)):=h.at hk (by decide) rfl
 obtain ⟨p,hp⟩:∃ b,(M.f k).pr = b:=⟨_,rfl⟩
 rw [hp] at k1 ⊢
 clear h hp
 unfold ptrS
 go_enter Try.func71,Try.ntmps71
 go_wp2
 go_ret
 exact ⟨rfl,Below.refl _ _⟩
theorem rule3_at (h:MC S mb g cap bk M w) {k:Nat} (hk:k < 8):Calls Try.prog 72 #[ptrS g k] w fun e w'=>e = .returned (.int .i64 (((M.f k).cr:Nat):Int)) ∧ Below w.heap.size w w':=by
 have k1:w.cell? ⟨g,k * 5 + 3,none⟩ = some (.int .i64 (((M.f k).cr:Nat):Int)):=h.at hk (by decide) rfl
 obtain ⟨p,hp⟩:∃ b,(M.f k).cr = b:=⟨_,rfl⟩
 rw [hp] at k1 ⊢
 clear h hp
 unfold ptrS
 go_enter Try.func72,Try.ntmps72
 go_wp2
 go_ret
 exact ⟨rfl,Below.refl _ _⟩
/-- Is a field full. -/
def fullM (M:MS) (k:Nat):Nat:=min ((M.f k).x.wait / M.size) 1
set_option maxHeartbeats 1600000 in
theorem rule1_at (h:MC S mb g cap bk M w) (ho:OkM N M) {k:Nat} (hk:k < 8) (cb:Nat) (hcb:w.cell? ⟨cb,0,none⟩ = some (.pointer (some ⟨mb,0,none⟩))):Calls Try.prog 70 #[ptrS g k,.pointer (some ⟨cb,0,none⟩)] w fun e w'=>e = .returned (.int .i64 ((fullM M k:Nat):Int)) ∧ Below w.heap.size w w':=by
 have k1:=h.at0 hk
 have cW:=h.drew.fwait ho hk
 have hlo:=ho.lo
 have hhi:=ho.hi
 have k2:w.cell? ⟨mb,1,none⟩ = some (.int .i64 ((M.size:Nat):Int)):=h.c1
 obtain ⟨b,hb⟩:∃ b,bk k = b:=⟨_,rfl⟩
 have hwq:(M.f k).x.wait ≤ 66000:=Nat.le_trans (Nat.sub_le _ _) (ho.x k hk).q
 have hfu:fullM M k = min ((M.f k).x.wait / M.size) 1:=rfl
 obtain ⟨wt,hwt⟩:∃ b,(M.f k).x.wait = b:=⟨_,rfl⟩
 obtain ⟨sz,hsz⟩:∃ b,M.size = b:=⟨_,rfl⟩
 obtain ⟨fu,hfu2⟩:∃ b,fullM M k = b:=⟨_,rfl⟩
 rw [hb] at k1 cW
 rw [hwt] at cW hfu hwq
 rw [hsz] at hfu hlo hhi k2
 rw [hfu2] at hfu ⊢
 obtain ⟨q,hq⟩:∃ q,wt / sz = q:=⟨_,rfl⟩
 rw [hq] at hfu
 have hq1:((wt:Nat):Int) / ((sz:Nat):Int) = ((q:Nat):Int):=by rw [← hq];rfl
 have hq2:q ≤ 66000:=by rw [← hq];exact Nat.le_trans (Nat.div_le_self _ _) hwq
 have hs0:¬ sz = 0:=by omega
 have hqw:IntKind.i64.wrap ((q:Nat):Int) = ((q:Nat):Int):=by rw [IntKind.wrap_i64];omega
 have HB:=Lib.hid h
 clear h ho hb hwt hsz hfu2
 unfold ptrS
 go_enter Try.func70,Try.ntmps70
 go_wp2
 rcases Nat.lt_or_ge 1 q with h1 | h1
 · have h1':(1:Int) < ((q:Nat):Int):=by omega
   have hf:fu = 1:=by omega
   subst hf
   clear hfu hq
   go_region_with (go_at_call 38;refine cW.mono ?_;rintro e W2 ⟨rfl,b2⟩;have b3:Below w.heap.size w W2:=((Below.refl _ w).drew).trans b2;have h2:=(HB.out.drew).below b2;have e2:W2.cell? ⟨mb,1,none⟩ = some (.int .i64 ((sz:Nat):Int)):=(World.cell?_of_block (b2.block mb HB.out.lt)).trans k2;have e3:W2.cell? ⟨cb,0,none⟩ = some (.pointer (some ⟨mb,0,none⟩)):=(World.cell?_of_block (b2.block cb (World.block_lt_of_cell? w _ hcb))).trans hcb)
   all_goals go_wp2
   all_goals go_ret
   all_goals exact ⟨rfl,b3⟩
 · have h1':¬ (1:Int) < ((q:Nat):Int):=by omega
   have hf:fu = q:=by omega
   subst hf
   clear hfu hq
   go_region_with (go_at_call 38;refine cW.mono ?_;rintro e W2 ⟨rfl,b2⟩;have b3:Below w.heap.size w W2:=((Below.refl _ w).drew).trans b2;have h2:=(HB.out.drew).below b2;have e2:W2.cell? ⟨mb,1,none⟩ = some (.int .i64 ((sz:Nat):Int)):=(World.cell?_of_block (b2.block mb HB.out.lt)).trans k2;have e3:W2.cell? ⟨cb,0,none⟩ = some (.pointer (some ⟨mb,0,none⟩)):=(World.cell?_of_block (b2.block cb (World.block_lt_of_cell? w _ hcb))).trans hcb)
   all_goals go_wp2
   all_goals go_ret
   all_goals exact ⟨rfl,b3⟩
end Go.Am.Cha

namespace Go.Am.Cha
open Go Go.Am Go.Am.Lib Go.Lib Go.Proofs Go.RowKit
open Go.Am.Own
open Go.Am.Tmf (FS FAt FC OkF)
set_option maxRecDepth 100000

/-- The channels below j in which something waits. -/
def waitJ (M:MS) (j:Nat):List Nat:=(List.range j).filter fun k=>decide (0 < (M.f k).x.wait)
theorem waitJ_yes {M:MS} {j:Nat} (h:0 < (M.f j).x.wait):waitJ M (j + 1) = waitJ M j ++ [j]:=by
 unfold waitJ
 rw [List.range_succ,List.filter_append]
 simp [h]
theorem waitJ_no {M:MS} {j:Nat} (h:¬ 0 < (M.f j).x.wait):waitJ M (j + 1) = waitJ M j:=by
 unfold waitJ
 rw [List.range_succ,List.filter_append]
 simp [h]
theorem waitJ_lt {M:MS} {j k:Nat} (h:k ∈ waitJ M j):k < j:=List.mem_range.1 (List.mem_filter.1 h).1
theorem waitJ_len (M:MS) (j:Nat):(waitJ M j).length ≤ j:=by
 have:=List.length_filter_le (fun k=>decide (0 < (M.f k).x.wait)) (List.range j)
 rw [List.length_range] at this
 exact this
/-- The channels among which the credit decides. -/
def bests (M:MS):List Nat:=best (fun k=>(M.f k).pr) (best (fullM M) (waitJ M 8))
def topS (M:MS) (l:List Nat):Nat:=(best (fun k=>(M.f k).cr) l).headD 0
/-- The channels below j of a priority get their share as credit. -/
def refF (f:Nat → Sr) (p j:Nat):Nat → Sr:=fun k=>if k < j ∧ (f k).pr = p then { f k with cr:=(f k).sh } else f k
def refillJ (M:MS) (p j:Nat):MS:={ M with f:=refF M.f p j }
theorem refillJ_zero (M:MS) (p:Nat):refillJ M p 0 = M:=by
 have e:refF M.f p 0 = M.f:=funext fun k=>if_neg fun h=>by omega
 unfold refillJ
 rw [e]
theorem refF_no {f:Nat → Sr} {p j:Nat} (h:(f j).pr ≠ p):refF f p (j + 1) = refF f p j:=by
 funext k
 unfold refF
 by_cases e:k = j
 · subst e;rw [if_neg fun hh=>h hh.2,if_neg fun hh=>h hh.2]
 · by_cases e2:k < j ∧ (f k).pr = p
   · rw [if_pos e2,if_pos ⟨by omega,e2.2⟩]
   · rw [if_neg e2,if_neg fun hh=>e2 ⟨by omega,hh.2⟩]
theorem refF_yes {f:Nat → Sr} {p j:Nat} (h:(f j).pr = p):refF f p (j + 1) = upd (refF f p j) j { refF f p j j with cr:=(f j).sh }:=by
 have e0:refF f p j j = f j:=if_neg fun hh=>by omega
 rw [e0]
 funext k
 by_cases e:k = j
 · subst e
   rw [upd_same]
   exact if_pos ⟨by omega,h⟩
 · rw [upd_other _ _ e]
   unfold refF
   by_cases e2:k < j ∧ (f k).pr = p
   · rw [if_pos e2,if_pos ⟨by omega,e2.2⟩]
   · rw [if_neg e2,if_neg fun hh=>e2 ⟨by omega,hh.2⟩]
theorem refillJ_no {M:MS} {p j:Nat} (h:(M.f j).pr ≠ p):refillJ M p (j + 1) = refillJ M p j:=by
 unfold refillJ
 rw [refF_no h]
theorem refillJ_yes {M:MS} {p j:Nat} (h:(M.f j).pr = p):refillJ M p (j + 1) = { refillJ M p j with f:=upd (refillJ M p j).f j { (refillJ M p j).f j with cr:=(M.f j).sh } }:=by
 have e:=refF_yes h
 unfold refillJ
 rw [e]
theorem refillJ_pr (M:MS) (p j k:Nat):((refillJ M p j).f k).pr = (M.f k).pr:=by
 show (refF M.f p j k).pr = _
 unfold refF
 split <;> rfl
theorem refillJ_x (M:MS) (p j k:Nat):((refillJ M p j).f k).x = (M.f k).x:=by
 show (refF M.f p j k).x = _
 unfold refF
 split <;> rfl
theorem refillJ_sh (M:MS) (p j k:Nat):((refillJ M p j).f k).sh = (M.f k).sh:=by
 show (refF M.f p j k).sh = _
 unfold refF
 split <;> rfl
theorem refillJ_ct (M:MS) (p j k:Nat):((refillJ M p j).f k).ct = (M.f k).ct:=by
 show (refF M.f p j k).ct = _
 unfold refF
 split <;> rfl
theorem OkM.refill {N:Nat} {M:MS} (h:OkM N M) (p j:Nat):OkM N (refillJ M p j):=by
 refine ⟨h.craft,h.lo,h.hi,h.master,fun k hk=>by rw [refillJ_x];exact h.x k hk,fun k hk=>by rw [refillJ_x];exact h.sz k hk,fun k hk=>by rw [refillJ_pr];exact h.pr k hk,fun k hk=>by rw [refillJ_sh];exact h.sh k hk,fun k hk=>?_,fun k hk=>by rw [refillJ_ct];exact h.ct k hk⟩
 show (refF M.f p j k).cr ≤ 100
 unfold refF
 split
 · exact (h.sh k hk).2
 · exact h.cr k hk
/-- Behind the choice among l: who has credit pays. -/
def payS (M:MS) (k:Nat):MS:={ M with f:=upd M.f k { M.f k with cr:=(M.f k).cr - 1 } }
def filled (M:MS) (l:List Nat):MS:=if (M.f (topS M l)).cr = 0 then refillJ M (M.f (l.headD 0)).pr 8 else M
def chosen (M:MS):Nat:=topS (filled M (bests M)) (bests M)
def chooseM (M:MS):MS:=payS (filled M (bests M)) (chosen M)
theorem bestStep_all {val:Nat → Nat} {out:List Nat} {s v:Nat} (h:∀ a ∈ out,val a = v):∃ v',∀ a ∈ bestStep val out s,val a = v':=by
 cases out with
 | nil=>exact ⟨val s,fun a ha=>by rw [List.mem_singleton.1 ha]⟩
 | cons o r =>
  have ho:=h o (List.mem_cons_self ..)
  show ∃ v',∀ a ∈ (if val o < val s then [s] else if val s = val o then o :: r ++ [s] else o :: r),val a = v'
  split
  · exact ⟨val s,fun a ha=>by rw [List.mem_singleton.1 ha]⟩
  · split
    · rename_i e
      refine ⟨v,fun a ha=>?_⟩
      rcases List.mem_append.1 ha with ha | ha
      · exact h a ha
      · rw [List.mem_singleton.1 ha,e,ho]
    · exact ⟨v,h⟩
theorem best_all (val:Nat → Nat) (l:List Nat):∃ v,∀ a ∈ best val l,val a = v:=by
 unfold best
 suffices H:∀ (l out:List Nat),(∃ v,∀ a ∈ out,val a = v) → ∃ v,∀ a ∈ l.foldl (bestStep val) out,val a = v from H l [] ⟨0,fun a h=>by cases h⟩
 intro l
 induction l with
 | nil=>exact fun _ h=>h
 | cons s l ih =>
  intro out ⟨v,h⟩
  exact ih _ (bestStep_all h)
theorem head_mem {l:List Nat} (h:l ≠ []):l.headD 0 ∈ l:=by
 cases l with
 | nil=>exact absurd rfl h
 | cons a l=>exact List.mem_cons_self ..
theorem topS_mem {M:MS} {l:List Nat} (h:l ≠ []):topS M l ∈ l:=best_mem (head_mem (best_ne h))
theorem bests_ne {M:MS} (h:waitJ M 8 ≠ []):bests M ≠ []:=best_ne (best_ne h)
theorem bests_lt {M:MS} {k:Nat} (h:k ∈ bests M):k < 8:=waitJ_lt (best_mem (best_mem h))
theorem bests_wait {M:MS} {k:Nat} (h:k ∈ bests M):0 < (M.f k).x.wait:=of_decide_eq_true (List.mem_filter.1 (best_mem (best_mem h))).2
theorem bests_pr {M:MS} {a b:Nat} (ha:a ∈ bests M) (hb:b ∈ bests M):(M.f a).pr = (M.f b).pr:=by
 obtain ⟨v,h⟩:=best_all (fun k=>(M.f k).pr) (best (fullM M) (waitJ M 8))
 exact (h a ha).trans (h b hb).symm
theorem bests_len (M:MS):(bests M).length ≤ 8:=Nat.le_trans (best_len _ _) (Nat.le_trans (best_len _ _) (waitJ_len M 8))
/-- The one that is chosen has credit. -/
theorem chosen_credit {N:Nat} {M:MS} (ho:OkM N M) (h:waitJ M 8 ≠ []):1 ≤ ((filled M (bests M)).f (chosen M)).cr:=by
 have hb:=bests_ne h
 unfold chosen filled
 by_cases h0:(M.f (topS M (bests M))).cr = 0
 · rw [if_pos h0]
   have hm:=topS_mem (M:=refillJ M (M.f ((bests M).headD 0)).pr 8) hb
   show 1 ≤ (refF M.f (M.f ((bests M).headD 0)).pr 8 (topS (refillJ M (M.f ((bests M).headD 0)).pr 8) (bests M))).cr
   unfold refF
   rw [if_pos ⟨bests_lt hm,bests_pr hm (head_mem hb)⟩]
   exact (ho.sh _ (bests_lt hm)).1
 · rw [if_neg h0];omega
variable {S:Nat → Prop} {mb g cap N cb:Nat} {bk:Nat → Nat} {M:MS} {w wr w':World} {L:List Nat} {lv:Value}
/-- The mux while choose runs: its own variable cb, a list L. -/
structure Cb (S:Nat → Prop) (w:World) (cb mb g cap:Nat) (bk:Nat → Nat) (M:MS) (L:List Nat) (lv:Value) (wr:World):Prop where
 mc:MC (ShS S cb wr.heap.size) mb g cap bk M wr
 fr:FrS S w wr
 box:wr.heap[cb]? = some (.cells #[.pointer (some ⟨mb,0,none⟩)] 47 (0,0))
 row:wr.ownsRow cb 111 1 lv L.length (cellP g L)
 hS:∀ k,cb ≤ k → S k
 cbl:cb = w.heap.size
theorem Cb.lt (h:Cb S w cb mb g cap bk M L lv wr):cb < wr.heap.size:=(Array.getElem?_eq_some_iff.1 h.box).1
theorem Cb.below (h:Cb S w cb mb g cap bk M L lv wr) (hb:Below wr.heap.size wr w'):Cb S w cb mb g cap bk M L lv w':=by
 refine ⟨h.mc.keep (fun k _ hk=>hb.block k hk) (fun k hk=>.inr hk) fun k hk e=>?_,h.fr.trans (fr_of hb fun k hk=>h.hS k (Nat.le_trans (Nat.le_of_lt h.lt) hk)),(hb.block cb h.lt).trans h.box,ownsRow_keep h.row fun k hk=>hb.block k (h.row.lt k hk).2,h.hS,h.cbl⟩
 exact .inl (e.old hk)
theorem Cb.drew (h:Cb S w cb mb g cap bk M L lv wr):Cb S w cb mb g cap bk M L lv wr.drew:=h.below (Below.refl _ wr).drew
theorem Cb.alloc (h:Cb S w cb mb g cap bk M L lv wr) (o:Obj):Cb S w cb mb g cap bk M L lv (wr.alloc o):=h.below ((Below.refl _ wr).alloc (Nat.le_refl _) o)
theorem Cb.bx (h:Cb S w cb mb g cap bk M L lv wr):wr.cell? ⟨cb,0,none⟩ = some (.pointer (some ⟨mb,0,none⟩)):=cell_of h.box
/-- Another list. -/
theorem Cb.list (h:Cb S w cb mb g cap bk M L lv wr) {L':List Nat} {lv':Value} (hr:wr.ownsRow cb 111 1 lv' L'.length (cellP g L')):Cb S w cb mb g cap bk M L' lv' wr:=⟨h.mc,h.fr,h.box,hr,h.hS,h.cbl⟩
/-- A channel is put behind them. -/
theorem Cb.push {i:Nat} {v':Value} {o:Obj} (h:Cb S w cb mb g cap bk M L lv wr) (hr:w'.ownsRow cb 111 1 v' (L.length + 1) (cellP g L ++ [ptrS g i])) (hg:(wr.alloc o).grownBy w' lv.ownBlock):Cb S w cb mb g cap bk M (L ++ [i]) v' w':=by
 have h1:=h.alloc o
 have hne:∀ k,k < cb → some k ≠ lv.ownBlock:=fun k hk e=>by have:=(h1.row.lt k e.symm).1;omega
 refine ⟨h1.mc.keep (fun k e hk=>hg.block k hk (hne k (e.old hk).2)) (fun k hk=>.inr hk) fun k hk e=>.inl (e.old hk),h1.fr.grown hg (fun k hk=>h.hS k (by have:=h1.lt;omega)) fun k e=>h.hS k (h1.row.lt k e).1,(hg.block cb h1.lt fun e=>?_).trans h1.box,by rw [List.length_append,← cellP_snoc];exact hr,h.hS,h.cbl⟩
 exact ownsRow_neb h1.row h1.box (by decide) e.symm
/-- A number of a channel turns. -/
theorem Cb.put (h:Cb S w cb mb g cap bk M L lv wr) {k p:Nat} {v:Value} {s:Sr} (hk:k < 8) (hp:p < 5) (hx:s.x = (M.f k).x) (hv:(srC (bk k) (M.f k)).set p v = srC (bk k) s) :
 Cb S w cb mb g cap bk { M with f:=upd M.f k s } L lv (wr.setCell ⟨g,k * 5 + p,none⟩ v):=by
 obtain ⟨h1,h2⟩:=h.mc.put (v:=v) hk hp hx hv
 have ho:OnlyB g wr (wr.setCell ⟨g,k * 5 + p,none⟩ v):=(OnlyB.refl g wr).setCell (k * 5 + p) v
 have hgS:=h.mc.Sg.old h.mc.glt
 refine ⟨?_,h.fr.trans (ho.fr hgS.1),(ho.rest cb (by omega)).trans h.box,ownsRow_keep h.row fun n e=>ho.rest n fun e'=>?_,h.hS,h.cbl⟩
 · rw [ho.size];exact h1
 · have:=(h.row.lt n e).1;omega
end Go.Am.Cha
