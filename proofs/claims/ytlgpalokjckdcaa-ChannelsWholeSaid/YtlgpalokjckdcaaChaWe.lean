/-
 Channels: what the law sends, in memory: a mux and seven lists that grow. Own work.
-/
import Derived.Test.YtlgpalokjckdcaaChaMA
namespace Go.Am.Cha
open Go Go.Am Go.Am.Lib Go.Lib Go.Proofs Go.RowKit
open Go.Am.Own
set_option maxRecDepth 100000

/-- W' is as W0 where H is held. -/
structure As (H:Nat → Prop) (W0 W':World):Prop where
 os:W'.os = W0.os
 tape:W'.tape = W0.tape
 output:W'.output = W0.output
 size:W0.heap.size ≤ W'.heap.size
 block:∀ k,H k → W'.heap[k]? = W0.heap[k]?
theorem As.refl (H:Nat → Prop) (W:World):As H W W:=⟨rfl,rfl,rfl,Nat.le_refl _,fun _ _=>rfl⟩
abbrev RowM:=TypeId × Value × List Value
def R7 (a b c d e f g:RowM):Nat → RowM
 | 0=>a
 | 1=>b
 | 2=>c
 | 3=>d
 | 4=>e
 | 5=>f
 | _=>g
/-- The cells of what is sent. -/
def sgC (mb:Nat) (ok:Bool) (bs ss:Nat → Int) (v:Nat → Value):Array Value:=#[.pointer (some ⟨mb,0,none⟩),v 0,v 1,v 2,v 3,v 4,v 5,.bool ok,.int .i64 (bs 0),.int .i64 (bs 1),.int .i64 (bs 2),.int .i64 (bs 3),.int .i64 (bs 4),.int .i64 (bs 5),.int .i64 (bs 6),.int .i64 (bs 7),.int .i64 (ss 0),.int .i64 (ss 1),.int .i64 (ss 2),.int .i64 (ss 3),.int .i64 (ss 4),.int .i64 (ss 5),.int .i64 (ss 6),.int .i64 (ss 7),v 6]
/-- Where the list i stands. -/
def rowO (i:Nat):Nat:=if i = 6 then 24 else i + 1
theorem sgC_row (mb:Nat) (ok:Bool) (bs ss:Nat → Int) (v:Nat → Value) {i:Nat} (h:i < 7):(sgC mb ok bs ss v)[rowO i]? = some (v i):=by
 match i,h with
 | 0,_ | 1,_ | 2,_ | 3,_ | 4,_ | 5,_ | 6,_=>rfl
theorem sgC_setrow (mb:Nat) (ok:Bool) (bs ss:Nat → Int) (v:Nat → Value) {i:Nat} (h:i < 7) (u:Value):(sgC mb ok bs ss v).setIfInBounds (rowO i) u = sgC mb ok bs ss (fun j=>if j = i then u else v j):=by
 match i,h with
 | 0,_ | 1,_ | 2,_ | 3,_ | 4,_ | 5,_ | 6,_=>rfl
theorem sgC_setok (mb:Nat) (ok b:Bool) (bs ss:Nat → Int) (v:Nat → Value):(sgC mb ok bs ss v).setIfInBounds 7 (.bool b) = sgC mb b bs ss v:=rfl
def updI (f:Nat → Int) (k:Nat) (z:Int):Nat → Int:=fun j=>if j = k then z else f j
theorem sgC_bs (mb:Nat) (ok:Bool) (bs ss:Nat → Int) (v:Nat → Value) {k:Nat} (h:k < 8):(sgC mb ok bs ss v)[8 + k]? = some (.int .i64 (bs k)):=by
 match k,h with
 | 0,_ | 1,_ | 2,_ | 3,_ | 4,_ | 5,_ | 6,_ | 7,_=>rfl
theorem sgC_ss (mb:Nat) (ok:Bool) (bs ss:Nat → Int) (v:Nat → Value) {k:Nat} (h:k < 8):(sgC mb ok bs ss v)[16 + k]? = some (.int .i64 (ss k)):=by
 match k,h with
 | 0,_ | 1,_ | 2,_ | 3,_ | 4,_ | 5,_ | 6,_ | 7,_=>rfl
theorem sgC_setbs (mb:Nat) (ok:Bool) (bs ss:Nat → Int) (v:Nat → Value) {k:Nat} (h:k < 8) (z:Int):(sgC mb ok bs ss v).setIfInBounds (8 + k) (.int .i64 z) = sgC mb ok (updI bs k z) ss v:=by
 match k,h with
 | 0,_ | 1,_ | 2,_ | 3,_ | 4,_ | 5,_ | 6,_ | 7,_=>rfl
theorem sgC_setss (mb:Nat) (ok:Bool) (bs ss:Nat → Int) (v:Nat → Value) {k:Nat} (h:k < 8) (z:Int):(sgC mb ok bs ss v).setIfInBounds (16 + k) (.int .i64 z) = sgC mb ok bs (updI ss k z) v:=by
 match k,h with
 | 0,_ | 1,_ | 2,_ | 3,_ | 4,_ | 5,_ | 6,_ | 7,_=>rfl
/-- What is sent: its block sb, its mux, its lists R; the blocks H are held as in W; B: all of it lies above. -/
structure Sg (H:Nat → Prop) (W:World) (B sb mb g cap:Nat) (bk:Nat → Nat) (M:MS) (ok:Bool) (bs ss:Nat → Int) (V:Nat → Value) (R:Nat → RowM) (w:World):Prop where
 ex:∃ S:Nat → Prop,MC S mb g cap bk M w ∧ (∀ k,k < w.heap.size → S k → B ≤ k ∧ ¬ H k) ∧ ¬ S sb ∧ ∀ i,i < 7 → ∀ k,(R i).2.1.ownBlock = some k → ¬ S k
 cell:w.heap[sb]? = some (.cells (sgC mb ok bs ss V) 96 (0,0))
 nH:¬ H sb
 lo:B ≤ sb
 own:∀ i,i < 7 → w.ownsRow B (R i).1 1 (R i).2.1 (R i).2.2.length (R i).2.2
 rH:∀ i,i < 7 → ∀ k,(R i).2.1.ownBlock = some k → ¬ H k
 rs:∀ i,i < 7 → (R i).2.1.ownBlock ≠ some sb
 dis:∀ i j,i < 7 → j < 7 → i ≠ j → (R i).2.1.ownBlock = none ∨ (R i).2.1.ownBlock ≠ (R j).2.1.ownBlock
 os:w.os = W.os
 tape:w.tape = W.tape
 output:w.output = W.output
 size:W.heap.size ≤ w.heap.size
 block:∀ k,H k → w.heap[k]? = W.heap[k]?
 lt:∀ k,H k → k < w.heap.size
 hB:B ≤ w.heap.size
variable {H:Nat → Prop} {W w w':World} {B sb mb g cap:Nat} {bk:Nat → Nat} {M M':MS} {ok:Bool} {bs ss:Nat → Int} {V V':Nat → Value} {R R':Nat → RowM}
theorem Sg.slt (h:Sg H W B sb mb g cap bk M ok bs ss V R w):sb < w.heap.size:=(Array.getElem?_eq_some_iff.1 h.cell).1
theorem Sg.below (h:Sg H W B sb mb g cap bk M ok bs ss V R w) (hb:Below w.heap.size w w'):Sg H W B sb mb g cap bk M ok bs ss V R w':=by
 obtain ⟨S,h1,h2,h3,h4⟩:=h.ex
 have hs:=hb.size
 refine ⟨⟨_,h1.shrink (w':=w') fun k _ hk=>hb.block k hk,fun k hk e=>h2 k (e.old hk).2 (e.old hk).1,fun e=>h3 (e.old (Nat.lt_of_lt_of_le h.slt hs)).1,fun i hi k hk e=>h4 i hi k hk (e.old (Nat.lt_of_lt_of_le ((h.own i hi).lt k hk).2 hs)).1⟩,(hb.block sb h.slt).trans h.cell,h.nH,h.lo,fun i hi=>ownsRow_keep (h.own i hi) fun k hk=>hb.block k ((h.own i hi).lt k hk).2,h.rH,h.rs,h.dis,hb.os.trans h.os,hb.tape.trans h.tape,hb.output.trans h.output,Nat.le_trans h.size hs,fun k hk=>(hb.block k (h.lt k hk)).trans (h.block k hk),fun k hk=>Nat.lt_of_lt_of_le (h.lt k hk) hs,Nat.le_trans h.hB hs⟩
theorem Sg.drew (h:Sg H W B sb mb g cap bk M ok bs ss V R w):Sg H W B sb mb g cap bk M ok bs ss V R w.drew:=h.below (Below.refl _ w).drew
/-- A block that is made is held from here on. -/
theorem Sg.hold (h:Sg H W B sb mb g cap bk M ok bs ss V R w) (o:Obj):Sg (fun k=>H k ∨ k = w.heap.size) (w.alloc o) B sb mb g cap bk M ok bs ss V R (w.alloc o):=by
 have hb:=(Below.refl w.heap.size w).alloc (Nat.le_refl _) o
 have hsz:(w.alloc o).heap.size = w.heap.size + 1:=alloc_size w o
 obtain ⟨S,h1,h2,h3,h4⟩:=h.ex
 have hs:=hb.size
 have hl:=h.slt
 refine ⟨⟨_,h1.shrink (w':=w.alloc o) fun k _ hk=>hb.block k hk,fun k hk e=>⟨(h2 k (e.old hk).2 (e.old hk).1).1,fun e5=>e5.elim (h2 k (e.old hk).2 (e.old hk).1).2 fun e6=>by have:=(e.old hk).2;omega⟩,fun e=>h3 (e.old (Nat.lt_of_lt_of_le h.slt hs)).1,fun i hi k hk e=>h4 i hi k hk (e.old (Nat.lt_of_lt_of_le ((h.own i hi).lt k hk).2 hs)).1⟩,(hb.block sb h.slt).trans h.cell,fun e=>e.elim h.nH fun e=>by omega,h.lo,fun i hi=>ownsRow_keep (h.own i hi) fun k hk=>hb.block k ((h.own i hi).lt k hk).2,fun i hi k hk e=>e.elim (h.rH i hi k hk) fun e=>by have:=((h.own i hi).lt k hk).2;omega,h.rs,h.dis,rfl,rfl,rfl,Nat.le_refl _,fun _ _=>rfl,fun k hk=>?_,Nat.le_trans h.hB hs⟩
 rcases hk with hk | rfl
 · have:=h.lt k hk;omega
 · omega
theorem Sg.rest {W0:World} {H0:Nat → Prop} (h:Sg H W B sb mb g cap bk M ok bs ss V R w) (hH:∀ k,H0 k → H k) (e1:W.os = W0.os) (e2:W.tape = W0.tape) (e3:W.output = W0.output) (e4:W0.heap.size ≤ W.heap.size) (e5:∀ k,H0 k → W.heap[k]? = W0.heap[k]?):Sg H0 W0 B sb mb g cap bk M ok bs ss V R w:=by
 obtain ⟨S,h1,h2,h3,h4⟩:=h.ex
 exact ⟨⟨S,h1,fun k hk e=>⟨(h2 k hk e).1,fun e'=>(h2 k hk e).2 (hH k e')⟩,h3,h4⟩,h.cell,fun e=>h.nH (hH sb e),h.lo,h.own,fun i hi k hk e=>h.rH i hi k hk (hH k e),h.rs,h.dis,h.os.trans e1,h.tape.trans e2,h.output.trans e3,Nat.le_trans e4 h.size,fun k hk=>(h.block k (hH k hk)).trans (e5 k hk),fun k hk=>h.lt k (hH k hk),h.hB⟩
/-- A call of the mux. -/
theorem Sg.call {f:FuncId} {args:Array Value} {E:Ending → Prop} (h:Sg H W B sb mb g cap bk M ok bs ss V R w)
 (c:∀ S,MC S mb g cap bk M w → Calls Try.prog f args w fun e w'=>E e ∧ MC S mb g cap bk M' w' ∧ FrS S w w'):Calls Try.prog f args w fun e w'=>E e ∧ Sg H W B sb mb g cap bk M' ok bs ss V R w':=by
 obtain ⟨S,h1,h2,h3,h4⟩:=h.ex
 refine (c S h1).mono fun e w' ⟨he,g1,f3⟩=>⟨he,⟨S,g1,fun k hk e=>?_,h3,h4⟩,(f3.block sb h3).trans h.cell,h.nH,h.lo,fun i hi=>ownsRow_keep (h.own i hi) fun k hk=>f3.block k (h4 i hi k hk),h.rH,h.rs,h.dis,f3.os.trans h.os,f3.tape.trans h.tape,f3.output.trans h.output,Nat.le_trans h.size f3.size,fun k hk=>(f3.block k fun e=>(h2 k (h.lt k hk) e).2 hk).trans (h.block k hk),fun k hk=>Nat.lt_of_lt_of_le (h.lt k hk) f3.size,Nat.le_trans h.hB f3.size⟩
 have hB:=h.hB
 by_cases hlt:k < w.heap.size
 · exact h2 k hlt e
 · exact ⟨by omega,fun e'=>hlt (h.lt k e')⟩
/-- A list has grown. -/
theorem Sg.push {i:Nat} {u v':Value} {e:TypeId} (h:Sg H W B sb mb g cap bk M ok bs ss V R w) (hi:i < 7) (hr:w'.ownsRow B e 1 v' ((R i).2.2.length + 1) ((R i).2.2 ++ [u])) (hg:w.grownBy w' (R i).2.1.ownBlock) (hw:v'.ownBlock = (R i).2.1.ownBlock ∨ v'.ownBlock = some w.heap.size)
 (h0:R' i = (e,v',(R i).2.2 ++ [u])) (hj:∀ j,j < 7 → j ≠ i → R' j = R j):Sg H W B sb mb g cap bk M ok bs ss V R' w':=by
 obtain ⟨S,h1,h2,h3,h4⟩:=h.ex
 have hlt:∀ k,v'.ownBlock = some k → k < w'.heap.size:=fun k hk=>(hr.lt k hk).2
 have old:∀ j,j < 7 → ∀ k,(R j).2.1.ownBlock = some k → k < w.heap.size:=fun j hj k hk=>((h.own j hj).lt k hk).2
 have hs:=hg.size
 refine ⟨⟨ShS S w.heap.size w'.heap.size,h1.shrink (w':=w') fun k hk hlt=>hg.block k hlt fun e=>h4 i hi k e.symm hk,fun k hk e=>h2 k (e.old hk).2 (e.old hk).1,fun e=>h3 (e.old (Nat.lt_of_lt_of_le h.slt hs)).1,fun j hj7 k hk e=>?_⟩,(hg.block sb h.slt fun e=>h.rs i hi e.symm).trans h.cell,h.nH,h.lo,fun j hj7=>?_,fun j hj7 k hk=>?_,fun j hj7=>?_,fun j j' hj7 hj7' hne=>?_,hg.os.trans h.os,hg.tape.trans h.tape,hg.output.trans h.output,Nat.le_trans h.size hs,fun k hk=>(hg.block k (h.lt k hk) fun e=>h.rH i hi k e.symm hk).trans (h.block k hk),fun k hk=>Nat.lt_of_lt_of_le (h.lt k hk) hs,Nat.le_trans h.hB hs⟩
 · by_cases hji:j = i
   · subst hji
     rw [h0] at hk
     have hk:v'.ownBlock = some k:=hk
     have e1:=e.old (hlt k hk)
     rcases hw with hw | hw
     · exact h4 j hi k (by rw [← hw];exact hk) e1.1
     · rw [hw] at hk;injection hk with hk;omega
   · rw [hj j hj7 hji] at hk
     have hlo:=old j hj7 k hk
     exact h4 j hj7 k hk (e.old (Nat.lt_of_lt_of_le hlo hs)).1
 · by_cases hji:j = i
   · subst hji
     rw [h0]
     show w'.ownsRow _ e 1 v' ((R j).2.2 ++ [u]).length _
     rw [List.length_append];exact hr
   · rw [hj j hj7 hji]
     refine ownsRow_keep (h.own j hj7) fun k hk=>hg.block k (old j hj7 k hk) fun e=>?_
     rcases h.dis j i hj7 hi hji with e1 | e1
     · rw [e1] at hk;cases hk
     · exact e1 (by rw [hk,e])
 · by_cases hji:j = i
   · subst hji
     rw [h0] at hk
     have hk:v'.ownBlock = some k:=hk
     rcases hw with hw | hw
     · exact h.rH j hi k (by rw [← hw];exact hk)
     · rw [hw] at hk
       injection hk with hk
       exact fun e'=>by have:=h.lt k e';omega
   · rw [hj j hj7 hji] at hk
     exact h.rH j hj7 k hk
 · have hsl:=h.slt
   by_cases hji:j = i
   · subst hji
     rw [h0]
     show v'.ownBlock ≠ some sb
     rcases hw with hw | hw
     · rw [hw];exact h.rs j hi
     · rw [hw]
       intro e'
       injection e' with e'
       omega
   · rw [hj j hj7 hji];exact h.rs j hj7
 · by_cases hji:j = i
   · subst hji
     have hji':j' ≠ j:=fun e=>hne e.symm
     rw [h0,hj j' hj7' hji']
     show v'.ownBlock = none ∨ v'.ownBlock ≠ _
     rcases hw with hw | hw
     · rw [hw];exact h.dis j j' hj7 hj7' hne
     · right
       intro e1
       rw [hw] at e1
       have:=old j' hj7' _ e1.symm
       omega
   · rw [hj j hj7 hji]
     by_cases hji':j' = i
     · subst hji'
       rw [h0]
       show _ ∨ _ ≠ v'.ownBlock
       rcases hw with hw | hw
       · rw [hw];exact h.dis j j' hj7 hj7' hne
       · by_cases hn:(R j).2.1.ownBlock = none
         · exact .inl hn
         · right
           intro e1
           rw [hw] at e1
           have:=old j hj7 _ e1
           omega
     · rw [hj j' hj7' hji'];exact h.dis j j' hj7 hj7' hne
/-- A cell of the block itself turns. -/
theorem Sg.put {p:Nat} {u:Value} {ok':Bool} {bs' ss':Nat → Int} (h:Sg H W B sb mb g cap bk M ok bs ss V R w) (e:(sgC mb ok bs ss V).setIfInBounds p u = sgC mb ok' bs' ss' V'):Sg H W B sb mb g cap bk M ok' bs' ss' V' R (w.setCell ⟨sb,p,none⟩ u):=by
 have ho:OnlyB sb w (w.setCell ⟨sb,p,none⟩ u):=(OnlyB.refl sb w).setCell p u
 obtain ⟨S,h1,h2,h3,h4⟩:=h.ex
 refine ⟨⟨S,h1.keep (fun k hk _=>ho.rest k fun e=>h3 (by rw [← e];exact hk)) (fun k hk=>h1.hS k (by rw [ho.size] at hk;exact hk)) fun _ _ hs=>hs,by rw [ho.size];exact h2,h3,h4⟩,by rw [← e];exact set_at h.cell,h.nH,h.lo,fun i hi=>ownsRow_keep (h.own i hi) fun k hk=>ho.rest k fun e=>h.rs i hi (by rw [← e];exact hk),h.rH,h.rs,h.dis,ho.os.trans h.os,ho.tape.trans h.tape,ho.output.trans h.output,by rw [ho.size];exact h.size,fun k hk=>(ho.rest k fun e=>h.nH (by rw [← e];exact hk)).trans (h.block k hk),by rw [ho.size];exact h.lt,by rw [ho.size];exact h.hB⟩
/-- An element of a list turns. -/
theorem Sg.elem {i j gi ci:Nat} {u:Value} (h:Sg H W B sb mb g cap bk M ok bs ss V R w) (hi:i < 7) (hv:(R i).2.1 = .slice (some ⟨gi,0,none⟩) (R i).2.2.length ci) (h0:R' i = ((R i).1,(R i).2.1,(R i).2.2.set j u)) (hj:∀ j,j < 7 → j ≠ i → R' j = R j):Sg H W B sb mb g cap bk M ok bs ss V R' (w.setCell ⟨gi,j,none⟩ u):=by
 have ho:OnlyB gi w (w.setCell ⟨gi,j,none⟩ u):=(OnlyB.refl gi w).setCell j u
 have hgi:(R i).2.1.ownBlock = some gi:=by rw [hv];rfl
 obtain ⟨S,h1,h2,h3,h4⟩:=h.ex
 have hv':∀ q,q < 7 → (R' q).2.1 = (R q).2.1:=fun q hq=>by
  by_cases e:q = i
  · subst e;rw [h0]
  · rw [hj q hq e]
 have hrow:=h.own i hi
 rw [hv] at hrow
 refine ⟨⟨S,h1.keep (fun k hk _=>ho.rest k fun e=>h4 i hi k (by rw [hgi,e]) hk) (fun k hk=>h1.hS k (by rw [ho.size] at hk;exact hk)) fun _ _ hs=>hs,by rw [ho.size];exact h2,h3,fun q hq k hk=>h4 q hq k (by rw [← hv' q hq];exact hk)⟩,(ho.rest sb fun e=>h.rs i hi (by rw [hgi,e])).trans h.cell,h.nH,h.lo,fun q hq=>?_,fun q hq k hk=>h.rH q hq k (by rw [← hv' q hq];exact hk),fun q hq=>by rw [hv' q hq];exact h.rs q hq,fun q q' hq hq' hne=>by rw [hv' q hq,hv' q' hq'];exact h.dis q q' hq hq' hne,ho.os.trans h.os,ho.tape.trans h.tape,ho.output.trans h.output,by rw [ho.size];exact h.size,fun k hk=>(ho.rest k fun e=>h.rH i hi k (by rw [hgi,e]) hk).trans (h.block k hk),by rw [ho.size];exact h.lt,by rw [ho.size];exact h.hB⟩
 by_cases e:q = i
 · subst e
   rw [h0]
   show (w.setCell ⟨gi,j,none⟩ u).ownsRow B (R q).1 1 (R q).2.1 ((R q).2.2.set j u).length _
   rw [List.length_set,hv]
   exact (hrow.stored j u).1
 · rw [hj q hq e]
   refine ownsRow_keep (h.own q hq) fun k hk=>ho.rest k fun e'=>?_
   rcases h.dis q i hq hi e with e1 | e1
   · rw [e1] at hk;cases hk
   · exact e1 (by rw [hk,hgi,e'])
end Go.Am.Cha
