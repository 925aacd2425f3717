/-
 Channels: what the law gets, in memory: a demux and eight lists that grow. Own work.
-/
import Derived.Test.YtlgpalokjckdcaaChaWB
import Derived.Test.YtlgpalokjckdcaaChaGJ
import Derived.Test.YtlgpalokjckdcaaOwnG
import Derived.Test.YtlgpalokjckdcaaOwnBC
import Derived.Deep.AppendLies
namespace Go.Am.Cha
open Go Go.Am Go.Am.Lib Go.Lib Go.Proofs Go.RowKit
open Go.Am.Own
set_option maxRecDepth 100000

def gotC (v:Nat → Value):Array Value:=#[v 0,v 1,v 2,v 3,v 4,v 5,v 6,v 7]
theorem gotC_at (v:Nat → Value) {c:Nat} (h:c < 8):(gotC v)[c]? = some (v c):=by
 match c,h with
 | 0,_ | 1,_ | 2,_ | 3,_ | 4,_ | 5,_ | 6,_ | 7,_=>rfl
def updW (f:Nat → Value) (k:Nat) (u:Value):Nat → Value:=fun j=>if j = k then u else f j
theorem gotC_set (v:Nat → Value) {c:Nat} (h:c < 8) (u:Value):(gotC v).setIfInBounds c u = gotC (updW v c u):=by
 match c,h with
 | 0,_ | 1,_ | 2,_ | 3,_ | 4,_ | 5,_ | 6,_ | 7,_=>rfl
theorem updW_same (f:Nat → Value) (k:Nat) (u:Value):updW f k u k = u:=if_pos rfl
theorem updW_other (f:Nat → Value) {k j:Nat} (u:Value) (h:j ≠ k):updW f k u j = f j:=if_neg h
/-- While the law runs: the blocks H are as in W; db: the demux; gb: the lists, their cells V, their rows v. -/
structure Lw (H:Nat → Prop) (W:World) (B gb db:Nat) (D:Dm) (g:Nat → List L8) (V v:Nat → Value) (w:World):Prop where
 dm:w.heap[db]? = some (.cells (dmC D) 74 (0,0))
 gc:w.heap[gb]? = some (.cells (gotC V) 50 (0,0))
 own:∀ c,c < 8 → w.ownsRow B 9 1 (v c) (g c).length (cellS (g c))
 dis:∀ c c',c < 8 → c' < 8 → c ≠ c' → (v c).ownBlock = none ∨ (v c).ownBlock ≠ (v c').ownBlock
 ne:db ≠ gb
 Bd:db < B
 Bg:gb < B
 rH:∀ c,c < 8 → ∀ k,(v c).ownBlock = some k → ¬ H k
 nd:¬ H db
 ng:¬ H gb
 os:w.os = W.os
 tape:w.tape = W.tape
 output:w.output = W.output
 size:W.heap.size ≤ w.heap.size
 block:∀ k,H k → w.heap[k]? = W.heap[k]?
 lt:∀ k,H k → k < w.heap.size
 hB:B ≤ w.heap.size
variable {H H0:Nat → Prop} {W W0 w w':World} {B gb db:Nat} {D D':Dm} {g:Nat → List L8} {V v:Nat → Value}
theorem Lw.row_ne (h:Lw H W B gb db D g V v w) {c:Nat} (hc:c < 8) {k:Nat} (hk:(v c).ownBlock = some k):k ≠ db ∧ k ≠ gb ∧ k < w.heap.size:=by
 have h1:=(h.own c hc).lt k hk
 have h2:=h.Bd
 have h3:=h.Bg
 omega
theorem Lw.below (h:Lw H W B gb db D g V v w) (hb:Below w.heap.size w w'):Lw H W B gb db D g V v w':=by
 have hs:=hb.size
 have h2:=h.Bd
 have h3:=h.Bg
 have h4:=h.hB
 exact ⟨(hb.block db (by omega)).trans h.dm,(hb.block gb (by omega)).trans h.gc,fun c hc=>ownsRow_keep (h.own c hc) fun k hk=>hb.block k ((h.own c hc).lt k hk).2,h.dis,h.ne,h.Bd,h.Bg,h.rH,h.nd,h.ng,hb.os.trans h.os,hb.tape.trans h.tape,hb.output.trans h.output,Nat.le_trans h.size hs,fun k hk=>(hb.block k (h.lt k hk)).trans (h.block k hk),fun k hk=>Nat.lt_of_lt_of_le (h.lt k hk) hs,Nat.le_trans h4 hs⟩
theorem Lw.drew (h:Lw H W B gb db D g V v w):Lw H W B gb db D g V v w.drew:=h.below (Below.refl _ w).drew
/-- More blocks are held. -/
theorem Lw.more {H':Nat → Prop} (h:Lw H W B gb db D g V v w) (hH:∀ k,H' k → k < w.heap.size ∧ k ≠ db ∧ k ≠ gb ∧ ∀ c,c < 8 → (v c).ownBlock ≠ some k):Lw H' w B gb db D g V v w :=
 ⟨h.dm,h.gc,h.own,h.dis,h.ne,h.Bd,h.Bg,fun c hc k hk hHk=>(hH k hHk).2.2.2 c hc hk,fun e=>(hH db e).2.1 rfl,fun e=>(hH gb e).2.2.1 rfl,rfl,rfl,rfl,Nat.le_refl _,fun _ _=>rfl,fun k hk=>(hH k hk).1,h.hB⟩
theorem Lw.held (h:Lw H W B gb db D g V v w) {k:Nat} (hk:H k):k < w.heap.size ∧ k ≠ db ∧ k ≠ gb ∧ ∀ c,c < 8 → (v c).ownBlock ≠ some k :=
 ⟨h.lt k hk,fun e=>h.nd (e ▸ hk),fun e=>h.ng (e ▸ hk),fun c hc e=>h.rH c hc k e hk⟩
theorem Lw.rest (h:Lw H W B gb db D g V v w) (hH:∀ k,H0 k → H k) (e1:W.os = W0.os) (e2:W.tape = W0.tape) (e3:W.output = W0.output) (e4:W0.heap.size ≤ W.heap.size) (e5:∀ k,H0 k → W.heap[k]? = W0.heap[k]?):Lw H0 W0 B gb db D g V v w :=
 ⟨h.dm,h.gc,h.own,h.dis,h.ne,h.Bd,h.Bg,fun c hc k hk e=>h.rH c hc k hk (hH k e),fun e=>h.nd (hH db e),fun e=>h.ng (hH gb e),h.os.trans e1,h.tape.trans e2,h.output.trans e3,Nat.le_trans e4 h.size,fun k hk=>(h.block k (hH k hk)).trans (e5 k hk),fun k hk=>h.lt k (hH k hk),h.hB⟩
/-- A feeding. -/
theorem Lw.feed {A:Arr} {c:Int} {e:Ending} (h:Lw H W B gb db D g V v w) (hf:Fed db w D' A c e w'):∃ av,e = .returned (.tuple #[.agg (arrC A av),.int .i64 c]) ∧ w'.ownsRow w.heap.size 9 1 av A.pk.length (cellS A.pk) ∧ Lw H W B gb db D' g V v w':=by
 obtain ⟨av,e1,e2,e3,e4⟩:=hf
 have hs:=e4.size
 have h2:=h.Bd
 have h3:=h.Bg
 have h4:=h.hB
 have hk:∀ k,k < w.heap.size → k ≠ db → w'.heap[k]? = w.heap[k]?:=fun k h1 h2=>e4.block k fun e=>e.elim h2 fun e=>by omega
 exact ⟨av,e1,e2,e3,(hk gb (by omega) (Ne.symm h.ne)).trans h.gc,fun c hc=>ownsRow_keep (h.own c hc) fun k hk2=>hk k (h.row_ne hc hk2).2.2 (h.row_ne hc hk2).1,h.dis,h.ne,h.Bd,h.Bg,h.rH,h.nd,h.ng,e4.os.trans h.os,e4.tape.trans h.tape,e4.output.trans h.output,Nat.le_trans h.size hs,fun k hk2=>(hk k (h.lt k hk2) fun e=>h.nd (e ▸ hk2)).trans (h.block k hk2),fun k hk2=>Nat.lt_of_lt_of_le (h.lt k hk2) hs,Nat.le_trans h4 hs⟩
/-- A list grows. -/
theorem Lw.push {k:Nat} {v':Value} {l:List L8} (h:Lw H W B gb db D g V v w) (hk:k < 8) (hr:w'.ownsRow B 9 1 v' ((g k).length + l.length) (cellS (g k) ++ cellS l)) (hg:w.grownBy w' (v k).ownBlock) (hw:v'.ownBlock = (v k).ownBlock ∨ v'.ownBlock = some w.heap.size) :
 Lw H W B gb db D (updL g k (g k ++ l)) V (updW v k v') w':=by
 have hs:=hg.size
 have h2:=h.Bd
 have h3:=h.Bg
 have h4:=h.hB
 have old:∀ c,c < 8 → ∀ j,(v c).ownBlock = some j → j < w.heap.size:=fun c hc j hj=>((h.own c hc).lt j hj).2
 have hne:∀ c,c < 8 → c ≠ k → ∀ j,(v c).ownBlock = some j → some j ≠ v'.ownBlock:=fun c hc hck j hj e=>by
  rcases hw with hw | hw
  · rcases h.dis c k hc hk hck with e1 | e1
    · rw [e1] at hj;cases hj
    · exact e1 (by rw [hj,e,hw])
  · rw [hw] at e
    injection e with e
    have:=old c hc j hj
    omega
 refine ⟨(hg.block db (by omega) fun e=>(h.row_ne hk e.symm).1 rfl).trans h.dm,(hg.block gb (by omega) fun e=>(h.row_ne hk e.symm).2.1 rfl).trans h.gc,fun c hc=>?_,fun c c' hc hc' hcc=>?_,h.ne,h.Bd,h.Bg,fun c hc j hj=>?_,h.nd,h.ng,hg.os.trans h.os,hg.tape.trans h.tape,hg.output.trans h.output,Nat.le_trans h.size hs,fun j hj=>(hg.block j (h.lt j hj) fun e=>h.rH k hk j e.symm hj).trans (h.block j hj),fun j hj=>Nat.lt_of_lt_of_le (h.lt j hj) hs,Nat.le_trans h4 hs⟩
 · by_cases e:c = k
   · subst e
     rw [updW_same,updL_same]
     have e2:cellS (g c ++ l) = cellS (g c) ++ cellS l:=by unfold cellS;rw [List.map_append]
     rw [e2,List.length_append]
     exact hr
   · rw [updW_other _ _ e,updL_other _ _ e]
     exact ownsRow_keep (h.own c hc) fun j hj=>hg.block j (old c hc j hj) fun e1=>by
      rcases h.dis c k hc hk e with e2 | e2
      · rw [e2] at hj;cases hj
      · exact e2 (by rw [hj,e1])
 · by_cases e:c = k
   · subst e
     rw [updW_same,updW_other _ _ (Ne.symm hcc)]
     by_cases hn:(v c').ownBlock = none
     · cases hv:v'.ownBlock with
       | none=>exact .inl rfl
       | some j=>exact .inr (by rw [hn];simp)
     · obtain ⟨j,hj⟩:=Option.ne_none_iff_exists'.1 hn
       exact .inr fun e1=>hne c' hc' (Ne.symm hcc) j hj (by rw [e1,hj])
   · rw [updW_other _ _ e]
     by_cases e':c' = k
     · subst e'
       rw [updW_same]
       cases hj:(v c).ownBlock with
       | none=>exact .inl rfl
       | some j=>exact .inr (hne c hc e j hj)
     · rw [updW_other _ _ e']
       exact h.dis c c' hc hc' hcc
 · by_cases e:c = k
   · subst e
     rw [updW_same] at hj
     rcases hw with hw | hw
     · exact h.rH c hk j (by rw [← hw];exact hj)
     · rw [hw] at hj
       injection hj with hj
       exact fun e'=>by have:=h.lt j e';omega
   · rw [updW_other _ _ e] at hj
     exact h.rH c hc j hj
/-- A cell of the lists. -/
theorem Lw.put {k:Nat} {u:Value} (h:Lw H W B gb db D g V v w) (hk:k < 8):Lw H W B gb db D g (updW V k u) v (w.setCell ⟨gb,k,none⟩ u):=by
 have ho:OnlyB gb w (w.setCell ⟨gb,k,none⟩ u):=(OnlyB.refl gb w).setCell k u
 refine ⟨(ho.rest db h.ne).trans h.dm,by rw [← gotC_set V hk u];exact set_at h.gc,fun c hc=>ownsRow_keep (h.own c hc) fun j hj=>ho.rest j (h.row_ne hc hj).2.1,h.dis,h.ne,h.Bd,h.Bg,h.rH,h.nd,h.ng,h.os,h.tape,h.output,by rw [ho.size];exact h.size,fun j hj=>(ho.rest j fun e=>h.ng (e ▸ hj)).trans (h.block j hj),fun j hj=>by rw [ho.size];exact h.lt j hj,by rw [ho.size];exact h.hB⟩
/-- A row of the lists that is not appended to. -/
theorem run_append_none {P:Program} {w:World} {t ty e:TypeId} {i:TypeInfo} (ht:P.underlying t = some (.slice e)) (hi:P.info? e = some i) (o:Option Addr) (n c:Nat) (hn:n ≤ c) :
 (Builtin.append_ #[t,t] ty #[.slice o n c,.slice none 0 0]).run P w = .ok (.slice o n c) w:=by
 cases o <;> simp [Builtin.append_,run_underlying ht,sizeOf,typeInfo,hi,Builtin.lenOf,hn,run_firstCells_none,storeCells]
end Go.Am.Cha
