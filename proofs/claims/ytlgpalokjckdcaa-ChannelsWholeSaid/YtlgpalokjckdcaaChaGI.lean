/-
  Channels: a sink takes a field. Own work.
-/
import Derived.Test.YtlgpalokjckdcaaChaGH
namespace Go.Am.Cha
open Go Go.Am Go.Am.Lib Go.Lib Go.Proofs Go.RowKit
open Go.Am.Own
set_option maxRecDepth 100000

theorem bits_255 {a b:Nat} (ha:a ≤ 255) (hb:b ≤ 255):bits BinOp.and .i64 (((a:Nat):Int) - ((b:Nat):Int) - 1) 255 = ((behindN a b:Nat):Int):=by
 have h:bits BinOp.and .i64 (((a:Nat):Int) - ((b:Nat):Int) - 1) 255 = IntKind.wrap .i64 (((BitVec.ofInt 64 (((a:Nat):Int) - ((b:Nat):Int) - 1)) &&& (BitVec.ofInt 64 255)).toNat:Int):=rfl
 have e1:(BitVec.ofInt 64 (((a:Nat):Int) - ((b:Nat):Int) - 1)).toNat = (a + (2 ^ 64 - 1) - b) % 2 ^ 64:=by
  rw [BitVec.toNat_ofInt]
  omega
 have e2:(BitVec.ofInt 64 255).toNat = 2 ^ 8 - 1:=by decide
 rw [h,BitVec.toNat_and,e1,e2,Nat.and_two_pow_sub_one_eq_mod]
 have e3:(a + (2 ^ 64 - 1) - b) % 2 ^ 64 % 2 ^ 8 = behindN a b:=by unfold behindN;omega
 rw [e3]
 exact wrap_cast .i64 (by unfold behindN cap;simp [IntKind.signed,IntKind.bits];omega)
theorem behind_calls {a b:Nat} (ha:a ≤ 255) (hb:b ≤ 255) (w:World):Calls Try.prog 30 #[.int .i64 ((a:Nat):Int),.int .i64 ((b:Nat):Int)] w fun e w'=>e = .returned (.int .i64 ((behindN a b:Nat):Int)) ∧ w = w':=by
 have hbi:=bits_255 ha hb
 go_enter Try.func30,Try.ntmps30
 go_wp2
 go_ret
 exact ⟨rfl,rfl⟩
end Go.Am.Cha

namespace Go.Am.Cha
open Go Go.Am Go.Am.Lib Go.Lib Go.Proofs Go.RowKit
open Go.Am.Own
open Go.Am.Tmf (getTE gFr datT gWd by2N)
set_option maxRecDepth 100000

theorem Dm.put_self (D:Dm) (k:Nat):D.put k (D.sk k) = D:=by
 unfold Dm.put
 cases D
 congr 1
 funext j
 by_cases h:j = k
 · subst h;simp
 · simp only [if_neg h]
theorem put3 (D:Dm) {k:Nat} (hk:k < 8) (x:Sk) (b:Bool):(dmC (D.put k x)).setIfInBounds (4 + k * 5 + 3) (.bool b) = dmC (D.put k { x with bg:=b }):=by
 rw [dmC_put (D.put k x) (q:=3) hk (by omega) { x with bg:=b } (fun j hj hn=>by rw [Dm.put_at];match j,hj,hn with | 0,_,_=>rfl | 1,_,_=>rfl | 2,_,_=>rfl | 4,_,_=>rfl) rfl,Dm.put_put]
theorem put4 (D:Dm) {k:Nat} (hk:k < 8) (x:Sk) (p:ByteArray):(dmC (D.put k x)).setIfInBounds (4 + k * 5 + 4) (.string p) = dmC (D.put k { x with pt:=p }):=by
 rw [dmC_put (D.put k x) (q:=4) hk (by omega) { x with pt:=p } (fun j hj hn=>by rw [Dm.put_at];match j,hj,hn with | 0,_,_=>rfl | 1,_,_=>rfl | 2,_,_=>rfl | 3,_,_=>rfl | 4,_,hn=>exact absurd rfl hn) rfl,Dm.put_put]
theorem put0 (D:Dm) {k:Nat} (hk:k < 8) (x:Sk) (b:Bool):(dmC (D.put k x)).setIfInBounds (4 + k * 5) (.bool b) = dmC (D.put k { x with kn:=b }):=by
 have:=dmC_put (D.put k x) (q:=0) hk (by omega) { x with kn:=b } (fun j hj hn=>by rw [Dm.put_at];match j,hj,hn with | 1,_,_=>rfl | 2,_,_=>rfl | 3,_,_=>rfl | 4,_,_=>rfl) (v:=.bool b) rfl
 rw [Dm.put_put] at this
 exact this
theorem put1 (D:Dm) {k:Nat} (hk:k < 8) (x:Sk) (p:ByteArray):(dmC (D.put k x)).setIfInBounds (4 + k * 5 + 1) (.string p) = dmC (D.put k { x with fr:=p }):=by
 rw [dmC_put (D.put k x) (q:=1) hk (by omega) { x with fr:=p } (fun j hj hn=>by rw [Dm.put_at];match j,hj,hn with | 0,_,_=>rfl | 2,_,_=>rfl | 3,_,_=>rfl | 4,_,_=>rfl) rfl,Dm.put_put]
theorem put2 (D:Dm) {k:Nat} (hk:k < 8) (x:Sk) (n:Nat):(dmC (D.put k x)).setIfInBounds (4 + k * 5 + 2) (.int .i64 ((n:Nat):Int)) = dmC (D.put k { x with ct:=n }):=by
 rw [dmC_put (D.put k x) (q:=2) hk (by omega) { x with ct:=n } (fun j hj hn=>by rw [Dm.put_at];match j,hj,hn with | 0,_,_=>rfl | 1,_,_=>rfl | 2,_,hn=>exact absurd rfl hn | 3,_,_=>rfl | 4,_,_=>rfl) rfl,Dm.put_put]
theorem stepA_plain {D:Dm} {k:Nat} (hk:k < 8) {x:Sk} {first n n':Nat} {data:ByteArray} {L L':List L8} {cs':Array Value} (h:StepA x.bg x.pt first (4 + k * 5) data (dmC (D.put k x)) n L cs' n' L') :
 cs' = dmC (D.put k (stepM x first data n L).1) ∧ n' = (stepM x first data n L).2.1 ∧ L' = (stepM x first data n L).2.2:=by
 unfold StepA at h
 unfold stepM
 rcases h with ⟨h0,rfl,rfl,rfl⟩ | ⟨h0,part,hp,h⟩
 · rw [if_neg (by rw [h0];decide)]
   exact ⟨rfl,rfl,rfl⟩
 · rw [if_pos h0,← hp]
   rcases h with ⟨h1,rfl,rfl,rfl⟩ | ⟨h1,h2,rfl,rfl,rfl⟩ | ⟨h1,h2,rfl,rfl,rfl⟩
   · rw [if_pos h1,put4 D hk,put3 D hk]
     exact ⟨rfl,rfl,rfl⟩
   · rw [if_neg h1,if_pos h2,put4 D hk,put3 D hk]
     exact ⟨rfl,rfl,rfl⟩
   · rw [if_neg (by rw [h1];intro hh;exact absurd hh.1 (by decide)),if_neg (by rw [h1,h2];omega),put4 D hk]
     exact ⟨rfl,rfl,rfl⟩
theorem tail_plain {D:Dm} {k:Nat} (hk:k < 8) (a:Sk × Nat × List L8) (p:List ByteArray × ByteArray) :
 endC ((dmC (D.put k a.1)).setIfInBounds (4 + k * 5 + 4) (.string ⟨#[]⟩)) (4 + k * 5) p.2 = dmC (D.put k (tailM a p).1) ∧ endN a.2.1 p.2 = (tailM a p).2.1 ∧ a.2.2 ++ came p.1 = (tailM a p).2.2:=by
 refine ⟨?_,rfl,rfl⟩
 have tm:(tailM a p).1 = if p.2.size ≠ 0 ∧ Pkt.takeE p.2 = 4 then { a.1 with bg:=true,pt:=p.2 } else { a.1 with pt:=⟨#[]⟩ }:=rfl
 unfold endC
 rw [put4 D hk,tm]
 by_cases h:p.2.size ≠ 0 ∧ Pkt.takeE p.2 = 4
 · rw [if_pos h,if_pos h,put3 D hk,put4 D hk]
 · rw [if_neg h,if_neg h]
variable {sb Bf Bo:Nat} {w0 V:World} {fr:Array Value}
theorem row_raise {w:World} {B B':Nat} {e:TypeId} {size:Nat} {v:Value} {n:Nat} {xs:List Value} (h:w.ownsRow B e size v n xs) (hB:∀ k,v.ownBlock = some k → B' ≤ k):w.ownsRow B' e size v n xs:=by
 obtain ⟨h1,h2⟩:=h
 rcases h2 with h2 | ⟨g,cap,cur,e1,e2,e3⟩
 · exact ⟨h1,Or.inl h2⟩
 · exact ⟨h1,Or.inr ⟨g,cap,cur,e1,hB g (by rw [e1];rfl),e3⟩⟩
/-- take, as Feed calls it. -/
theorem take_fd {D:Dm} {k:Nat} (hk:k < 8) {x:Sk} {first br lo mi xW:Nat} {data:ByteArray} {crf ch mst cnt:Int} {wd:Value} (h:Fd sb w0 Bf Bo (dmC (D.put k x)) fr (arrC ⟨k,false,lo,mi,[],br,xW⟩ (.slice none 0 0)) V)
 (hps:x.bg = true → x.pt.size ≤ 100000) (hbr:br ≤ 1) (hf0:first ≤ 2047) (hd:data.size ≤ 1000) :
 Calls Try.prog 32 #[.pointer (some ⟨sb,4 + k * 5,none⟩),.pointer (some ⟨Bo,0,none⟩),.agg (frV crf ch mst cnt first data wd)] V fun e w'=>e = .returned (.tuple #[]) ∧
  ∃ v,Fd sb w0 Bf Bo (dmC (D.put k (takeM x first data br []).1)) fr (arrC ⟨k,false,lo,mi,(takeM x first data br []).2.2,(takeM x first data br []).2.1,xW⟩ v) w' ∧ w'.ownsRow w0.heap.size 9 1 v (takeM x first data br []).2.2.length (cellS (takeM x first data br []).2.2):=by
 have n1:=h.n1
 have n2:=h.n2
 have n3:=h.n3
 have lt:=h.lt
 obtain ⟨S',hS'⟩:∃ S':Nat → Prop,S' = fun j=>j = Bo ∨ V.heap.size ≤ j:=⟨_,rfl⟩
 obtain ⟨S,hS⟩:∃ S:Nat → Prop,S = fun j=>j = sb ∨ j = Bo ∨ V.heap.size ≤ j:=⟨_,rfl⟩
 have hA:Ar S' Bo (.int .i64 ((k:Nat):Int)) (.bool false) (.int .i64 ((lo:Nat):Int)) (.int .i64 ((mi:Nat):Int)) (.slice none 0 0) (.int .i64 ((br:Nat):Int)) (.int .u32 ((xW:Nat):Int)) [] V :=
  ⟨fun j hj=>by rw [hS'];exact .inr hj,h.o,by rw [hS'];exact .inl rfl,World.ownsRow_nil _ _ _ _,fun j hj=>by cases hj⟩
 have hc3:(dmC (D.put k x))[4 + k * 5 + 3]? = some (.bool x.bg):=by rw [dmC_at _ hk (by omega),Dm.put_at];rfl
 have hc4:(dmC (D.put k x))[4 + k * 5 + 4]? = some (.string x.pt):=by rw [dmC_at _ hk (by omega),Dm.put_at];rfl
 have ht:=take_wp (S:=S) (sb:=sb) (so:=4 + k * 5) (n:=br) hA (fun j hj=>by rw [hS'] at hj;rw [hS];exact .inr hj) (by rw [hS'];omega) h.sk (fun j hj=>by rw [hS];exact .inr (.inr hj)) (by rw [hS];exact .inl rfl) (by rw [dmC_size];omega) x.bg x.pt hc3 hc4 hps (by omega) (by simp) crf ch mst cnt first data wd hf0 hd
 refine ht.mono ?_
 rintro e w' ⟨he,cs',n',L',hst,h47,hno⟩
 refine ⟨he,?_⟩
 obtain ⟨e1,e2,e3⟩:=stepA_plain hk hst
 have fin:∀ (a:Sk × Nat × List L8) (v:Value),TkE S sb Bo (dmC (D.put k a.1)) (.int .i64 ((k:Nat):Int)) (.bool false) (.int .i64 ((lo:Nat):Int)) (.int .i64 ((mi:Nat):Int)) v (.int .i64 ((a.2.1:Nat):Int)) (.int .u32 ((xW:Nat):Int)) a.2.2 V w' →
  Fd sb w0 Bf Bo (dmC (D.put k a.1)) fr (arrC ⟨k,false,lo,mi,a.2.2,a.2.1,xW⟩ v) w' ∧ w'.ownsRow w0.heap.size 9 1 v a.2.2.length (cellS a.2.2):=by
  intro a v ⟨⟨S2,g1,g2,g3⟩,g4,g5⟩
  have nS:∀ j,j < Bo → j ≠ sb → ¬ S j:=fun j hj hn=>by rw [hS];omega
  refine ⟨⟨g4,(g5.block _ (nS _ (by omega) (by omega))).trans h.z,(g5.block _ (nS _ (by omega) (by omega))).trans h.f,g1.cell,n1,n2,n3,h.fr.trans (g5.mono fun j hj=>?_)⟩,row_raise g1.row fun j hj=>?_⟩
  · rw [hS] at hj
    rcases hj with hj | hj | hj
    · exact .inl hj
    · exact .inr (by omega)
    · exact .inr (by omega)
  · have h2:=g2 j (g1.Sv j hj)
    have h3:j ≠ sb:=fun e=>g3 (by rw [← e];exact g1.Sv j hj)
    rw [hS] at h2
    rcases h2 with h2 | h2 | h2
    · exact absurd h2 h3
    · omega
    · omega
 by_cases hf:first = 2047
 · obtain ⟨v',ht⟩:=h47 hf
   rw [e1,e2,e3] at ht
   have et:takeM x first data br [] = stepM x first data br []:=if_pos hf
   rw [et]
   exact ⟨v',fin _ v' ht⟩
 · obtain ⟨v',xs,r,hp,ht⟩:=hno hf
   have et:takeM x first data br [] = tailM (stepM x first data br []) (xs,r):=by unfold takeM;rw [if_neg hf,hp]
   obtain ⟨t1,t2,t3⟩:=tail_plain (D:=D) hk (stepM x first data br []) (xs,r)
   rw [e1,e2,e3,t1,t2,t3] at ht
   rw [et]
   exact ⟨v',fin _ v' ht⟩
end Go.Am.Cha

namespace Go.Am.Cha
open Go Go.Am Go.Am.Lib Go.Lib Go.Proofs Go.RowKit
open Go.Am.Own
open Go.Am.Tmf (getTE gFr datT gWd by2N)
set_option maxRecDepth 100000

variable {sb:Nat} {w:World} {D:Dm}
/-- The arrival is what Feed says; without draws. -/
theorem out_end0 {w0 V:World} {Bf Bo:Nat} {fr:Array Value} {D':Dm} {A:Arr} {v:Value} {E:Int} (h:Fd sb w0 Bf Bo (dmC D') fr (arrC A v) V) (hr:V.ownsRow w0.heap.size 9 1 v A.pk.length (cellS A.pk)) {a:Act} (h1:a.tmps[4]? = some (.pointer (some ⟨w0.heap.size,0,none⟩))) (h2:a.tmps[5]? = some (.int .i64 E)) (hd:a.defers = []) :
 bodyPost Try.prog Try.f11 (fun e w'=>∃ v,e = .returned (.tuple #[.agg (arrC A v),.int .i64 E]) ∧ w'.ownsRow w0.heap.size 9 1 v A.pk.length (cellS A.pk) ∧ w'.heap[sb]? = some (.cells (dmC D') 74 (0,0)) ∧ FrS (fun k=>k = sb ∨ w0.heap.size ≤ k) w0 w') .ret a (wr7 V w0.heap.size (.int .i64 ((A.ch:Nat):Int)) (.bool A.db) (.int .i64 ((A.lost:Nat):Int)) (.int .i64 ((A.missed:Nat):Int)) v (.int .i64 ((A.br:Nat):Int)) (.int .u32 ((A.wd:Nat):Int))):=by
 obtain ⟨k7,o7⟩:=wr7_at h.z (.int .i64 ((A.ch:Nat):Int)) (.bool A.db) (.int .i64 ((A.lost:Nat):Int)) (.int .i64 ((A.missed:Nat):Int)) v (.int .i64 ((A.br:Nat):Int)) (.int .u32 ((A.wd:Nat):Int))
 have hn:=h.n1
 obtain ⟨W7,hW7⟩:∃ W7,wr7 V w0.heap.size (.int .i64 ((A.ch:Nat):Int)) (.bool A.db) (.int .i64 ((A.lost:Nat):Int)) (.int .i64 ((A.missed:Nat):Int)) v (.int .i64 ((A.br:Nat):Int)) (.int .u32 ((A.wd:Nat):Int)) = W7:=⟨_,rfl⟩
 rw [hW7] at k7 o7 ⊢
 have hz:=h.z
 exact feed_end (A:=A) (v:=v) k7 h1 h2 hd ⟨_,rfl,ownsRow_keep hr fun k e=>o7.rest k fun e'=>ownsRow_neb hr hz (by decide) (by rw [e,e']),(o7.rest sb (by omega)).trans h.sk,h.fr.trans (o7.fr (.inr (Nat.le_refl _)))⟩
end Go.Am.Cha
