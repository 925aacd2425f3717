/-
  Channels: the packets of a field. Own work.
-/
import Derived.Test.YtlgpalokjckdcaaChaGF
import Derived.OwnWalkIn
import Derived.TacticsInMore
import Derived.LoopNIn
import Derived.LoopIn
import Derived.Stop.RegionWithIn
namespace Go.Am.Cha
open Go Go.Am Go.Am.Lib Go.Lib Go.Proofs Go.RowKit
open Go.Am.Own
set_option maxRecDepth 100000
attribute [local go_sem] Oper.semAt_some

def pkV (s:ByteArray):Value:=.agg #[.bool (Pkt.pC s),.int .i64 ((Pkt.pA s:Nat):Int),.int .i64 ((Pkt.pF s:Nat):Int),.int .i64 ((Pkt.pN s:Nat):Int),.string (Pkt.pD s)]
theorem take_calls (s:ByteArray) (w:World):Calls Try.prog 57 #[.string s] w fun e w'=>e = .returned (.tuple #[pkV s,.int .i64 ((Pkt.pL s:Nat):Int),.int .i64 (Pkt.takeE s)]) ∧ Below w.heap.size w w' :=
 Tmf.flat_calls Pkt.okTake w (args:=[.string s]) rfl (v:=.tuple ⟨[.agg ⟨[.bool (Pkt.pC s),.int .i64 ((Pkt.pA s:Nat):Int),.int .i64 ((Pkt.pF s:Nat):Int),.int .i64 ((Pkt.pN s:Nat):Int),.string (Pkt.pD s)]⟩,.int .i64 ((Pkt.pL s:Nat):Int),.int .i64 (Pkt.takeE s)]⟩) rfl ⟨rfl,rfl⟩
theorem take_len {s:ByteArray} (h:Pkt.takeE s = 0):7 ≤ Pkt.pL s ∧ Pkt.pL s ≤ s.size:=by
 have nb:¬ Pkt.badP s:=fun b=>by rw [Pkt.takeE_bad b] at h;exact absurd h (by decide)
 have ns:¬ (s.size < 6 ∨ s.size < Pkt.lenT s):=fun b=>by rw [Pkt.takeE_short nb b] at h;exact absurd h (by decide)
 unfold Pkt.pL
 rw [if_pos h]
 unfold Pkt.lenT at ns ⊢
 omega
theorem takeE_cases (s:ByteArray):Pkt.takeE s = 0 ∨ Pkt.takeE s = 4 ∨ Pkt.takeE s = 6:=by
 unfold Pkt.takeE;split
 · exact .inr (.inr rfl)
 · split
   · exact .inr (.inl rfl)
   · exact .inl rfl
/-- What follows the packet at the beginning. -/
def dropB (x:ByteArray):ByteArray:=x.extract (Pkt.pL x) x.size
def headB (x:ByteArray):ByteArray:=x.extract 0 (Pkt.pL x)
theorem dropB_size (x:ByteArray):(dropB x).size = x.size - Pkt.pL x:=by unfold dropB;rw [ByteArray.size_extract];omega
def remOf (b0:ByteArray) (pre:List ByteArray):ByteArray:=match pre.getLast? with | none=>b0 | some x=>dropB x
theorem remOf_nil (b0:ByteArray):remOf b0 [] = b0:=rfl
theorem remOf_snoc (b0:ByteArray) (pre:List ByteArray) (x:ByteArray):remOf b0 (pre ++ [x]) = dropB x:=by unfold remOf;rw [List.getLast?_concat]
/-- Is there a packet at the beginning? -/
def Goes (x:ByteArray):Prop:=x.size ≠ 0 ∧ Pkt.takeE x = 0
instance (x:ByteArray):Decidable (Goes x):=inferInstanceAs (Decidable (_ ∧ _))
/-- The places at which packets begin, each with all that follows; what is left. -/
def parse:Nat → ByteArray → List ByteArray × ByteArray
 | 0,b=>([],b)
 | n + 1,b=>if Goes b then (b :: (parse n (dropB b)).1,(parse n (dropB b)).2) else ([],b)
theorem parse_goes {n:Nat} {b:ByteArray} (h:Goes b) (hn:b.size ≤ n):parse n b = (b :: (parse (dropB b).size (dropB b)).1,(parse (dropB b).size (dropB b)).2):=by
 have mono:∀ (n m:Nat) (b:ByteArray),b.size ≤ n → n ≤ m → parse m b = parse n b:=by
  intro n
  induction n with
  | zero =>
   intro m b hb _
   have hg:¬ Goes b:=fun hg=>hg.1 (by omega)
   cases m with
   | zero=>rfl
   | succ m=>unfold parse;rw [if_neg hg]
  | succ n ih =>
   intro m b hb hm
   cases m with
   | zero=>omega
   | succ m =>
    unfold parse
    by_cases hg:Goes b
    · have hl:=take_len hg.2
      have hd:(dropB b).size ≤ n:=by rw [dropB_size];omega
      rw [if_pos hg,if_pos hg,ih m _ hd (by omega)]
    · rw [if_neg hg,if_neg hg]
 have hl:=take_len h.2
 cases n with
 | zero=>omega
 | succ n =>
  have hd:(dropB b).size ≤ n:=by rw [dropB_size];omega
  show (if Goes b then (b :: (parse n (dropB b)).1,(parse n (dropB b)).2) else ([],b)) = _
  rw [if_pos h,mono _ n _ (Nat.le_refl _) hd]
theorem parse_stops {n:Nat} {b:ByteArray} (h:¬ Goes b):parse n b = ([],b):=by
 cases n with
 | zero=>rfl
 | succ n=>unfold parse;rw [if_neg h]
def parses (b:ByteArray):List ByteArray × ByteArray:=parse b.size b
theorem parses_goes {b:ByteArray} (h:Goes b):parses b = (b :: (parses (dropB b)).1,(parses (dropB b)).2):=parse_goes h (Nat.le_refl _)
theorem parses_stops {b:ByteArray} (h:¬ Goes b):parses b = ([],b):=parse_stops h
/-- So far these came. -/
def Far (b0:ByteArray) (pre:List ByteArray):Prop:=parses b0 = (pre ++ (parses (remOf b0 pre)).1,(parses (remOf b0 pre)).2)
theorem Far.nil (b0:ByteArray):Far b0 []:=by unfold Far;rw [remOf_nil];rfl
theorem Far.snoc {b0:ByteArray} {pre:List ByteArray} (h:Far b0 pre) (hg:Goes (remOf b0 pre)):Far b0 (pre ++ [remOf b0 pre]):=by
 unfold Far at h ⊢
 rw [remOf_snoc,h,parses_goes hg]
 simp
theorem Far.stop {b0:ByteArray} {pre:List ByteArray} (h:Far b0 pre) (hg:¬ Goes (remOf b0 pre)):parses b0 = (pre,remOf b0 pre):=by
 unfold Far at h
 rw [h,parses_stops hg,List.append_nil]
def encX (x:ByteArray):Array Value:=#[pkV x,.string (headB x)]
set_option maxHeartbeats 3200000 in
theorem pk1_in (n:Nat) (hn:1 ≤ n) (l Bb Bk:Nat) (b0:ByteArray) (_:b0.size ≤ 2 ^ 40) (B1 B2:Value) (J:List ByteArray → World → Prop) (Fin:List ByteArray → World → Prop) (hne:Bb ≠ Bk)
 (hY:∀ pre x W,J pre W → x = remOf b0 pre → Goes x → YieldAt Fence.wide (n - 1) Try.prog l (encX x) W fun e W'=>e = .returned (.bool true) ∧ J (pre ++ [x]) W' ∧ W'.heap[Bb]? = W.heap[Bb]? ∧ W'.heap[Bk]? = W.heap[Bk]?)
 (hJb:∀ pre W W',J pre W → Below W.heap.size W W' → J pre W') (hJx:∀ pre W v,J pre W → J pre (W.setCell ⟨Bb,0,none⟩ v))
 (hkeep:∀ pre x W,J pre W → x = remOf b0 pre → x.size ≠ 0 → Pkt.takeE x ≠ 0 → Calls Try.prog 59 #[.string x,.int .i64 (Pkt.takeE x),B1,B2] W fun e W'=>e = .returned (.tuple #[]) ∧ Fin pre W')
 (hend:∀ pre W,J pre W → (remOf b0 pre).size = 0 → Fin pre W)
 (W:World) (h0:J [] W) (k1:W.heap[Bb]? = some (.cells #[.string b0] 9 (0,0))) (k2:W.heap[Bk]? = some (.cells #[.func (.func 59) #[] #[B1,B2]] 132 (0,0))) :
 CallsIn Fence.wide n Try.prog 92 #[.func (.yield l) #[] #[],.pointer (some ⟨Bb,0,none⟩),.pointer (some ⟨Bk,0,none⟩)] W fun e W'=>(∃ v,e = .returned v) ∧ ∃ pre,Fin pre W':=by
 refine callsIn_of_wp Try.func92 rfl trivial ?_ rfl
 simp only [Try.ntmps92,List.size_toArray,List.length_cons,List.length_nil,Nat.reduceAdd,Nat.reduceSub,Array.replicate_succ,Array.replicate_zero,List.push_toArray,List.append_toArray,List.nil_append,List.cons_append]
 gi_wp2
 gi_loopw [7] (fun _ wr=>∃ pre,Far b0 pre ∧ J pre wr ∧ (remOf b0 pre).size ≤ b0.size ∧ wr.heap[Bb]? = some (.cells #[.string (remOf b0 pre)] 9 (0,0)) ∧ wr.heap[Bk]? = some (.cells #[.func (.func 59) #[] #[B1,B2]] 132 (0,0)))
  (fun _ wr=>match wr.heap[Bb]? with | some (.cells #[.string r] _ _)=>r.size | _=>0)
 case atStart=>exact ⟨[],Far.nil b0,h0,Nat.le_refl _,k1,k2⟩
 case round =>
  obtain ⟨pre,hfar,hJ,hsz,m1,m2⟩:=hrel
  obtain ⟨x,hx⟩:∃ x,remOf b0 pre = x:=⟨_,rfl⟩
  rw [hx] at m1 hsz
  have c1:=cell_of m1 (o:=0)
  by_cases hz:x.size = 0
  · have hx0:x = ⟨#[]⟩:=by
     apply ByteArray.ext
     exact Array.eq_empty_of_size_eq_zero hz
    have hF:=hend pre wr hJ (by rw [hx];exact hz)
    subst hx0
    gi_wp2
    go_end0
    exact ⟨⟨_,rfl⟩,_,hF⟩
  · have hx1:x.toList.isEmpty = false:=by
     rw [Go.ByteArray.toList_eq]
     cases hl:x.data.toList with
     | nil=>exact absurd (show x.size = 0 from by show x.data.size = 0;rw [← Array.length_toList,hl];rfl) hz
     | cons a l=>rfl
    obtain ⟨E,hE⟩:∃ E,Pkt.takeE x = E:=⟨_,rfl⟩
    obtain ⟨pl,hpl⟩:∃ p,Pkt.pL x = p:=⟨_,rfl⟩
    have ht:=take_calls x wr
    rw [hE,hpl] at ht
    gi_wp2_with (refine ⟨trivial,?_⟩;gi_at_call 57;refine (callsIn_wide.2 ht).mono ?_)
    rintro e W2 ⟨rfl,b2⟩
    unfold pkV
    have hJ2:=hJb pre wr W2 hJ b2
    have l1:=(Array.getElem?_eq_some_iff.1 m1).1
    have l2:=(Array.getElem?_eq_some_iff.1 m2).1
    have n1:=(b2.block Bb l1).trans m1
    have n2:=(b2.block Bk l2).trans m2
    obtain ⟨W3,hW3⟩:∃ W3,W2.alloc (.cells #[.bool (Pkt.pC x),.int .i64 ((Pkt.pA x:Nat):Int),.int .i64 ((Pkt.pF x:Nat):Int),.int .i64 ((Pkt.pN x:Nat):Int),.string (Pkt.pD x)] 110) = W3:=⟨_,rfl⟩
    have b3:Below W2.heap.size W2 W3:=by rw [← hW3];exact (Below.refl _ W2).alloc (Nat.le_refl _) _
    have hJ3:=hJb pre W2 W3 hJ2 b3
    have q1:=(b3.block Bb (Array.getElem?_eq_some_iff.1 n1).1).trans n1
    have q2:=(b3.block Bk (Array.getElem?_eq_some_iff.1 n2).1).trans n2
    have d1:=cell_of q1 (o:=0)
    have d2:=cell_of q2 (o:=0)
    have d3:=heap_alloc_new W2 (.cells #[.bool (Pkt.pC x),.int .i64 ((Pkt.pA x:Nat):Int),.int .i64 ((Pkt.pF x:Nat):Int),.int .i64 ((Pkt.pN x:Nat):Int),.string (Pkt.pD x)] 110)
    rw [hW3] at d3
    have d4:W3.cell? ⟨W2.heap.size,0,none⟩ = some (.bool (Pkt.pC x)):=cell_of d3
    have d5:W3.cell? ⟨W2.heap.size,1,none⟩ = some (.int .i64 ((Pkt.pA x:Nat):Int)):=cell_of d3
    have d6:W3.cell? ⟨W2.heap.size,2,none⟩ = some (.int .i64 ((Pkt.pF x:Nat):Int)):=cell_of d3
    have d7:W3.cell? ⟨W2.heap.size,3,none⟩ = some (.int .i64 ((Pkt.pN x:Nat):Int)):=cell_of d3
    have d8:W3.cell? ⟨W2.heap.size,4,none⟩ = some (.string (Pkt.pD x)):=cell_of d3
    clear d3
    have HM:=Lib.hid m1
    clear m1 m2 n1 n2 hJ2 hJ ht k1 k2 h0
    by_cases hE0:E = 0
    · subst hE0
      have hgo:Goes (remOf b0 pre):=by rw [hx];exact ⟨hz,hE⟩
      have hle:=(take_len hE).2
      have hpos:=(take_len hE).1
      rw [hpl] at hpos
      rw [hpl] at hle
      have hJ4:=hJb pre W3 W3.drew hJ3 (Below.refl _ W3).drew
      obtain ⟨fn,tmps,assign,body,hy,hR⟩:=hY pre x W3.drew hJ4 hx.symm (by rw [← hx];exact hgo)
      have hfar':=hfar.snoc hgo
      rw [hx] at hfar'
      have HF:=Lib.hid (And.intro hfar' trivial)
      unfold encX pkV headB at hy
      rw [hpl] at hy
      gi_wp2
      gi_region_with (refine hR.mono ?_;rintro e W5 ⟨rfl,hJ5,q5,q6⟩)
      all_goals
       have r1:=q5.trans q1
       have r2:=q6.trans q2
       have e1:=cell_of r1 (o:=0)
       have e2:=fz_of r1 0
       have r3:=set_at (o:=0) (v:=.string (x.extract pl x.size)) r1
       have hJ6:=hJx _ W5 (.string (x.extract pl x.size)) hJ5
       have ho:OnlyB Bb W5 (W5.setCell ⟨Bb,0,none⟩ (.string (x.extract pl x.size))):=(OnlyB.refl Bb W5).setCell 0 _
       have r4:=(ho.rest Bk hne.symm).trans r2
       have hdp:x.extract pl x.size = remOf b0 (pre ++ [x]):=by rw [remOf_snoc];unfold dropB;rw [hpl]
       have hds:(x.extract pl x.size).size = x.size - pl:=by rw [ByteArray.size_extract];omega
       have HE:=Lib.hid (And.intro r3 (And.intro hJ6 (And.intro r4 (And.intro hdp hds))))
       clear r1 r2 r3 hJ6 ho r4 hdp hds hJ5 q5 q6
       gi_wp2
       refine ⟨⟨_,_,_,_,_,_,_,_,_,_,_,_,_,_,_,_,_,_,_,_,_,_,_,_,_,_,_,⟨pre ++ [x],HF.out.1,HE.out.2.1,?_,?_,HE.out.2.2.1⟩,rfl⟩,?_⟩
       · rw [← HE.out.2.2.2.1,HE.out.2.2.2.2];omega
       · rw [← HE.out.2.2.2.1];exact HE.out.1
       · rw [HM.out,HE.out.1];show (x.extract pl x.size).size < x.size;rw [HE.out.2.2.2.2];omega
    · have hE1:(E == 0) = false:=by simpa using hE0
      have hkp:=callsIn_wide (n:=n - 1) |>.2 (hkeep pre x W3 hJ3 hx.symm hz (by rw [hE];exact hE0))
      rw [hE] at hkp
      gi_wp2
      refine ⟨trivial,hkp.mono ?_⟩
      rintro e W5 ⟨rfl,hF⟩
      gi_wp2
      refine bodyPost_ret (results_none rfl _ _ _) rfl ?_
      exact ⟨⟨_,rfl⟩,_,hF⟩
end Go.Am.Cha

namespace Go.Am.Cha
open Go Go.Am Go.Am.Lib Go.Lib Go.Proofs Go.RowKit
open Go.Am.Own
set_option maxRecDepth 100000
attribute [local go_sem] Oper.semAt_some

/-- What a packet that has arrived brings. -/
def dlv (x:ByteArray) (b:ByteArray):List L8:=if Pkt.pA x = 2047 then [] else [b.data.toList]
variable {S:Nat → Prop} {w0 w w':World} {Z:Nat → Prop} {sb so ob B1 B2:Nat} {cs:Array Value} {a0 a1 a2 a3 v a5 a6:Value} {L:List L8}
theorem Tk.deliver (h:Tk S w0 Z sb so ob B1 B2 cs a0 a1 a2 a3 v a5 a6 L w) (hL:L.length ≤ 1000000) (x b:ByteArray) (hb:b.size ≤ 2 ^ 40) :
 Calls Try.prog 58 #[.pointer (some ⟨ob,0,none⟩),pkV x,.string b] w fun e w'=>e = .returned (.tuple #[]) ∧ (∃ v',Tk S w0 Z sb so ob B1 B2 cs a0 a1 a2 a3 v' a5 a6 (L ++ dlv x b) w') ∧ KeptZ Z w w':=by
 unfold pkV dlv
 by_cases hA:Pkt.pA x = 2047
 · rw [if_pos hA,hA,List.append_nil]
   exact (deliver_idle _ _ _ _ _ w).mono fun e w' hh=>⟨hh.1,⟨v,h.below hh.2⟩,h.kz hh.2⟩
 · rw [if_neg hA]
   exact h.call (E:=fun e=>e = .returned (.tuple #[])) fun S' hr=>deliver_yes hr hL _ (by simp;omega) _ _ _ b hb
theorem Tk.make {S':Nat → Prop} (h:Ar S' ob a0 a1 a2 a3 v a5 a6 L w) (hsub:∀ k,S' k → S k) (hn:¬ S' sb) (hsk:w.heap[sb]? = some (.cells cs 74 (0,0))) (hS:∀ k,w.heap.size ≤ k → S k) (hSs:S sb) (o:Obj) :
 Tk S w (fun k=>((k = sb ∨ k = w.heap.size) ∨ k = w.heap.size + 1) ∨ k = w.heap.size + 2) sb so ob w.heap.size (w.heap.size + 1) cs a0 a1 a2 a3 v a5 a6 L
  (((w.alloc (.cells #[.pointer (some ⟨sb,so,none⟩)] 88)).alloc (.cells #[.pointer (some ⟨ob,0,none⟩)] 91)).alloc o):=by
 have b1:=(Below.refl _ w).alloc (Nat.le_refl _) (.cells #[.pointer (some ⟨sb,so,none⟩)] 88)
 have s1:(w.alloc (.cells #[.pointer (some ⟨sb,so,none⟩)] 88)).heap.size = w.heap.size + 1:=alloc_size ..
 obtain ⟨W1,hW1⟩:∃ W,w.alloc (.cells #[.pointer (some ⟨sb,so,none⟩)] 88) = W:=⟨_,rfl⟩
 have k1:=heap_alloc_new w (.cells #[.pointer (some ⟨sb,so,none⟩)] 88)
 rw [hW1] at b1 s1 k1 ⊢
 have b2:=(Below.refl _ W1).alloc (Nat.le_refl _) (.cells #[.pointer (some ⟨ob,0,none⟩)] 91)
 have s2:(W1.alloc (.cells #[.pointer (some ⟨ob,0,none⟩)] 91)).heap.size = w.heap.size + 2:=by rw [alloc_size,s1]
 have k2:=heap_alloc_new W1 (.cells #[.pointer (some ⟨ob,0,none⟩)] 91)
 obtain ⟨W2,hW2⟩:∃ W,W1.alloc (.cells #[.pointer (some ⟨ob,0,none⟩)] 91) = W:=⟨_,rfl⟩
 rw [hW2] at b2 s2 k2 ⊢
 have b3:=(Below.refl _ W2).alloc (Nat.le_refl _) o
 have s3:(W2.alloc o).heap.size = w.heap.size + 3:=by rw [alloc_size,s2]
 obtain ⟨W3,hW3⟩:∃ W,W2.alloc o = W:=⟨_,rfl⟩
 rw [hW3] at b3 s3 ⊢
 rw [s1] at k2
 have g:=((h.below b1).below b2).below b3
 have hsl:=(Array.getElem?_eq_some_iff.1 hsk).1
 have hbb:Below w.heap.size w W3:=(b1.trans (b2.mono b1.size)).trans (b3.mono (Nat.le_trans b1.size b2.size))
 refine ⟨⟨fun k=>S' k ∧ k ≠ w.heap.size ∧ k ≠ w.heap.size + 1 ∧ k ≠ w.heap.size + 2,⟨fun k hk=>⟨g.hS k hk,?_⟩,g.cell,⟨g.So,?_⟩,g.row,fun k hk=>⟨g.Sv k hk,?_⟩⟩,fun k hk=>hsub k hk.1,?_⟩,?_,⟨.inl (.inl (.inl rfl)),.inl (.inl (.inr rfl)),.inl (.inr rfl)⟩,(hbb.block sb hsl).trans hsk,hSs,?_,?_,fr_of hbb hS,hS⟩
 · rw [s3] at hk;omega
 · have:=h.lt;omega
 · have:=(h.row.lt k hk).2;omega
 · rintro k (((rfl | rfl) | rfl) | rfl) hk
   · exact hn hk.1
   · exact hk.2.1 rfl
   · exact hk.2.2.1 rfl
   · exact hk.2.2.2 rfl
 · rintro k (((rfl | rfl) | rfl) | rfl) <;> rw [s3] <;> omega
 · exact (b3.block _ (by rw [s2];omega)).trans ((b2.block _ (by rw [s1];omega)).trans k1)
 · exact (b3.block _ (by rw [s2];omega)).trans k2
def came (xs:List ByteArray):List L8:=xs.flatMap fun x=>dlv x (headB x)
theorem came_snoc (xs:List ByteArray) (x:ByteArray):came (xs ++ [x]) = came xs ++ dlv x (headB x):=by unfold came;rw [List.flatMap_append];simp
theorem dlv_len (x b:ByteArray):(dlv x b).length ≤ 1:=by unfold dlv;split <;> simp
theorem came_len (xs:List ByteArray):(came xs).length ≤ xs.length:=by
 induction xs with
 | nil=>exact Nat.le_refl _
 | cons x xs ih =>
  have h1:=dlv_len x (headB x)
  show (List.flatMap _ (x :: xs)).length ≤ _
  rw [List.flatMap_cons,List.length_append,List.length_cons]
  have h2:(List.flatMap (fun x=>dlv x (headB x)) xs).length = (came xs).length:=rfl
  omega
theorem parse_len:∀ (n:Nat) (b:ByteArray),(parse n b).1.length ≤ n
 | 0,_=>Nat.le_refl _
 | n + 1,b=>by
  unfold parse
  split
  · have:=parse_len n (dropB b);rw [List.length_cons];omega
  · exact Nat.zero_le _
theorem parse_sz:∀ (n:Nat) (b x:ByteArray),x ∈ (parse n b).1 → x.size ≤ b.size
 | 0,_,_,h=>by cases h
 | n + 1,b,x,h=>by
  unfold parse at h
  split at h
  · rcases List.mem_cons.1 h with rfl | h
    · exact Nat.le_refl _
    · have:=parse_sz n (dropB b) x h;rw [dropB_size] at this;omega
  · cases h
theorem parse_left:∀ (n:Nat) (b:ByteArray),(parse n b).2.size ≤ b.size
 | 0,_=>Nat.le_refl _
 | n + 1,b=>by
  unfold parse
  split
  · have:=parse_left n (dropB b);rw [dropB_size] at this
    show (parse n (dropB b)).2.size ≤ _
    omega
  · exact Nat.le_refl _
theorem Far.len {b0:ByteArray} {pre:List ByteArray} (h:Far b0 pre):pre.length ≤ b0.size:=by
 have h1:=parse_len b0.size b0
 have h2:(parses b0).1 = pre ++ (parses (remOf b0 pre)).1:=by rw [h]
 have h3:(parses b0).1.length ≤ b0.size:=h1
 rw [h2,List.length_append] at h3
 omega
theorem Far.sz {b0:ByteArray} {pre:List ByteArray} (h:Far b0 pre) (hg:Goes (remOf b0 pre)):(remOf b0 pre).size ≤ b0.size:=by
 have h1:=h.snoc hg
 refine parse_sz b0.size b0 _ ?_
 show _ ∈ (parses b0).1
 rw [h1]
 simp
theorem headB_size (x:ByteArray):(headB x).size ≤ x.size:=by unfold headB;rw [ByteArray.size_extract];omega
end Go.Am.Cha
