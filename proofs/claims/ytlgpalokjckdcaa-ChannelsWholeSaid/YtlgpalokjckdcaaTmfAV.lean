/-
  Tmframe: where the first packet begins; the field when it is full. Own work.
-/
import Derived.Test.YtlgpalokjckdcaaTmfAC
import Derived.RangeFuncNested
import Derived.RangeFuncBound
import Derived.RangeFuncCalls
import Derived.RangeFuncLeaves
import Derived.RangeFuncBox
import Derived.Shelf.Abstract
import Derived.OwnWalkIn
import Derived.TacticsInMore
import Derived.LoopNIn
import Derived.LoopIn
import Derived.Test.YtlgpalokjckdcaaTmfAB
import Derived.Shelf.RegionOpen
import Derived.Deep.RegionWith
namespace Go.Am.Tmf
open Go Go.Am Go.Am.Lib Go.Lib Go.Proofs Go.RowKit Go.Shelf
open Go.Am.Own
set_option maxRecDepth 100000
attribute [local go_sem] Oper.semAt_some

/-- The starts in memory, below n₀. -/
def StI (n₀:Nat) (W:World) (sv:Value) (st:List Nat):Prop :=
 ∃ ao cap,sv = .slice ao st.length cap ∧ ∀ j (hj:j < st.length),∃ g,ao = some ⟨g,0,none⟩ ∧ g < n₀ ∧ W.cell? ⟨g,j,none⟩ = some (.int .i64 ((st[j]:Nat):Int))
theorem StI.below {n₀:Nat} {A B:World} (h:Below n₀ A B) {sv:Value} {st:List Nat} (hs:StI n₀ A sv st):StI n₀ B sv st:=by
 obtain ⟨ao,cap,e,hc⟩:=hs
 refine ⟨ao,cap,e,fun j hj=>?_⟩
 obtain ⟨g,e1,e2,e3⟩:=hc j hj
 exact ⟨g,e1,e2,(h.cell (p:=⟨g,j,none⟩) e2).trans e3⟩
theorem stI_of {w:World} {sv:Value} {st:List Nat} {B n₀:Nat} (h:w.ownsRow B 3 1 sv st.length (cellI st)) (hn:w.heap.size ≤ n₀):StI n₀ w sv st:=by
 obtain ⟨ao,cap,rfl⟩:=ownsRow_slice h
 refine ⟨ao,cap,rfl,fun j hj=>?_⟩
 obtain ⟨g,rfl,hc⟩:=start_at h hj
 exact ⟨g,rfl,Nat.lt_of_lt_of_le (World.block_lt_of_cell? w ⟨g,j,none⟩ hc) hn,hc⟩
def Came (m:Nat) (st xs:List Nat):Prop:=∃ k,k ≤ st.length ∧ xs = st.take k ∧ ∀ (h:k < st.length),m ≤ st[k]
def Left (m:Nat) (st pre:List Nat):Prop:=∃ k,∃ (h:k < st.length),pre = st.take (k + 1) ∧ st[k] < m
set_option maxHeartbeats 2000000 in
theorem within1_in (F:Fence) (n:Nat) (h55:F.fn 100) (hro:F.round = none) (hn:1 ≤ n) (l B1 B2 n₀ b m:Nat) (sv:Value) (st:List Nat) (hlen:st.length ≤ 2 ^ 40) (_hB1:B1 < n₀) (hB2:B2 < n₀) (_hb:b < n₀) (J Jx:List Nat → World → Prop)
 (hY:∀ pre x W,J pre W → pre.length < st.length → YieldAt F (n - 1) Try.prog l #[.int .i64 ((x:Nat):Int)] W fun e W' =>
  (e = .returned (.bool true) ∧ J (pre ++ [x]) W' ∧ Below n₀ W W') ∨ (e = .returned (.bool false) ∧ Jx (pre ++ [x]) W'))
 (W:World) (c1:W.cell? ⟨B1,0,none⟩ = some (.pointer (some ⟨b,0,none⟩))) (c2:W.cell? ⟨B2,0,none⟩ = some (.int .i64 ((m:Nat):Int))) (c3:W.cell? ⟨b,1,none⟩ = some sv) (hS:StI n₀ W sv st) (h0:J [] W) :
 CallsIn F n Try.prog 100 #[.func (.yield l) #[] #[],.pointer (some ⟨B1,0,none⟩),.pointer (some ⟨B2,0,none⟩)] W fun e W'=>(∃ v,e = .returned v) ∧
  ((∃ xs,Came m st xs ∧ J xs W') ∨ (∃ pre,Left m st pre ∧ Jx pre W')):=by
 obtain ⟨ao,cap,rfl,hcs⟩:=hS
 refine callsIn_of_wp Try.func100 rfl h55 ?_ hro
 simp only [Try.ntmps100,List.size_toArray,List.length_cons,List.length_nil,Nat.reduceAdd,Nat.reduceSub,Array.replicate_succ,Array.replicate_zero,List.push_toArray,List.append_toArray,List.nil_append,List.cons_append]
 gi_wp2
 gi_loopw [11] (fun i wr=>∃ k:Nat,k ≤ st.length ∧ i = .int .i64 k ∧ J (st.take k) wr ∧ Below n₀ W wr)
  (fun i _=>st.length - (intOf i).toNat)
 case atStart=>exact ⟨0,Nat.zero_le _,rfl,h0,Below.refl _ _⟩
 case round =>
  obtain ⟨k,hk,rfl,hJs,hnx⟩:=hrel
  rcases Nat.lt_or_ge k st.length with hlt | hge
  · obtain ⟨g,rfl,hg,hc⟩:=hcs k hlt
    have hcx:=(hnx.cell (p:=⟨g,k,none⟩) hg).trans hc
    have d2:=(hnx.cell (p:=⟨B2,0,none⟩) hB2).trans c2
    have hlt':((k:Nat):Int) < ((st.length:Nat):Int):=by omega
    obtain ⟨a,ha⟩:∃ a,st[k] = a:=⟨_,rfl⟩
    rw [ha] at hcx
    by_cases hma:m ≤ a
    · have hma':((m:Nat):Int) ≤ ((a:Nat):Int):=by omega
      gi_wp2
      refine ⟨fun _ h=>(by cases h),?_⟩
      gi_wp2
      refine bodyPost_ret (results_none rfl _ _ _) rfl ?_
      exact ⟨⟨_,rfl⟩,.inl ⟨_,⟨k,hk,rfl,fun h=>by rw [ha];exact hma⟩,hJs⟩⟩
    · have hma':¬ ((m:Nat):Int) ≤ ((a:Nat):Int):=by omega
      obtain ⟨fn,tmps,assign,body,hy,hR⟩:=hY _ a wr hJs (by rw [List.length_take];omega)
      have htk:st.take k ++ [a] = st.take (k + 1):=by rw [List.take_succ_eq_append_getElem hlt,ha]
      rw [htk] at hR
      gi_wp2
      refine hR.mono ?_
      rintro e W3 (⟨rfl,hJ3,hk3⟩ | ⟨rfl,hJx3⟩)
      · gi_wp2
        go_roundw
        case rel=>exact ⟨k + 1,by omega,by simp,hJ3,hnx.trans hk3⟩
        case measure=>simp [intOf];omega
      · gi_wp2
        refine bodyPost_ret (results_none rfl _ _ _) rfl ?_
        exact ⟨⟨_,rfl⟩,.inr ⟨_,⟨k,hlt,rfl,by rw [ha];omega⟩,hJx3⟩⟩
  · obtain rfl:k = st.length:=by omega
    gi_wp2
    go_end0
    exact ⟨⟨_,rfl⟩,.inl ⟨_,⟨st.length,Nat.le_refl _,rfl,fun h=>absurd h (Nat.lt_irrefl _)⟩,hJs⟩⟩
theorem within_in (F:Fence) (n:Nat) (h44:F.fn 81) (hro:F.round = none) (b m:Nat) (w:World) :
 CallsIn F n Try.prog 81 #[.pointer (some ⟨b,0,none⟩),.int .i64 ((m:Nat):Int)] w fun e w'=>e = .returned (.func (.func 100) #[] #[.pointer (some ⟨w.heap.size,0,none⟩),.pointer (some ⟨w.heap.size + 1,0,none⟩)]) ∧
  w' = (w.alloc (.cells #[.pointer (some ⟨b,0,none⟩)] 179)).alloc (.cells #[.int .i64 ((m:Nat):Int)] 3):=by
 refine callsIn_of_wp Try.func81 rfl h44 ?_ hro
 simp only [Try.ntmps81,List.size_toArray,List.length_cons,List.length_nil,Nat.reduceAdd,Nat.reduceSub,Array.replicate_succ,Array.replicate_zero,List.push_toArray,List.append_toArray,List.nil_append,List.cons_append]
 gi_wp2
 go_ret
 exact ⟨rfl,rfl⟩
theorem within_stops (F:Fence) (n:Nat) (h55:F.fn 100) (hro:F.round = none) (hn:1 ≤ n) (B1 B2 n₀ b m:Nat) (sv:Value) (st:List Nat) (hlen:st.length ≤ 2 ^ 40) (hB1:B1 < n₀) (hB2:B2 < n₀) (hb:b < n₀) (w:World) (hn₀:n₀ ≤ w.heap.size)
 (c1:w.cell? ⟨B1,0,none⟩ = some (.pointer (some ⟨b,0,none⟩))) (c2:w.cell? ⟨B2,0,none⟩ = some (.int .i64 ((m:Nat):Int))) (c3:w.cell? ⟨b,1,none⟩ = some sv) (hS:StI n₀ w sv st) :
 SeqStopsK F n Try.prog 100 #[.pointer (some ⟨B1,0,none⟩),.pointer (some ⟨B2,0,none⟩)] (fun x:Nat=>#[Value.int .i64 ((x:Nat):Int)]) (Below n₀) (Came m st) (Left m st) st.length w:=fun l J Jx W hW _ _ hY h0=>by
 have hW':=hW.mono hn₀
 exact within1_in F n h55 hro hn l B1 B2 n₀ b m sv st hlen hB1 hB2 hb J Jx hY W ((hW'.cell (p:=⟨B1,0,none⟩) hB1).trans c1) ((hW'.cell (p:=⟨B2,0,none⟩) hB2).trans c2) ((hW'.cell (p:=⟨b,1,none⟩) hb).trans c3) (hS.below hW') h0
end Go.Am.Tmf

namespace Go.Am.Tmf
open Go Go.Am Go.Am.Lib Go.Lib Go.Proofs Go.RowKit Go.Shelf
open Go.Am.Own
set_option maxRecDepth 100000
attribute [local go_sem] Oper.semAt_some

/-- Behind the pad: where the first packet begins, and the field. -/
def NextPost (S:Nat → Prop) (b:Nat) (x:FS) (w:World) (e:Ending) (w':World):Prop :=
 e = .returned (.tuple #[.string ⟨⟨x.data idleL⟩⟩,intV (x.first idleL),.bool true]) ∧ FAt S b (x.next idleL) w' ∧ FrS S w w'
theorem FC.mono {S S':Nat → Prop} {b:Nat} {v1 v2:Value} {x:FS} {w:World} (h:FC S b v1 v2 x w) (hs:∀ k,S k → S' k):FC S' b v1 v2 x w :=
 { hS:=fun k hk=>hs k (h.hS k hk),hb:=hs b h.hb,cell:=h.cell,r1:=h.r1,r2:=h.r2,s1:=fun k hk=>hs k (h.s1 k hk),s2:=fun k hk=>hs k (h.s2 k hk) }
/-- One block less that may change. -/
theorem FC.less {S:Nat → Prop} {b F:Nat} {v1 v2:Value} {x:FS} {w:World} (h:FC S b v1 v2 x w) (hF:F < w.heap.size) (hb:b ≠ F) (h1:v1.ownBlock ≠ some F) (h2:v2.ownBlock ≠ some F):FC (fun k=>S k ∧ k ≠ F) b v1 v2 x w :=
 { hS:=fun k hk=>⟨h.hS k hk,by omega⟩,hb:=⟨h.hb,hb⟩,cell:=h.cell,r1:=h.r1,r2:=h.r2,s1:=fun k hk=>⟨h.s1 k hk,fun e=>h1 (by rw [hk,e])⟩,s2:=fun k hk=>⟨h.s2 k hk,fun e=>h2 (by rw [hk,e])⟩ }
/-- A block of another's is new. -/
theorem FC.fresh {S:Nat → Prop} {b:Nat} {v1 v2:Value} {x:FS} {w:World} (h:FC S b v1 v2 x w) (o:Obj):FC (fun k=>S k ∧ k ≠ w.heap.size) b v1 v2 x (w.alloc o):=by
 have h1:=h.below ((Below.refl _ w).alloc (Nat.le_refl _) o)
 refine h1.less (by rw [alloc_size];omega) (Nat.ne_of_lt h.lt) (fun e=>?_) (fun e=>?_)
 · exact Nat.lt_irrefl _ (h.r1.lt _ e)
 · exact Nat.lt_irrefl _ (h.r2.lt _ e).2
/-- What goes on, where nothing panics. -/
def OnN (Q:Exit → Act → World → Prop):Exit → Act → World → Prop
 | .normal,a,w=>Q .normal a w
 | _,_,_=>False
theorem wp_calm {c:Code} {P:Program} {Q:Exit → Act → World → Prop} {a:Act} {w:World} (h:c.wp P (OnN Q) a w):c.wp P Q a w:=wp_mono h fun e _ _ hq=>by
 cases e <;> first | exact hq | exact hq.elim
theorem below_setCell {n F:Nat} {A B:World} {v:Value} (h:Below n A B):Below n (A.setCell ⟨F,0,none⟩ v) (B.setCell ⟨F,0,none⟩ v):=by
 have sz:∀ W:World,(W.setCell ⟨F,0,none⟩ v).heap.size = W.heap.size:=fun W=>((OnlyB.refl F W).setCell 0 v).size
 refine ⟨h.os,h.tape,h.output,?_,fun k hk=>?_⟩
 · show _ ≤ _
   rw [sz,sz];exact h.size
 · show (B.heap.modify F _)[k]? = (A.heap.modify F _)[k]?
   rw [Array.getElem?_modify,Array.getElem?_modify,h.block k hk]
theorem came_nil {m:Nat} {st:List Nat} (h:Came m st []):firstOf m st = 2047:=by
 obtain ⟨k,hk,e,h2⟩:=h
 cases st with
 | nil=>rfl
 | cons a l =>
  cases k with
  | zero =>
   have h3:m ≤ a:=h2 (by simp)
   rw [firstOf_cons,if_neg (by omega)]
  | succ k=>simp at e
theorem left_one {m y:Nat} {st:List Nat} (h:Left m st [y]):firstOf m st = y:=by
 obtain ⟨k,hk,e,h2⟩:=h
 cases st with
 | nil=>simp at hk
 | cons a l =>
  rw [List.take_succ_cons] at e
  injection e with e1 e2
  cases k with
  | zero =>
   have h3:a < m:=h2
   rw [firstOf_cons,if_pos h3,e1]
  | succ k =>
   simp at hk
   have:=congrArg List.length e2
   rw [List.length_take] at this
   simp at this
   omega
theorem post_full {S:Nat → Prop} {b sz id f F D:Nat} {q:L8} {st:List Nat} {u1 u2:Value} {w w':World} (hge:sz ≤ q.length) (hf:firstOf sz st = f) (h:FC (fun k=>(S k ∧ k ≠ F) ∧ k ≠ D) b u1 u2 ⟨sz,q.drop sz,cutS sz st,0⟩ w') (hb:FrS S w w') :
 NextPost S b ⟨sz,q,st,id⟩ w (.returned (.tuple #[.string ⟨⟨List.take sz q⟩⟩,.int .i64 ((f:Nat):Int),.bool true])) w':=by
 have hp:(FS.mk sz q st id).pad idleL = ⟨sz,q,st,0⟩:=by
  unfold FS.pad;rw [if_neg (by show ¬ q.length < sz;omega)]
 refine ⟨?_,?_,hb⟩
 · unfold FS.data FS.first
   rw [hp,← hf];rfl
 · unfold FS.next
   rw [hp]
   exact ⟨_,_,h.mono fun k hk=>hk.1.1⟩
set_option maxHeartbeats 3200000 in
theorem next_full {S:Nat → Prop} {b:Nat} {v1 v2:Value} {sz id:Nat} {q:L8} {st:List Nat} {w:World} (h:FC S b v1 v2 ⟨sz,q,st,id⟩ w) (z0:32 ≤ sz) (z1:sz ≤ 200) (hid:id < q.length) (hge:sz ≤ q.length) (hq:q.length ≤ 2 ^ 30) (hst:st.length ≤ 2 ^ 30) (hsv:∀ a ∈ st,a ≤ 2 ^ 30) :
 Calls Try.prog 43 #[.pointer (some ⟨b,0,none⟩)] w (NextPost S b ⟨sz,q,st,id⟩ w):=by
 refine (callsIn_wide (n:=9)).1 ?_
 obtain ⟨F,hF⟩:∃ F,w.heap.size = F:=⟨_,rfl⟩
 have h1:=h.fresh (.cells #[.int .i64 0] 3)
 rw [hF] at h1
 have hFl:F < (w.alloc (.cells #[.int .i64 0] 3)).heap.size:=by rw [alloc_size];omega
 have b1:FrS S w (w.alloc (.cells #[.int .i64 0] 3)):=(FrS.refl S w).alloc h.hS _
 have cF:(w.alloc (.cells #[.int .i64 0] 3)).heap[F]? = some (.cells #[.int .i64 0] 3 (0,0)):=by rw [← hF];exact heap_alloc_new w _
 have hSF:S F:=h.hS F (by omega)
 have hbF:b ≠ F:=fun e=>h1.hb.2 e
 have hwt:((((FS.mk sz q st id).wait:Nat):Int) == 0) = false:=by
  unfold FS.wait;simp;omega
 obtain ⟨wt,hwtq⟩:∃ n,(FS.mk sz q st id).wait = n:=⟨_,rfl⟩
 have hwc:=wait_calls h1 (by show 0 < sz;omega) (by show id ≤ q.length;omega) (by show q.length ≤ 2 ^ 40;omega)
 rw [hwtq] at hwt hwc
 unfold intV at hwc
 refine callsIn_of_wp_marks Try.func43 rfl trivial ?_ rfl
 simp only [Try.ntmps43,List.size_toArray,List.length_cons,List.length_nil,Nat.reduceAdd,Nat.reduceSub,Array.replicate_succ,Array.replicate_zero,List.push_toArray,List.append_toArray,List.nil_append,List.cons_append]
 gi_wp2_with (refine ⟨trivial,?_⟩;gi_at_call 38;refine (callsIn_wide.2 hwc).mono ?_)
 rintro e W2 ⟨rfl,b2,e2⟩
 have h2:=h1.below b2
 have b3:FrS S w W2:=b1.trans ((fr_of b2 h1.hS).mono fun k hk=>hk.1)
 have cF2:W2.heap[F]? = some (.cells #[.int .i64 0] 3 (0,0)):=by rw [e2];exact cF
 have hFl2:F < W2.heap.size:=Nat.lt_of_lt_of_le hFl b2.size
 have c0:=h2.c0
 have c2:=h2.c2
 obtain ⟨ao1,cap1,rfl⟩:=h2.r1.slice
 unfold intV at c2
 clear h1 b1 b2 hwc e2 cF hFl h
 gi_wp2
 gi_region
 have h3:=h2.drew
 have b4:=b3.drew
 have hge':¬ ((q.length:Nat):Int) < ((sz:Nat):Int):=by omega
 have eF:W2.drew.cell? ⟨F,0,none⟩ = some (.int .i64 0):=cell_of cF2
 have fF:W2.drew.frozen? ⟨F,0,none⟩ = false:=fz_of cF2 0
 gi_wp2
 have ho4:OnlyB F W2.drew (W2.setCell ⟨F,0,none⟩ (.int .i64 2047)).drew:=(OnlyB.refl F _).setCell 0 _
 have cF4:((W2.setCell ⟨F,0,none⟩ (.int .i64 2047)).drew).heap[F]? = some (.cells #[.int .i64 2047] 3 (0,0)):=set_at (o:=0) (v:=.int .i64 2047) cF2
 have h4:=h3.keep (w':=(W2.setCell ⟨F,0,none⟩ (.int .i64 2047)).drew) (Nat.le_of_eq ho4.size.symm) fun k hk _=>ho4.rest k hk.2
 have b5:FrS S w (W2.setCell ⟨F,0,none⟩ (.int .i64 2047)).drew:=b4.trans (ho4.fr hSF)
 have hFl4:F < (W2.setCell ⟨F,0,none⟩ (.int .i64 2047)).drew.heap.size:=by rw [ho4.size];exact hFl2
 obtain ⟨W4,hW4⟩:∃ W,(W2.setCell ⟨F,0,none⟩ (.int .i64 2047)).drew = W:=⟨_,rfl⟩
 rw [hW4] at cF4 h4 b5 hFl4 ⊢
 have d2:=h4.c2
 unfold intV at d2
 clear hW4 ho4 h3 h2 b3 b4 cF2 hFl2 eF fF c0 c2
 refine wpIn_wide.2 (wp_calm ?_)
 go_region_with (go_at_call 81;refine (callsIn_wide.1 (within_in Fence.wide 0 trivial rfl b sz _)).mono ?_;rintro e w' ⟨rfl,rfl⟩)
 simp only [OnN]
 have h6:=(h4.below (((Below.refl _ W4).alloc (Nat.le_refl _) (.cells #[.pointer (some ⟨b,0,none⟩)] 179)).alloc (by rw [alloc_size];omega) (.cells #[.int .i64 ((sz:Nat):Int)] 3))).drew
 have b6:FrS S w (((W4.alloc (.cells #[.pointer (some ⟨b,0,none⟩)] 179)).alloc (.cells #[.int .i64 ((sz:Nat):Int)] 3)).drew):=((b5.alloc (fun k hk=>(h4.hS k hk).1) _).alloc (fun k hk=>(h4.hS k (by rw [alloc_size] at hk;omega)).1) _).drew
 have k1:(((W4.alloc (.cells #[.pointer (some ⟨b,0,none⟩)] 179)).alloc (.cells #[.int .i64 ((sz:Nat):Int)] 3)).drew).heap[W4.heap.size]? = some (.cells #[.pointer (some ⟨b,0,none⟩)] 179 (0,0)) :=
  ((World.grownBy_alloc (W4.alloc (.cells #[.pointer (some ⟨b,0,none⟩)] 179)) (.cells #[.int .i64 ((sz:Nat):Int)] 3) none).block _ (by rw [alloc_size];omega) (by simp)).trans (heap_alloc_new W4 _)
 have k2:(((W4.alloc (.cells #[.pointer (some ⟨b,0,none⟩)] 179)).alloc (.cells #[.int .i64 ((sz:Nat):Int)] 3)).drew).heap[W4.heap.size + 1]? = some (.cells #[.int .i64 ((sz:Nat):Int)] 3 (0,0)):=by
  have:=heap_alloc_new (W4.alloc (.cells #[.pointer (some ⟨b,0,none⟩)] 179)) (.cells #[.int .i64 ((sz:Nat):Int)] 3)
  rw [alloc_size] at this
  exact this
 have kF:(((W4.alloc (.cells #[.pointer (some ⟨b,0,none⟩)] 179)).alloc (.cells #[.int .i64 ((sz:Nat):Int)] 3)).drew).heap[F]? = some (.cells #[.int .i64 2047] 3 (0,0)) :=
  ((World.grownBy_alloc (W4.alloc (.cells #[.pointer (some ⟨b,0,none⟩)] 179)) (.cells #[.int .i64 ((sz:Nat):Int)] 3) none).block _ (by rw [alloc_size];omega) (by simp)).trans
   (((World.grownBy_alloc W4 (.cells #[.pointer (some ⟨b,0,none⟩)] 179) none).block _ hFl4 (by simp)).trans cF4)
 have z6:(((W4.alloc (.cells #[.pointer (some ⟨b,0,none⟩)] 179)).alloc (.cells #[.int .i64 ((sz:Nat):Int)] 3)).drew).heap.size = W4.heap.size + 2:=by
  show ((W4.alloc _).alloc _).heap.size = _
  rw [alloc_size,alloc_size]
 obtain ⟨W6,hW6⟩:∃ W,((W4.alloc (.cells #[.pointer (some ⟨b,0,none⟩)] 179)).alloc (.cells #[.int .i64 ((sz:Nat):Int)] 3)).drew = W:=⟨_,rfl⟩
 obtain ⟨B1,hB1⟩:∃ B,W4.heap.size = B:=⟨_,rfl⟩
 rw [hW6] at h6 b6 k1 k2 kF z6 ⊢
 rw [hB1] at k1 k2 z6 hFl4 ⊢
 have hseq:=within_stops Fence.wide 8 trivial rfl (by decide) B1 (B1 + 1) W6.heap.size b sz v2 st (by omega) (by omega) (by omega) h6.lt W6 (Nat.le_refl _) (cell_of k1) (cell_of k2) h6.c1 (stI_of h6.r2 (Nat.le_refl _))
 clear hW6 cF4 h4 b5 d2 k1 k2
 gi_wp2
 refine wpIn_rangeFunc_ownF (F:=Fence.wide) (n:=9) rfl (by decide) (gf:=100) (lb:=#[.pointer (some ⟨B1,0,none⟩),.pointer (some ⟨B1 + 1,0,none⟩)]) rfl trivial (enters_of Try.func100 (by kernel_rfl) rfl) hseq belowK_t (belowK_b (Nat.le_refl _)) (Below.refl _ _) (fun _=>rfl)
  (fun pre W=>pre = [] ∧ Below W6.heap.size W6 W) (fun c pre W=>c = .exit 0 ∧ ∃ y:Nat,pre = [y] ∧ Below W6.heap.size (W6.setCell ⟨F,0,none⟩ (.int .i64 ((y:Nat):Int))) W)
  ((ownFrom_pure _ (fun pre=>pre = [])).and (ownFrom_below (Nat.le_refl _) (Nat.le_refl _))) ?_ ⟨rfl,Below.refl _ _⟩ ?a1 ?assign ?body ?done ?stop
 case assign =>
  intro l y W K hK
  gi_wp2
  exact hK
 case body =>
  rintro l pre y W ⟨rfl,hB⟩ _
  have eF:W.cell? ⟨F,0,none⟩ = some (.int .i64 2047):=cell_of ((hB.block F (by omega)).trans kF)
  have fF:W.frozen? ⟨F,0,none⟩ = false:=fz_of ((hB.block F (by omega)).trans kF) 0
  gi_wp2
  exact ⟨KeepsOthers.setCell _ _ _,rfl,y,rfl,below_setCell hB⟩
 case done =>
  rintro D xs W hD hS ⟨rfl,hB⟩ hK
  obtain ⟨f,hf⟩:∃ f,f = 2047:=⟨_,rfl⟩
  have hfirst:firstOf sz st = f:=by
   rw [hf]
   exact came_nil hS
  obtain ⟨W7,hW7⟩:∃ W7,W6 = W7:=⟨_,rfl⟩
  have hB2:Below W6.heap.size W7 W:=by rw [← hW7];exact hB
  clear hB
  have hof:OnlyB F W6 W7:=by rw [← hW7];exact OnlyB.refl F W6
  have c7:W7.heap[F]? = some (.cells #[.int .i64 ((f:Nat):Int)] 3 (0,0)):=by rw [← hW7];exact by rw [hf];exact kF
  clear hf
  have hSD:S D:=(h6.hS D hD).1
  have h7:=h6.keep (w':=W7) (Nat.le_of_eq hof.size.symm) fun k hk _=>hof.rest k hk.2
  have h8:=h7.below (w':=W) (by rw [hof.size];exact hB2)
  have c8:W.heap[F]? = some (.cells #[.int .i64 ((f:Nat):Int)] 3 (0,0)):=(hB2.block F (by omega)).trans c7
  have hDl:D < W.heap.size:=(Array.getElem?_eq_some_iff.1 hK).1
  have h9:=h8.less hDl (by have:=h6.lt;omega) (fun e=>by have:=h6.r1.lt _ e;omega) (fun e=>by have:=(h6.r2.lt _ e).2;omega)
  have b7:FrS S w W:=(b6.trans (hof.fr hSF)).trans (fr_of (w1:=W7) (by rw [hof.size];exact hB2) fun k hk=>(h7.hS k hk).1)
  have hFD:F ≠ D:=by omega
  have hbD:b ≠ D:=by have:=h6.lt;omega
  have hFl8:F < W.heap.size:=by have:=hB2.size;rw [hof.size] at this;omega
  have d2:=h9.c2
  unfold intV at d2
  clear hW7 h7 h8 h6 c7 kF b6 hB2 hseq hof
  gi_wp2
  refine wpIn_wide.2 (wp_calm ?_)
  go_region_with (go_at_call 82;refine (cut_calls (by first | exact h9 | exact h9.drew) (n:=sz) hge (by omega) (by omega) (by omega) (fun a ha=>by have:=hsv a ha;omega)).mono ?_;rintro e W8 ⟨vh,rfl,hvh,⟨u1,u2,h10⟩,b8⟩;have hcv:=hvh.text)
  simp only [OnN]
  have c9:W8.heap[F]? = some (.cells #[.int .i64 ((f:Nat):Int)] 3 (0,0)):=(b8.block F (fun e=>e.1.2 rfl)).trans c8
  have hK8:W8.heap[D]? = some (.deferred (some [])):=(b8.block D (fun e=>e.2 rfl)).trans hK
  have h11:=h10.setI 0
  have f3:=h10.fz 3
  have ho8:OnlyB b W8 (W8.setCell ⟨b,3,none⟩ (intV 0)):=(OnlyB.refl b W8).setCell 3 _
  have c10:(W8.setCell ⟨b,3,none⟩ (intV 0)).heap[F]? = some (.cells #[.int .i64 ((f:Nat):Int)] 3 (0,0)):=(ho8.rest F (fun e=>hbF e.symm)).trans c9
  have hK9:(W8.setCell ⟨b,3,none⟩ (intV 0)).heap[D]? = some (.deferred (some [])):=(ho8.rest D (fun e=>hbD e.symm)).trans hK8
  have b9:FrS S w (W8.setCell ⟨b,3,none⟩ (intV 0)):=(FrS.trans b7.drew (FrS.mono b8 fun k hk=>hk.1.1)).trans (ho8.fr h10.hb.1.1)
  have d3:=h10.c3
  have hR:intV 0 = .int .i64 0:=rfl
  rw [hR] at h11 c10 hK9 b9
  clear b8 b7 h9 c8 hK hK8 c9 ho8 h10 d2
  gi_wp2
  obtain ⟨W9,hW9⟩:∃ W,W8.setCell ⟨b,3,none⟩ (.int .i64 0) = W:=⟨_,rfl⟩
  rw [hW9] at h11 c10 hK9 b9 ⊢
  have eF:W9.cell? ⟨F,0,none⟩ = some (.int .i64 ((f:Nat):Int)):=cell_of c10
  have fF:W9.frozen? ⟨F,0,none⟩ = false:=fz_of c10 0
  clear hW9 f3 d3 hcv hvh
  refine wpIn_wide.2 (wp_calm ?_)
  go_region
  simp only [OnN]
  gi_wp2
  have ho9:OnlyB F W9 ((W9.setCell ⟨F,0,none⟩ (.int .i64 ((f:Nat):Int))).drew):=((OnlyB.refl F W9).setCell 0 _).drew
  have c11:((W9.setCell ⟨F,0,none⟩ (.int .i64 ((f:Nat):Int))).drew).heap[F]? = some (.cells #[.int .i64 ((f:Nat):Int)] 3 (0,0)):=set_at (o:=0) (v:=.int .i64 ((f:Nat):Int)) c10
  have hK10:((W9.setCell ⟨F,0,none⟩ (.int .i64 ((f:Nat):Int))).drew).heap[D]? = some (.deferred (some [])):=(ho9.rest D (fun e=>hFD e.symm)).trans hK9
  have h12:=h11.keep (w':=(W9.setCell ⟨F,0,none⟩ (.int .i64 ((f:Nat):Int))).drew) (Nat.le_of_eq ho9.size.symm) fun k hk _=>ho9.rest k hk.1.2
  have b10:=b9.trans (ho9.fr hSF)
  obtain ⟨W10,hW10⟩:∃ W,(W9.setCell ⟨F,0,none⟩ (.int .i64 ((f:Nat):Int))).drew = W:=⟨_,rfl⟩
  rw [hW10] at c11 hK10 h12 b10 ⊢
  have hg:=grownBy_putObj' W10 D (.deferred none)
  have h13:=h12.keep (w':=W10.putObj D (.deferred none)) hg.size fun k hk hlt=>hg.block k hlt (fun e=>hk.2 (by injection e))
  have hFl10:F < W10.heap.size:=(Array.getElem?_eq_some_iff.1 c11).1
  have c12:(W10.putObj D (.deferred none)).cell? ⟨F,0,none⟩ = some (.int .i64 ((f:Nat):Int)):=cell_of ((hg.block F hFl10 (fun e=>hFD (by injection e))).trans c11)
  have b11:FrS S w (W10.putObj D (.deferred none)):=b10.grown hg (fun k hk=>(h12.hS k hk).1.1) (fun k e=>by injection e with e;rw [← e];exact hSD)
  refine ⟨by simp,.inl ⟨_,_,rfl,run_takeDeferred hK10,?_⟩⟩
  refine ⟨.tuple #[.string ⟨⟨List.take sz q⟩⟩,.int .i64 ((f:Nat):Int),.bool true],by simp [results,Try.results43,go_sem,c12],?_⟩
  exact post_full hge hfirst h13 b11
 case stop =>
  rintro D c pre W hD hS ⟨rfl,f,rfl,hB⟩ hK
  have hfirst:firstOf sz st = f:=left_one hS
  obtain ⟨W7,hW7⟩:∃ W7,W6.setCell ⟨F,0,none⟩ (.int .i64 ((f:Nat):Int)) = W7:=⟨_,rfl⟩
  have hB2:Below W6.heap.size W7 W:=by rw [← hW7];exact hB
  clear hB
  have hof:OnlyB F W6 W7:=by rw [← hW7];exact (OnlyB.refl F W6).setCell 0 _
  have c7:W7.heap[F]? = some (.cells #[.int .i64 ((f:Nat):Int)] 3 (0,0)):=by rw [← hW7];exact set_at (o:=0) (v:=.int .i64 ((f:Nat):Int)) kF
  have hSD:S D:=(h6.hS D hD).1
  have h7:=h6.keep (w':=W7) (Nat.le_of_eq hof.size.symm) fun k hk _=>hof.rest k hk.2
  have h8:=h7.below (w':=W) (by rw [hof.size];exact hB2)
  have c8:W.heap[F]? = some (.cells #[.int .i64 ((f:Nat):Int)] 3 (0,0)):=(hB2.block F (by omega)).trans c7
  have hDl:D < W.heap.size:=(Array.getElem?_eq_some_iff.1 hK).1
  have h9:=h8.less hDl (by have:=h6.lt;omega) (fun e=>by have:=h6.r1.lt _ e;omega) (fun e=>by have:=(h6.r2.lt _ e).2;omega)
  have b7:FrS S w W:=(b6.trans (hof.fr hSF)).trans (fr_of (w1:=W7) (by rw [hof.size];exact hB2) fun k hk=>(h7.hS k hk).1)
  have hFD:F ≠ D:=by omega
  have hbD:b ≠ D:=by have:=h6.lt;omega
  have hFl8:F < W.heap.size:=by have:=hB2.size;rw [hof.size] at this;omega
  have d2:=h9.c2
  unfold intV at d2
  clear hW7 h7 h8 h6 c7 kF b6 hB2 hseq hof
  gi_wp2
  refine wpIn_wide.2 (wp_calm ?_)
  go_region_with (go_at_call 82;refine (cut_calls (by first | exact h9 | exact h9.drew) (n:=sz) hge (by omega) (by omega) (by omega) (fun a ha=>by have:=hsv a ha;omega)).mono ?_;rintro e W8 ⟨vh,rfl,hvh,⟨u1,u2,h10⟩,b8⟩;have hcv:=hvh.text)
  simp only [OnN]
  have c9:W8.heap[F]? = some (.cells #[.int .i64 ((f:Nat):Int)] 3 (0,0)):=(b8.block F (fun e=>e.1.2 rfl)).trans c8
  have hK8:W8.heap[D]? = some (.deferred (some [])):=(b8.block D (fun e=>e.2 rfl)).trans hK
  have h11:=h10.setI 0
  have f3:=h10.fz 3
  have ho8:OnlyB b W8 (W8.setCell ⟨b,3,none⟩ (intV 0)):=(OnlyB.refl b W8).setCell 3 _
  have c10:(W8.setCell ⟨b,3,none⟩ (intV 0)).heap[F]? = some (.cells #[.int .i64 ((f:Nat):Int)] 3 (0,0)):=(ho8.rest F (fun e=>hbF e.symm)).trans c9
  have hK9:(W8.setCell ⟨b,3,none⟩ (intV 0)).heap[D]? = some (.deferred (some [])):=(ho8.rest D (fun e=>hbD e.symm)).trans hK8
  have b9:FrS S w (W8.setCell ⟨b,3,none⟩ (intV 0)):=(FrS.trans b7.drew (FrS.mono b8 fun k hk=>hk.1.1)).trans (ho8.fr h10.hb.1.1)
  have d3:=h10.c3
  have hR:intV 0 = .int .i64 0:=rfl
  rw [hR] at h11 c10 hK9 b9
  clear b8 b7 h9 c8 hK hK8 c9 ho8 h10 d2
  gi_wp2
  obtain ⟨W9,hW9⟩:∃ W,W8.setCell ⟨b,3,none⟩ (.int .i64 0) = W:=⟨_,rfl⟩
  rw [hW9] at h11 c10 hK9 b9 ⊢
  have eF:W9.cell? ⟨F,0,none⟩ = some (.int .i64 ((f:Nat):Int)):=cell_of c10
  have fF:W9.frozen? ⟨F,0,none⟩ = false:=fz_of c10 0
  clear hW9 f3 d3 hcv hvh
  refine wpIn_wide.2 (wp_calm ?_)
  go_region
  simp only [OnN]
  gi_wp2
  have ho9:OnlyB F W9 ((W9.setCell ⟨F,0,none⟩ (.int .i64 ((f:Nat):Int))).drew):=((OnlyB.refl F W9).setCell 0 _).drew
  have c11:((W9.setCell ⟨F,0,none⟩ (.int .i64 ((f:Nat):Int))).drew).heap[F]? = some (.cells #[.int .i64 ((f:Nat):Int)] 3 (0,0)):=set_at (o:=0) (v:=.int .i64 ((f:Nat):Int)) c10
  have hK10:((W9.setCell ⟨F,0,none⟩ (.int .i64 ((f:Nat):Int))).drew).heap[D]? = some (.deferred (some [])):=(ho9.rest D (fun e=>hFD e.symm)).trans hK9
  have h12:=h11.keep (w':=(W9.setCell ⟨F,0,none⟩ (.int .i64 ((f:Nat):Int))).drew) (Nat.le_of_eq ho9.size.symm) fun k hk _=>ho9.rest k hk.1.2
  have b10:=b9.trans (ho9.fr hSF)
  obtain ⟨W10,hW10⟩:∃ W,(W9.setCell ⟨F,0,none⟩ (.int .i64 ((f:Nat):Int))).drew = W:=⟨_,rfl⟩
  rw [hW10] at c11 hK10 h12 b10 ⊢
  have hg:=grownBy_putObj' W10 D (.deferred none)
  have h13:=h12.keep (w':=W10.putObj D (.deferred none)) hg.size fun k hk hlt=>hg.block k hlt (fun e=>hk.2 (by injection e))
  have hFl10:F < W10.heap.size:=(Array.getElem?_eq_some_iff.1 c11).1
  have c12:(W10.putObj D (.deferred none)).cell? ⟨F,0,none⟩ = some (.int .i64 ((f:Nat):Int)):=cell_of ((hg.block F hFl10 (fun e=>hFD (by injection e))).trans c11)
  have b11:FrS S w (W10.putObj D (.deferred none)):=b10.grown hg (fun k hk=>(h12.hS k hk).1.1) (fun k e=>by injection e with e;rw [← e];exact hSD)
  refine ⟨by simp,.inl ⟨_,_,rfl,run_takeDeferred hK10,?_⟩⟩
  refine ⟨.tuple #[.string ⟨⟨List.take sz q⟩⟩,.int .i64 ((f:Nat):Int),.bool true],by simp [results,Try.results43,go_sem,c12],?_⟩
  exact post_full hge hfirst h13 b11
 · intro c s A A' row hs hg hr
   obtain ⟨e,y,e2,hb⟩:=hs
   refine ⟨e,y,e2,hb.grown hg ?_ (fun k e=>(hr k e).1)⟩
   have hz:=hb.size
   rw [((OnlyB.refl F W6).setCell 0 (.int .i64 ((y:Nat):Int))).size] at hz
   exact hz
end Go.Am.Tmf
