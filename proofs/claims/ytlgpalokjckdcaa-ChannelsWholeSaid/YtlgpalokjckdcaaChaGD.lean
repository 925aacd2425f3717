/-
  Channels: a mux is made. Own work.
-/
import Derived.Test.YtlgpalokjckdcaaChaGC
namespace Go.Am.Cha
open Go Go.Am Go.Am.Lib Go.Lib Go.Proofs Go.RowKit
open Go.Am.Own
open Go.Am.Tmf (FS FAt FC OkF idleL fs0)
set_option maxRecDepth 100000

/-- Eight numbers. -/
def arr8 (P:Nat → Int):Array Value:=#[.int .i64 (P 0),.int .i64 (P 1),.int .i64 (P 2),.int .i64 (P 3),.int .i64 (P 4),.int .i64 (P 5),.int .i64 (P 6),.int .i64 (P 7)]
theorem arr8_at (P:Nat → Int) {i:Nat} (h:i < 8):(arr8 P)[i]? = some (.int .i64 (P i)):=by
 match i,h with
 | 0,_ | 1,_ | 2,_ | 3,_ | 4,_ | 5,_ | 6,_ | 7,_=>rfl
def sr0 (sz:Nat) (P Q:Nat → Int) (k:Nat):Sr:=⟨fs0 sz,(P k).toNat,(Q k).toNat,0,0⟩
/-- The mux mb behind n channels; everything of it lies at B or above. -/
structure Mk (w:World) (mb:Nat) (bk:Nat → Nat) (crf sz:Nat) (f:Nat → Sr) (n:Nat) (v:Value) (wr:World):Prop where
 fr:Below w.heap.size w wr
 cell:wr.heap[mb]? = some (.cells #[intN crf,intN sz,.int .i64 0,v] 69 (0,0))
 hmb:w.heap.size ≤ mb
 row:wr.ownsRow w.heap.size 104 5 v n (flN bk f n)
 fil:∃ Sk:Nat → Nat → Prop,(∀ k,k < n → FAt (Sk k) (bk k) (f k).x wr) ∧ (∀ k,k < n → ∀ m,m < wr.heap.size → Sk k m → w.heap.size ≤ m ∧ m ≠ mb ∧ v.ownBlock ≠ some m) ∧ ∀ k k',k < n → k' < n → k ≠ k' → ∀ m,m < wr.heap.size → Sk k m → ¬ Sk k' m
variable {w wr w' w1 w9:World} {mb crf sz n:Nat} {bk:Nat → Nat} {f:Nat → Sr} {v v':Value}
theorem Mk.lt (h:Mk w mb bk crf sz f n v wr):mb < wr.heap.size:=(Array.getElem?_eq_some_iff.1 h.cell).1
theorem Mk.below (h:Mk w mb bk crf sz f n v wr) (hb:Below wr.heap.size wr w'):Mk w mb bk crf sz f n v w':=by
 obtain ⟨Sk,h1,h2,h3⟩:=h.fil
 exact ⟨h.fr.trans (hb.mono h.fr.size),(hb.block mb h.lt).trans h.cell,h.hmb,ownsRow_keep h.row fun k e=>hb.block k (h.row.lt k e).2,fun k=>ShS (Sk k) wr.heap.size w'.heap.size,fun k hk=>fshrink (h1 k hk) fun m _ hm=>hb.block m hm,fun k hk m hm e=>h2 k hk m (e.old hm).2 (e.old hm).1,fun k k' a b c m hm e e'=>h3 k k' a b c m (e.old hm).2 (e.old hm).1 (e'.old hm).1⟩
theorem Mk.start (w:World) (crf sz:Nat) (bk:Nat → Nat) (f:Nat → Sr):Mk w w.heap.size bk crf sz f 0 (.slice none 0 0) (w.alloc (.cells #[intN crf,intN sz,.int .i64 0,.slice none 0 0] 69)) :=
 ⟨(Below.refl _ w).alloc (Nat.le_refl _) _,heap_alloc_new w _,Nat.le_refl _,World.ownsRow_nil _ _ _ _,fun _ _=>False,fun k hk=>absurd hk (Nat.not_lt_zero k),fun k hk=>absurd hk (Nat.not_lt_zero k),fun k _ hk=>absurd hk (Nat.not_lt_zero k)⟩
/-- One channel more: its filler was made between wr and w1, the row grew between w1 and w9. -/
theorem Mk.step {o:Obj} (h:Mk w mb bk crf sz f n v wr) (b1:Below wr.heap.size wr w1) (hf:FAt (fun k=>wr.heap.size ≤ k) wr.heap.size (f n).x w1) (hbn:bk n = wr.heap.size)
 (hr:w9.ownsRow w.heap.size 104 5 v' (n + 1) (flN bk f n ++ srC (bk n) (f n))) (hg:(w1.alloc o).grownBy w9 v.ownBlock) (hv:v'.ownBlock = v.ownBlock ∨ v'.ownBlock = some (w1.alloc o).heap.size) :
 Mk w mb bk crf sz f (n + 1) v' (w9.setCell ⟨mb,3,none⟩ v'):=by
 have hM:=h.below b1
 obtain ⟨Sk,h1,h2,h3⟩:=h.fil
 have ha:Below w1.heap.size w1 (w1.alloc o):=(Below.refl _ w1).alloc (Nat.le_refl _) o
 have hsa:=alloc_size w1 o
 have hs9:=hg.size
 have hlt1:=hM.lt
 have hblk:∀ m,m < w1.heap.size → some m ≠ v.ownBlock → w9.heap[m]? = w1.heap[m]?:=fun m hm hne=>(hg.block m (by omega) hne).trans (ha.block m hm)
 have hrowlt:∀ m,v.ownBlock = some m → w.heap.size ≤ m ∧ m < wr.heap.size:=fun m e=>h.row.lt m e
 have hmbv:v.ownBlock ≠ some mb:=ownsRow_neb h.row h.cell (by decide)
 have hc9:w9.heap[mb]? = some (.cells #[intN crf,intN sz,.int .i64 0,v] 69 (0,0)):=(hblk mb hlt1 fun e=>hmbv e.symm).trans hM.cell
 have hmbv':v'.ownBlock ≠ some mb:=ownsRow_neb hr hc9 (by decide)
 have ho:OnlyB mb w9 (w9.setCell ⟨mb,3,none⟩ v'):=(OnlyB.refl mb w9).setCell 3 v'
 have hfS:wr.heap.size < w1.heap.size:=by
  obtain ⟨a1,a2,hc⟩:=hf
  exact hc.lt
 have hwr:=h.lt
 have hws:=h.fr.size
 refine ⟨⟨ho.os.trans (hg.os.trans (ha.os.trans hM.fr.os)),ho.tape.trans (hg.tape.trans (ha.tape.trans hM.fr.tape)),ho.output.trans (hg.output.trans (ha.output.trans hM.fr.output)),by rw [ho.size];have:=hM.fr.size;omega,fun m hm=>(ho.rest m (by have:=h.hmb;omega)).trans ((hblk m (by omega) fun e=>by have:=(hrowlt m e.symm).1;omega).trans (hM.fr.block m hm))⟩,set_at (o:=3) (v:=v') hc9,h.hmb,ownsRow_keep hr fun m e=>ho.rest m fun e'=>hmbv' (by rw [e,e']),fun k=>if k = n then ShS (fun m=>wr.heap.size ≤ m) w1.heap.size w9.heap.size else ShS (Sk k) wr.heap.size w9.heap.size,fun k hk=>?_,fun k hk m hm e=>?_,fun k k' hk hk' hne m hm e e'=>?_⟩
 · show FAt (if k = n then _ else _) (bk k) (f k).x _
   by_cases e:k = n
   · subst e
     rw [if_pos rfl,hbn]
     have hA:=fshrink hf (w':=w9.setCell ⟨mb,3,none⟩ v') fun m hm hlt=>by
      replace hm:wr.heap.size ≤ m:=hm
      exact (ho.rest m (by omega)).trans (hblk m hlt fun e=>by have:=(hrowlt m e.symm).2;omega)
     rw [ho.size] at hA
     exact hA
   · rw [if_neg e]
     have hA:=fshrink (h1 k (by omega)) (w':=w9.setCell ⟨mb,3,none⟩ v') fun m hm hlt=>by
      obtain ⟨a1,a2,a3⟩:=h2 k (by omega) m hlt hm
      exact (ho.rest m a2).trans ((hblk m (by omega) fun e=>a3 e.symm).trans (b1.block m hlt))
     rw [ho.size] at hA
     exact hA
 · rw [ho.size] at hm
   have hv':∀ q,q < w1.heap.size → v.ownBlock ≠ some q → v'.ownBlock ≠ some q:=fun q hq hne e=>by
    rcases hv with hv | hv
    · exact hne (by rw [← hv];exact e)
    · rw [hv] at e;injection e with e;omega
   replace e:(if k = n then ShS (fun m=>wr.heap.size ≤ m) w1.heap.size w9.heap.size else ShS (Sk k) wr.heap.size w9.heap.size) m:=e
   by_cases hkn:k = n
   · rw [if_pos hkn] at e
     obtain ⟨e1,e2⟩:=e.old hm
     replace e1:wr.heap.size ≤ m:=e1
     exact ⟨by omega,by omega,hv' m e2 fun e=>by have:=(hrowlt m e).2;omega⟩
   · rw [if_neg hkn] at e
     obtain ⟨e1,e2⟩:=e.old hm
     obtain ⟨a1,a2,a3⟩:=h2 k (by omega) m e2 e1
     exact ⟨a1,a2,hv' m (by omega) a3⟩
 · rw [ho.size] at hm
   replace e:(if k = n then ShS (fun m=>wr.heap.size ≤ m) w1.heap.size w9.heap.size else ShS (Sk k) wr.heap.size w9.heap.size) m:=e
   replace e':(if k' = n then ShS (fun m=>wr.heap.size ≤ m) w1.heap.size w9.heap.size else ShS (Sk k') wr.heap.size w9.heap.size) m:=e'
   by_cases hkn:k = n
   · rw [if_pos hkn] at e
     have e1:wr.heap.size ≤ m:=(e.old hm).1
     rw [if_neg (by omega)] at e'
     have:=(e'.old hm).2
     omega
   · rw [if_neg hkn] at e
     have e1:=(e.old hm).2
     by_cases hkn':k' = n
     · rw [if_pos hkn'] at e'
       have e2:wr.heap.size ≤ m:=(e'.old hm).1
       omega
     · rw [if_neg hkn'] at e'
       exact h3 k k' (by omega) (by omega) hne m e1 (e.old hm).1 (e'.old hm).1
/-- The mux is made. -/
theorem Mk.done {g cap:Nat} (h:Mk w mb bk crf sz f 8 (.slice (some ⟨g,0,none⟩) 8 cap) wr):MC (fun k=>w.heap.size ≤ k) mb g cap bk ⟨crf,sz,0,f⟩ wr:=by
 obtain ⟨Sk,h1,h2,h3⟩:=h.fil
 refine ⟨fun k hk=>Nat.le_trans h.fr.size hk,h.cell,ownsRow_up h.row (Nat.zero_le _),h.hmb,(h.row.lt g rfl).1,Sk,h1,fun k hk m hm e=>?_,h3⟩
 obtain ⟨a1,a2,a3⟩:=h2 k hk m hm e
 exact ⟨a1,a2,fun e=>a3 (by rw [e];rfl)⟩
end Go.Am.Cha

namespace Go.Am.Cha
open Go Go.Am Go.Am.Lib Go.Lib Go.Proofs Go.RowKit
open Go.Am.Own
open Go.Am.Tmf (FS FAt FC OkF idleL fs0)
set_option maxRecDepth 100000

variable {w wr w' w1 w9:World} {mb crf sz n:Nat} {bk bk':Nat → Nat} {f:Nat → Sr} {v v':Value}
theorem Mk.congr (h:Mk w mb bk crf sz f n v wr) (e:∀ k,k < n → bk k = bk' k):Mk w mb bk' crf sz f n v wr:=by
 obtain ⟨Sk,h1,h2,h3⟩:=h.fil
 refine ⟨h.fr,h.cell,h.hmb,?_,Sk,fun k hk=>by rw [← e k hk];exact h1 k hk,h2,h3⟩
 have e2:flN bk f n = flN bk' f n:=flN_congr fun k hk=>by rw [e k hk]
 rw [← e2];exact h.row
def zS:Value:=.agg #[.pointer none,.int .i64 0,.int .i64 0,.int .i64 0,.int .i64 0]
theorem infoSo:∃ i0,Try.prog.info? 104 = some i0 ∧ i0.zero = some zS ∧ i0.size = 5 ∧ i0.bytes = 40:=by
 have h:(Try.prog.info? 104).map (fun i=>(i.zero,i.size,i.bytes)) = some (some zS,5,40):=by kernel_rfl
 obtain ⟨i,h1,h2⟩:=Option.map_eq_some_iff.1 h
 simp only [Prod.mk.injEq] at h2
 exact ⟨i,h1,h2.1,h2.2.1,h2.2.2⟩
theorem cell_many (w:World) (t:TypeId) (vs:List Value):∀ j u,vs[j]? = some u → (w.alloc (.cells ⟨vs⟩ t)).cell? ((⟨w.heap.size,0,none⟩:Addr).add j) = some u:=by
 intro j u hj
 have ha:((⟨w.heap.size,0,none⟩:Addr).add j) = ⟨w.heap.size,j,none⟩:=by simp [Addr.add];intro h;exact h.symm
 rw [ha,cell_of (heap_alloc_new w _)]
 simpa using hj
def okPQ (P Q:Nat → Int) (k:Nat):Prop:=0 ≤ P k ∧ P k ≤ 7 ∧ 1 ≤ Q k ∧ Q k ≤ 100
def okNew (crf sz:Int) (P Q:Nat → Int):Prop:=0 ≤ crf ∧ crf ≤ 255 ∧ 32 ≤ sz ∧ sz ≤ 200 ∧ ∀ k,k < 8 → okPQ P Q k
abbrev boxW (w:World) (P Q:Nat → Int):World:=(w.alloc (.cells (arr8 P) 38)).alloc (.cells (arr8 Q) 38)
set_option maxHeartbeats 1600000 in
theorem newmux_craft (crf sz:Int) (P Q:Nat → Int) (w:World) (h:crf < 0 ∨ 255 < crf) :
 Calls Try.prog 15 #[.int .i64 crf,.int .i64 sz,.agg (arr8 P),.agg (arr8 Q)] w fun e w'=>e = .returned (.tuple #[.pointer none,.int .i64 2]) ∧ Below w.heap.size w w':=by
 have hb:Below w.heap.size w (boxW w P Q):=((Below.refl w.heap.size w).alloc (Nat.le_refl _) _).alloc (by rw [alloc_size];omega) _
 unfold arr8 at hb ⊢
 rcases h with h | h
 · go_enter Try.func15,Try.ntmps15
   go_wp2
   go_ret2
   exact ⟨rfl,hb⟩
 · have h2:¬ crf < 0:=by omega
   go_enter Try.func15,Try.ntmps15
   go_wp2
   go_ret2
   exact ⟨rfl,hb⟩
set_option maxHeartbeats 1600000 in
theorem newmux_size (crf sz:Int) (P Q:Nat → Int) (w:World) (h0:¬ crf < 0) (h1:¬ 255 < crf) (h:sz < 32 ∨ 200 < sz) :
 Calls Try.prog 15 #[.int .i64 crf,.int .i64 sz,.agg (arr8 P),.agg (arr8 Q)] w fun e w'=>e = .returned (.tuple #[.pointer none,.int .i64 2]) ∧ Below w.heap.size w w':=by
 have hb:Below w.heap.size w (boxW w P Q):=((Below.refl w.heap.size w).alloc (Nat.le_refl _) _).alloc (by rw [alloc_size];omega) _
 have hb2:=hb.alloc hb.size (.cells #[.int .i64 crf,.int .i64 sz,.int .i64 0,.slice none 0 0] 69)
 have cN:=fun w=>Tmf.new_no sz h w
 unfold boxW arr8 at hb2
 unfold arr8
 go_enter Try.func15,Try.ntmps15
 go_wp2
 go_loopw [24] (fun iv wq=>iv = .int .i64 0 ∧ Below w.heap.size w wq) (fun _ _=>0)
 case atStart=>exact ⟨rfl,hb2⟩
 case round =>
  clear hb2 hb
  obtain ⟨rfl,hB⟩:=hrel
  go_wp2_with (go_at_call 36;refine (cN _).mono ?_;clear cN;rintro e W2 ⟨rfl,rfl⟩)
  go_ret2
  exact ⟨rfl,hB⟩
/-- A mux has been made. -/
def NewOk (w:World) (crf sz:Nat) (P Q:Nat → Int) (e:Ending) (w':World):Prop:=∃ mb g cap bk,e = .returned (.tuple #[.pointer (some ⟨mb,0,none⟩),.int .i64 0]) ∧ MC (fun k=>w.heap.size ≤ k) mb g cap bk ⟨crf,sz,0,sr0 sz P Q⟩ w' ∧ Below w.heap.size w w'
set_option maxHeartbeats 6400000 in
theorem newmux_loop (crf sz:Nat) (P Q:Nat → Int) (w:World) (h0:crf ≤ 255) (h1:32 ≤ sz) (h2:sz ≤ 200) :
 Calls Try.prog 15 #[.int .i64 ((crf:Nat):Int),.int .i64 ((sz:Nat):Int),.agg (arr8 P),.agg (arr8 Q)] w fun e w'=>((∀ k,k < 8 → okPQ P Q k) → NewOk w crf sz P Q e w') ∧ ((¬ ∀ k,k < 8 → okPQ P Q k) → e = .returned (.tuple #[.pointer none,.int .i64 2]) ∧ Below w.heap.size w w'):=by
 obtain ⟨iK,iK1,iK2,iK3,iK4⟩:=infoSo
 have a0:¬ ((crf:Nat):Int) < 0:=by omega
 have a1:¬ (255:Int) < ((crf:Nat):Int):=by omega
 have hb:Below w.heap.size w (boxW w P Q):=((Below.refl w.heap.size w).alloc (Nat.le_refl _) _).alloc (by rw [alloc_size];omega) _
 obtain ⟨B,hB⟩:∃ B,w.heap.size = B:=⟨_,rfl⟩
 have e2:(boxW w P Q).heap[B + 1]? = some (.cells (arr8 Q) 38 (0,0)):=by rw [← hB,← alloc_size w (.cells (arr8 P) 38)];exact heap_alloc_new _ _
 have e1:(boxW w P Q).heap[B]? = some (.cells (arr8 P) 38 (0,0)):=by
  rw [← hB]
  exact (((Below.refl _ _).alloc (Nat.le_refl _) _:Below (w.alloc (.cells (arr8 P) 38)).heap.size _ _).block w.heap.size (by rw [alloc_size];omega)).trans (heap_alloc_new w _)
 have hM:=Mk.start (boxW w P Q) crf sz (fun _=>0) (sr0 sz P Q)
 obtain ⟨W2,hW2⟩:∃ W,boxW w P Q = W:=⟨_,rfl⟩
 rw [hW2] at hb e1 e2 hM
 have hsz2:W2.heap.size = B + 2:=by rw [← hW2,← hB];unfold boxW;rw [alloc_size,alloc_size]
 unfold boxW arr8 at hW2
 have cN:=fun w=>Tmf.new_at ((sz:Nat):Int) (by omega) (by omega) w
 simp only [Int.toNat_natCast] at cN
 have CN:=Lib.hid cN
 obtain ⟨W3,hW3⟩:∃ W,W2.alloc (.cells #[intN crf,intN sz,.int .i64 0,.slice none 0 0] 69) = W:=⟨_,rfl⟩
 rw [hW3,hsz2] at hM
 unfold intN at hW3
 have HE1:=Lib.hid e1
 have HE2:=Lib.hid e2
 have HB0:=Lib.hid hb
 clear cN e1 e2 hb
 unfold arr8
 go_enter Try.func15,Try.ntmps15
 go_wp2
 go_loopw [24] (fun iv wq=>∃ (i:Nat) (bk:Nat → Nat) (v:Value),iv = .int .i64 (i:Nat) ∧ i ≤ 8 ∧ Hid (∀ k,k < i → okPQ P Q k) ∧ Mk W2 (B + 2) bk crf sz (sr0 sz P Q) i v wq)
  (fun iv _=>8 - iOf iv)
 case atStart=>exact ⟨0,_,_,rfl,Nat.zero_le _,fun k hk=>absurd hk (Nat.not_lt_zero k),hM⟩
 case round =>
  clear hM
  obtain ⟨i,bk,v,rfl,hi8,hPQ,hR⟩:=hrel
  have HBw:=Lib.hid (fun (W:World) (hW:Below W2.heap.size W2 W)=>HB0.out.trans (hW.mono (by omega)))
  obtain ⟨ao,cap,rfl⟩:=ownsRow_slice hR.row
  rcases Nat.lt_or_ge i 8 with hlt | hge
  · have hlt':((i:Nat):Int) < 8:=by omega
    have hmeas:8 - (i + 1) < 8 - i:=by omega
    have bc:∀ W,Below W2.heap.size W2 W → W.cell? ⟨B,i,none⟩ = some (.int .i64 (P i)) ∧ W.cell? ⟨B + 1,i,none⟩ = some (.int .i64 (Q i)):=fun W hW =>
     ⟨(cell_of ((hW.block B (by omega)).trans HE1.out)).trans (arr8_at P hlt),(cell_of ((hW.block (B + 1) (by omega)).trans HE2.out)).trans (arr8_at Q hlt)⟩
    have BC:=Lib.hid bc
    clear bc
    have cN:=CN.out wr
    have hcs:okPQ P Q i ∨ P i < 0 ∨ (¬ P i < 0 ∧ 7 < P i) ∨ (¬ P i < 0 ∧ ¬ 7 < P i ∧ Q i < 1) ∨ (¬ P i < 0 ∧ ¬ 7 < P i ∧ ¬ Q i < 1 ∧ 100 < Q i):=by unfold okPQ;omega
    rcases hcs with hok | hcs
    · obtain ⟨p,hp⟩:∃ p:Nat,P i = (p:Int):=⟨(P i).toNat,by unfold okPQ at hok;omega⟩
      obtain ⟨q,hq⟩:∃ q:Nat,Q i = (q:Int):=⟨(Q i).toNat,by unfold okPQ at hok;omega⟩
      have q1:¬ ((p:Nat):Int) < 0:=by omega
      have q2:¬ (7:Int) < ((p:Nat):Int):=by unfold okPQ at hok;omega
      have q3:¬ ((q:Nat):Int) < 1:=by unfold okPQ at hok;omega
      have q4:¬ (100:Int) < ((q:Nat):Int):=by unfold okPQ at hok;omega
      have hfi:sr0 sz P Q i = ⟨fs0 sz,p,q,0,0⟩:=by unfold sr0;rw [hp,hq];simp
      have hPQ2:∀ k,k < i + 1 → okPQ P Q k:=fun k hk=>by
       by_cases e:k = i
       · subst e;exact hok
       · exact hPQ.out k (by omega)
      rw [hp,hq] at BC
      have HR:=Lib.hid hR
      have HF:=Lib.hid hfi
      have HP2:=Lib.hid hPQ2
      obtain ⟨b,hb⟩:∃ b,wr.heap.size = b:=⟨_,rfl⟩
      clear hR hfi hPQ2 hPQ hok hp hq
      rw [hb] at cN
      go_wp2_with (go_at_call 36;refine cN.mono ?_;clear cN;rintro e V1 ⟨rfl,hf,b1⟩;have hM1:=HR.out.below (by rw [hb];exact b1);obtain ⟨x1,x2⟩:=BC.out V1 hM1.fr;have c3:V1.cell? ⟨B + 2,3,none⟩ = some (.slice ao i cap):=cell_of hM1.cell)
      have hA:=hM1.below ((Below.refl _ V1).alloc (Nat.le_refl _) (.cells #[.pointer (some ⟨b,0,none⟩),.int .i64 ((p:Nat):Int),.int .i64 ((q:Nat):Int),.int .i64 0,.int .i64 0] 104))
      have hrow:=hA.row.drew
      have hcm:=cell_many V1 104 [.pointer (some ⟨b,0,none⟩),.int .i64 ((p:Nat):Int),.int .i64 ((q:Nat):Int),.int .i64 0,.int .i64 0]
      have hbase:=hA.fr.size
      have c4:((V1.alloc (.cells #[.pointer (some ⟨b,0,none⟩),.int .i64 ((p:Nat):Int),.int .i64 ((q:Nat):Int),.int .i64 0,.int .i64 0] 104))).cell? ⟨B + 2,3,none⟩ = some (.slice ao i cap):=cell_of hA.cell
      have x3:((V1.alloc (.cells #[.pointer (some ⟨b,0,none⟩),.int .i64 ((p:Nat):Int),.int .i64 ((q:Nat):Int),.int .i64 0,.int .i64 0] 104))).cell? ⟨B,i,none⟩ = some (.int .i64 ((p:Nat):Int)):=(BC.out _ hA.fr).1
      have x4:((V1.alloc (.cells #[.pointer (some ⟨b,0,none⟩),.int .i64 ((p:Nat):Int),.int .i64 ((q:Nat):Int),.int .i64 0,.int .i64 0] 104))).cell? ⟨B + 1,i,none⟩ = some (.int .i64 ((q:Nat):Int)):=(BC.out _ hA.fr).2
      go_region_law ((refine step_append_lies _ (by rfl) _ _ _ (by rfl) W2.heap.size 104 iK zS 5 40 Try.underlying67 iK1 iK2 iK3 iK4 rfl (by decide) (.slice ao i cap) i (flN bk (sr0 sz P Q) i) (by rfl) hrow ⟨V1.heap.size,0,none⟩ 1 1 [.pointer (some ⟨b,0,none⟩),.int .i64 ((p:Nat):Int),.int .i64 ((q:Nat):Int),.int .i64 0,.int .i64 0] (by rfl) (by rfl) hcm (by intro u hu;simp only [List.mem_cons,List.not_mem_nil,or_false] at hu;rcases hu with rfl | rfl | rfl | rfl | rfl <;> rfl) (by decide) (by unfold maxLen;omega) (by omega) hbase (V1.heap.size + 1) (by simp) ?_;intro g9 cap9 w9 hown9 hgrow9 hat9 hlt9;have h9c:w9.heap[B + 2]? = some (.cells #[intN crf,intN sz,.int .i64 0,.slice ao i cap] 69 (0,0)):=(hgrow9.block (B + 2) hA.lt (fun e=>ownsRow_neb hA.row hA.cell (by decide) e.symm)).trans hA.cell;have f9:=fz_of h9c 3;have g9c:w9.cell? ⟨B + 2,3,none⟩ = some (.slice ao i cap):=cell_of h9c))
      all_goals
       have hbk:∀ k,k < i → bk k = (fun k=>if k = i then b else bk k) k:=fun k hk=>(if_neg (by omega)).symm
       have hR2:=HR.out.congr hbk
       have e1:flN (fun k=>if k = i then b else bk k) (sr0 sz P Q) i = flN bk (sr0 sz P Q) i:=flN_congr fun k hk=>congrArg (fun x=>srC x (sr0 sz P Q k)) (hbk k hk).symm
       have e2:srC ((fun k=>if k = i then b else bk k) i) (sr0 sz P Q i) = [.pointer (some ⟨b,0,none⟩),.int .i64 ((p:Nat):Int),.int .i64 ((q:Nat):Int),.int .i64 0,.int .i64 0]:=by
        rw [HF.out]
        show srC (if i = i then b else bk i) _ = _
        rw [if_pos rfl];rfl
       have hS:=Mk.step (w1:=V1) hR2 (by rw [hb];exact b1) (by rw [hb];exact hf) (by rw [hb];exact if_pos rfl) (v':=.slice (some ⟨g9,0,none⟩) (i + 1) cap9) (o:=.cells #[.pointer (some ⟨b,0,none⟩),.int .i64 ((p:Nat):Int),.int .i64 ((q:Nat):Int),.int .i64 0,.int .i64 0] 104) (by rw [e1,e2];exact hown9) ⟨hgrow9.os,hgrow9.tape,hgrow9.output,hgrow9.size,hgrow9.block⟩ (by
        rcases hat9 with e | e
        · exact .inl (by rw [e];rfl)
        · exact .inr (by rw [alloc_size,← e];rfl))
       have HSt:=Lib.hid hS
       clear hR2 e1 e2 hS hown9 hgrow9 hat9 hlt9 h9c f9 g9c hA hrow hcm hbase c3 c4 x1 x2 x3 x4 hM1 hf b1
       go_wp2
       exact ⟨⟨i + 1,_,_,by push_cast;rfl,hlt,HP2.out,HSt.out⟩,hmeas⟩
    · have hno:¬ ∀ k,k < 8 → okPQ P Q k:=fun hh=>by
       have:=hh i hlt
       unfold okPQ at this
       omega
      have HNO:=Lib.hid hno
      obtain ⟨Pi,hPi⟩:∃ x,P i = x:=⟨_,rfl⟩
      obtain ⟨Qi,hQi⟩:∃ x,Q i = x:=⟨_,rfl⟩
      rw [hPi,hQi] at hcs BC
      have HRR:=Lib.hid hR.fr
      clear hno hPi hQi hR hPQ
      rcases hcs with q1 | ⟨q1,q2⟩ | ⟨q1,q2,q3⟩ | ⟨q1,q2,q3,q4⟩
      all_goals
       go_wp2_with (go_at_call 36;refine cN.mono ?_;clear cN;rintro e V1 ⟨rfl,hf,b1⟩;have bV:=HRR.out.trans (b1.mono HRR.out.size);obtain ⟨x1,x2⟩:=BC.out V1 bV)
       go_ret2
       exact ⟨fun hh=>absurd hh HNO.out,fun _=>⟨rfl,by rw [hB];exact hB ▸ HBw.out _ bV⟩⟩
  · have hge':¬ ((i:Nat):Int) < 8:=by omega
    have hie:i = 8:=by omega
    subst hie
    obtain ⟨_,g,rfl⟩:=ownsRow_base hR.row (by omega)
    have hMC:=hR.done
    have hok:∀ k,k < 8 → okPQ P Q k:=hPQ.out
    have bW:=HBw.out _ hR.fr
    have HM:=Lib.hid hMC
    clear hR hMC
    go_wp2
    go_ret2
    exact ⟨fun _=>⟨B + 2,g,cap,bk,rfl,HM.out.keep (fun k _ _=>rfl) (fun k hk=>by show w.heap.size ≤ k;have:=bW.size;omega) fun k _ e=>by show w.heap.size ≤ k;replace e:W2.heap.size ≤ k:=e;omega,by rw [hB];rw [hB] at bW;exact bW⟩,fun x hx hn=>absurd (hok x hx) hn⟩
end Go.Am.Cha
