/-
  Tmframe: a filler in memory. Own work.
-/
import Derived.Test.YtlgpalokjckdcaaTmfR
import Derived.WalkKit
import Derived.StillTailTactics
import Derived.Deep.RegionLaw
import Derived.Deep.AppendLies
import Derived.Lib.Hide
namespace Go.Am.Tmf
open Go Go.Am Go.Am.Lib Go.Lib Go.Proofs Go.RowKit
open Go.Am.Own
set_option maxRecDepth 100000

def intV (n:Nat):Value:=.int .i64 ((n:Nat):Int)
def cellI (l:List Nat):List Value:=l.map intV
theorem cellI_len (l:List Nat):(cellI l).length = l.length:=by unfold cellI;rw [List.length_map]
/-- A filler's block and its two rows; S: what a call may change. -/
structure FC (S:Nat → Prop) (b:Nat) (v1 v2:Value) (x:FS) (w:World):Prop where
 hS:∀ k,w.heap.size ≤ k → S k
 hb:S b
 cell:w.heap[b]? = some (.cells #[v1,v2,intV x.size,intV x.idle] 142 (0,0))
 r1:VRow w v1 x.q
 r2:w.ownsRow 0 3 1 v2 x.st.length (cellI x.st)
 s1:∀ k,v1.ownBlock = some k → S k
 s2:∀ k,v2.ownBlock = some k → S k
section
variable {S:Nat → Prop} {b:Nat} {v1 v2:Value} {x:FS} {w w':World}
theorem FC.lt (h:FC S b v1 v2 x w):b < w.heap.size:=by
 rcases Nat.lt_or_ge b w.heap.size with h' | h'
 · exact h'
 · have:=h.cell;rw [Array.getElem?_eq_none h'] at this;cases this
theorem FC.keep (h:FC S b v1 v2 x w) (hs:w.heap.size ≤ w'.heap.size) (hk:∀ k,S k → k < w.heap.size → w'.heap[k]? = w.heap[k]?):FC S b v1 v2 x w' :=
 { hS:=up_S h.hS hs,hb:=h.hb,cell:=(hk b h.hb h.lt).trans h.cell,r1:=h.r1.keep fun k hv=>hk k (h.s1 k hv) (h.r1.lt k hv),r2:=ownsRow_keep h.r2 fun k hv=>hk k (h.s2 k hv) (h.r2.lt k hv).2,s1:=h.s1,s2:=h.s2 }
theorem FC.below (h:FC S b v1 v2 x w) (hb:Below w.heap.size w w'):FC S b v1 v2 x w':=h.keep hb.size fun k _ hk=>hb.block k hk
theorem FC.drew (h:FC S b v1 v2 x w):FC S b v1 v2 x w.drew:=⟨h.hS,h.hb,h.cell,h.r1,h.r2,h.s1,h.s2⟩
theorem FC.c0 (h:FC S b v1 v2 x w):w.cell? ⟨b,0,none⟩ = some v1:=cell_of h.cell
theorem FC.c1 (h:FC S b v1 v2 x w):w.cell? ⟨b,1,none⟩ = some v2:=cell_of h.cell
theorem FC.c2 (h:FC S b v1 v2 x w):w.cell? ⟨b,2,none⟩ = some (intV x.size):=cell_of h.cell
theorem FC.c3 (h:FC S b v1 v2 x w):w.cell? ⟨b,3,none⟩ = some (intV x.idle):=cell_of h.cell
theorem FC.fz (h:FC S b v1 v2 x w) (o:Nat):w.frozen? ⟨b,o,none⟩ = false:=fz_of h.cell o
theorem FC.grown_cell (h:FC S b v1 v2 x w) {row:Option Nat} (hg:w.grownBy w' row) (hr:row ≠ some b):w'.heap[b]? = some (.cells #[v1,v2,intV x.size,intV x.idle] 142 (0,0)) :=
 (hg.block b h.lt (fun e=>hr e.symm)).trans h.cell
/-- The idle rest's length is another. -/
theorem FC.setI (h:FC S b v1 v2 x w) (n:Nat):FC S b v1 v2 { x with idle:=n } (w.setCell ⟨b,3,none⟩ (intV n)):=by
 have ho:OnlyB b w (w.setCell ⟨b,3,none⟩ (intV n)):=(OnlyB.refl b w).setCell 3 _
 exact { hS:=up_S h.hS (Nat.le_of_eq ho.size.symm),hb:=h.hb,cell:=set_at (o:=3) (v:=intV n) h.cell,r1:=h.r1.keep fun k hv=>ho.rest k fun e=>h.r1.neb h.cell (by decide) (by rw [hv,e]),r2:=ownsRow_keep h.r2 fun k hv=>ho.rest k fun e=>ownsRow_neb h.r2 h.cell (by decide) (by rw [hv,e]),s1:=h.s1,s2:=h.s2 }
/-- The starts are others: a row that grew, or a new one. -/
theorem FC.setS (h:FC S b v1 v2 x w) {v':Value} {st':List Nat} {row:Option Nat} (hr:w'.ownsRow 0 3 1 v' st'.length (cellI st')) (hg:w.grownBy w' row) (hrow:∀ k,row = some k → k ≠ b) (hne:v1.ownBlock = none ∨ v1.ownBlock ≠ row) (hs:∀ k,v'.ownBlock = some k → S k) :
 FC S b v1 v' { x with st:=st' } (w'.setCell ⟨b,1,none⟩ v'):=by
 have hcb:=h.grown_cell hg (fun e=>hrow b e rfl)
 have ho:OnlyB b w' (w'.setCell ⟨b,1,none⟩ v'):=(OnlyB.refl b w').setCell 1 _
 have k1:=h.r1.kept hg hne
 exact { hS:=up_S (up_S h.hS hg.size) (Nat.le_of_eq ho.size.symm),hb:=h.hb,cell:=set_at (o:=1) (v:=v') hcb,r1:=k1.keep fun k hv=>ho.rest k fun e=>k1.neb hcb (by decide) (by rw [hv,e]),r2:=ownsRow_keep hr fun k hv=>ho.rest k fun e=>ownsRow_neb hr hcb (by decide) (by rw [hv,e]),s1:=h.s1,s2:=hs }
/-- The bytes are others. -/
theorem FC.setQ (h:FC S b v1 v2 x w) {v':Value} {q':L8} {row:Option Nat} (hr:VRow w' v' q') (hg:w.grownBy w' row) (hrow:∀ k,row = some k → k ≠ b) (hne:v2.ownBlock = none ∨ v2.ownBlock ≠ row) (hs:∀ k,v'.ownBlock = some k → S k) :
 FC S b v' v2 { x with q:=q' } (w'.setCell ⟨b,0,none⟩ v'):=by
 have hcb:=h.grown_cell hg (fun e=>hrow b e rfl)
 have ho:OnlyB b w' (w'.setCell ⟨b,0,none⟩ v'):=(OnlyB.refl b w').setCell 0 _
 have k2:=h.r2.kept hg hne
 exact { hS:=up_S (up_S h.hS hg.size) (Nat.le_of_eq ho.size.symm),hb:=h.hb,cell:=set_at (o:=0) (v:=v') hcb,r1:=hr.keep fun k hv=>ho.rest k fun e=>hr.neb hcb (by decide) (by rw [hv,e]),r2:=ownsRow_keep k2 fun k hv=>ho.rest k fun e=>ownsRow_neb k2 hcb (by decide) (by rw [hv,e]),s1:=hs,s2:=h.s2 }
theorem FC.b1 (h:FC S b v1 v2 x w):∀ k,v1.ownBlock = some k → k ≠ b:=fun k hk e=>h.r1.neb h.cell (by decide) (by rw [hk,e])
theorem FC.b2 (h:FC S b v1 v2 x w):∀ k,v2.ownBlock = some k → k ≠ b:=fun k hk e=>ownsRow_neb h.r2 h.cell (by decide) (by rw [hk,e])
theorem FC.ne12 (h:FC S b v1 v2 x w):v1.ownBlock = none ∨ v1.ownBlock ≠ v2.ownBlock:=h.r1.ne_row h.r2 (by decide)
theorem FC.ne21 (h:FC S b v1 v2 x w):v2.ownBlock = none ∨ v2.ownBlock ≠ v1.ownBlock:=by
 rcases h.ne12 with e | e
 · cases hq:v2.ownBlock with
   | none=>exact .inl rfl
   | some k=>exact .inr (by rw [e];intro hh;cases hh)
 · exact .inr fun hh=>e hh.symm
end

/-- A filler. -/
def FAt (S:Nat → Prop) (b:Nat) (x:FS) (w:World):Prop:=∃ v1 v2,FC S b v1 v2 x w
/-! ### none,New,Waiting -/
theorem none_calls {S:Nat → Prop} {b:Nat} {v1 v2:Value} {x:FS} {w:World} (h:FC S b v1 v2 x w) (hz:0 < x.size) :
 Calls Try.prog 65 #[.pointer (some ⟨b,0,none⟩)] w fun e w'=>e = .returned (.bool false) ∧ w = w':=by
 have c2:=h.c2
 unfold intV at c2
 have hne:(((x.size:Nat):Int) == 0) = false:=by simp;omega
 go_enter Try.func65,Try.ntmps65
 go_wp2
 go_ret
 exact ⟨rfl,rfl⟩
theorem wait_calls {S:Nat → Prop} {b:Nat} {v1 v2:Value} {x:FS} {w:World} (h:FC S b v1 v2 x w) (hz:0 < x.size) (hi:x.idle ≤ x.q.length) (hq:x.q.length ≤ 2 ^ 40) :
 Calls Try.prog 38 #[.pointer (some ⟨b,0,none⟩)] w fun e w'=>e = .returned (intV x.wait) ∧ Below w.heap.size w w' ∧ w'.heap = w.heap:=by
 have c0:=h.c0
 have c3:=h.c3
 unfold intV at c3
 obtain ⟨ao,cap,rfl⟩:=h.r1.slice
 have hw:intV x.wait = .int .i64 ((x.q.length:Nat) - (x.idle:Nat):Int):=by
  unfold intV FS.wait;congr 1;omega
 rw [hw]
 clear hw
 go_enter Try.func38,Try.ntmps38
 go_wp2_with (go_at_call 65;refine (none_calls h hz).mono ?_)
 rintro e W1 ⟨rfl,rfl⟩
 go_wp2
 go_region
 all_goals
  go_wp2
  go_ret
  exact ⟨rfl,⟨rfl,rfl,rfl,Nat.le_refl _,fun _ _=>rfl⟩,rfl⟩
end Go.Am.Tmf

namespace Go.Am.Tmf
open Go Go.Am Go.Am.Lib Go.Lib Go.Proofs Go.RowKit
open Go.Am.Own
set_option maxRecDepth 100000

theorem info3:∃ i0,Try.prog.info? 3 = some i0 ∧ i0.zero = some (.int .i64 0) ∧ i0.size = 1 ∧ i0.bytes = 8:=by
 have h:(Try.prog.info? 3).map (fun i=>(i.zero,i.size,i.bytes)) = some (some (.int .i64 0),1,8):=by kernel_rfl
 obtain ⟨i,h1,h2⟩:=Option.map_eq_some_iff.1 h
 simp only [Prod.mk.injEq] at h2
 exact ⟨i,h1,h2.1,h2.2.1,h2.2.2⟩
theorem one_mem {v u:Value} (hu:u ∈ [v]) (h:v.oneCell' = true):u.oneCell' = true:=by
 simp only [List.mem_cons,List.not_mem_nil,or_false] at hu;rw [hu];exact h
theorem cellI_snoc (l:List Nat) (n:Nat):cellI l ++ [.int .i64 ((n:Nat):Int)] = cellI (l ++ [n]):=by unfold cellI;rw [List.map_append];rfl
theorem at_S {S:Nat → Prop} {w:World} {v:Value} {g H:Nat} (hS:∀ k,w.heap.size ≤ k → S k) (hs:∀ k,v.ownBlock = some k → S k) (hH:w.heap.size ≤ H) (h:v.ownBlock = some g ∨ g = H) {n cap:Nat}:∀ k,(Value.slice (some ⟨g,0,none⟩) n cap).ownBlock = some k → S k:=by
 intro k hk
 have hk:g = k:=by injection hk
 subst hk
 rcases h with e | e
 · exact hs _ e
 · exact hS _ (by omega)
set_option maxHeartbeats 1600000 in
theorem add_calls {S:Nat → Prop} {b:Nat} {v1 v2:Value} {x:FS} {w:World} (h:FC S b v1 v2 x w) (p:ByteArray) (hq:x.q.length + p.size ≤ 2 ^ 40) (hst:x.st.length ≤ 2 ^ 40) :
 Calls Try.prog 67 #[.pointer (some ⟨b,0,none⟩),.string p] w fun e w'=>e = .returned (.tuple #[]) ∧ FAt S b (x.add p.data.toList) w' ∧ FrS S w w':=by
 obtain ⟨i0,hi,hz0,hz1,hz2⟩:=info3
 obtain ⟨ao1,cap1,rfl⟩:=h.r1.slice
 obtain ⟨ao2,cap2,rfl⟩:=ownsRow_slice h.r2
 have c0:=h.c0
 have c1:=h.c1
 have f1:=h.fz 1
 have h6:FC S b (.slice ao1 x.q.length cap1) (.slice ao2 x.st.length cap2) x (w.alloc (.cells #[.int .i64 ((x.q.length:Nat):Int)] 3)):=h.below ((Below.refl _ w).alloc (Nat.le_refl _) _)
 have h7:=h6.drew
 have d1:=h7.c1
 have b7:FrS S w ((w.alloc (.cells #[.int .i64 ((x.q.length:Nat):Int)] 3)).drew):=((FrS.refl S w).alloc h.hS _).drew
 go_enter Try.func67,Try.ntmps67
 go_wp2
 go_region_law ((refine step_append_lies _ (by rfl) _ _ _ (by rfl) 0 3 i0 (.int .i64 0) 1 8 Try.underlying43 hi hz0 hz1 hz2 rfl (by decide) (.slice ao2 x.st.length cap2) x.st.length (cellI x.st) (by rfl) h7.r2 ⟨w.heap.size,0,none⟩ 1 1 [.int .i64 ((x.q.length:Nat):Int)] (by rfl) (by rfl) (cell_one w 3 _) (by intro u hu;exact one_mem hu rfl) (by decide) (by unfold maxLen;omega) (by omega) (Nat.zero_le _) (w.heap.size + 1) (by simp) ?_;intro g9 cap9 w9 hown9 hgrow9 hat9 hlt9;have hb9:=h7.grown_cell hgrow9 (fun e=>h7.b2 b e rfl);have f9:=fz_of hb9 1;have g1:w9.cell? ⟨b,1,none⟩ = some (.slice ao2 x.st.length cap2):=cell_of hb9))
 all_goals (
  rw [cellI_snoc] at hown9
  have hown9':w9.ownsRow 0 3 1 (.slice (some ⟨g9,0,none⟩) (x.st.length + 1) cap9) (x.st ++ [x.q.length]).length (cellI (x.st ++ [x.q.length])):=by
   rw [List.length_append];exact hown9
  have h9:=h7.setS hown9' hgrow9 (fun k hk=>h7.b2 k hk) h7.ne12 (at_S h.hS h.s2 (Nat.le_succ _) hat9)
  have b9:FrS S w (w9.setCell ⟨b,1,none⟩ (.slice (some ⟨g9,0,none⟩) (x.st.length + 1) cap9)):=(b7.grown hgrow9 h7.hS h7.s2).trans (((OnlyB.refl b w9).setCell 1 _).fr h.hb)
  obtain ⟨W,hW⟩:∃ W,w9.setCell ⟨b,1,none⟩ (.slice (some ⟨g9,0,none⟩) (x.st.length + 1) cap9) = W:=⟨_,rfl⟩
  rw [hW] at h9 b9
  have e0:=h9.c0
  clear hown9 hown9' hgrow9 hat9 hlt9 hb9 f9 g1 h7 h6 b7 d1 c0 c1 f1 h
  go_wp2_with (at_builtin;refine wpList_append_view rfl _ _ 107 9 rfl Try.underlying107 rfl _ _ rfl h9.r1 p rfl ?_ ?_)
  · omega
  · intro v' w2 hv' hgrow' hat'
    have hc2:=h9.grown_cell hgrow' (fun e=>h9.b1 b e rfl)
    have f0:=fz_of hc2 0
    have g0:w2.cell? ⟨b,0,none⟩ = some (.slice ao1 x.q.length cap1):=cell_of hc2
    have h10:=h9.setQ hv' hgrow' (fun k hk=>h9.b1 k hk) h9.ne21 (in_S h9.hS h9.s1 hat')
    have b10:FrS S w (w2.setCell ⟨b,0,none⟩ v'):=(b9.grown hgrow' h9.hS h9.s1).trans (((OnlyB.refl b w2).setCell 0 _).fr h9.hb)
    obtain ⟨aoN,capN,rfl⟩:=hv'.slice
    obtain ⟨N,hN⟩:∃ N,(x.q ++ p.data.toList).length = N:=⟨_,rfl⟩
    rw [hN] at h10 b10 ⊢
    clear hgrow' hat' hc2 hN
    go_wp2
    go_end0
    exact ⟨rfl,⟨_,_,h10⟩,b10⟩)
end Go.Am.Tmf

namespace Go.Am.Tmf
open Go Go.Am Go.Am.Lib Go.Lib Go.Proofs Go.RowKit
open Go.Am.Own
set_option maxRecDepth 100000

def iOf:Value → Nat
 | .int _ n=>n.toNat
 | _=>0
/-- The loop over the starts: those before i have been looked at. -/
structure CutI (S:Nat → Prop) (b:Nat) (v1 v2 vh:Value) (x:FS) (hd:L8) (n:Nat) (W2:World) (i:Nat) (lv:Value) (wr:World):Prop where
 f:FC S b v1 v2 x wr
 h:VRow wr vh hd
 hb:vh.ownBlock = v1.ownBlock
 own:wr.ownsRow 0 3 1 lv (cutS n (x.st.take i)).length (cellI (cutS n (x.st.take i)))
 fr:FrS S W2 wr
 s:∀ k,lv.ownBlock = some k → S k
 dis:v2.ownBlock = none ∨ v2.ownBlock ≠ lv.ownBlock
theorem cutS_len (n:Nat) (l:List Nat):(cutS n l).length ≤ l.length:=by
 unfold cutS;rw [List.length_map];exact List.length_filter_le _ _
theorem cutS_take (n:Nat) {l:List Nat} {i:Nat} (h:i < l.length):cutS n (l.take (i + 1)) = cutS n (l.take i) ++ (if n ≤ l[i] then [l[i] - n] else []):=by
 rw [List.take_succ_eq_append_getElem h,cutS_snoc]
theorem start_at {w:World} {B:Nat} {ao:Option Addr} {cap:Nat} {l:List Nat} (h:w.ownsRow B 3 1 (.slice ao l.length cap) l.length (cellI l)) {i:Nat} (hi:i < l.length) :
 ∃ g,ao = some ⟨g,0,none⟩ ∧ w.cell? ⟨g,i,none⟩ = some (.int .i64 ((l[i]:Nat):Int)):=by
 obtain ⟨_,g,rfl⟩:=ownsRow_base h (by omega)
 refine ⟨g,rfl,?_⟩
 have hc:=h.cells (g:=g) rfl i (.int .i64 ((l[i]:Nat):Int)) (by
  unfold cellI;rw [List.getElem?_map,List.getElem?_eq_getElem hi];rfl)
 rw [Addr.add_lit,Nat.zero_add] at hc
 exact hc
/-- One more start is kept. -/
theorem CutI.more {S:Nat → Prop} {b:Nat} {v1 v2 vh:Value} {x:FS} {hd:L8} {n:Nat} {W2:World} {i:Nat} {lv:Value} {wr:World} (h:CutI S b v1 v2 vh x hd n W2 i lv wr) (hi:i < x.st.length) (hge:n ≤ x.st[i]) {o:Obj} {v':Value} {w':World}
 (hown:w'.ownsRow 0 3 1 v' ((cutS n (x.st.take i)).length + 1) (cellI (cutS n (x.st.take i)) ++ [.int .i64 ((x.st[i] - n:Nat):Int)])) (hg:(wr.alloc o).grownBy w' lv.ownBlock) (hw:v'.ownBlock = lv.ownBlock ∨ v'.ownBlock = some (wr.alloc o).heap.size) :
 CutI S b v1 v2 vh x hd n W2 (i + 1) v' w':=by
 have hs:(wr.alloc o).heap.size = wr.heap.size + 1:=Array.size_push _
 have hlt:∀ k,S k → k < wr.heap.size → k ≠ wr.heap.size:=fun k _ hk e=>by omega
 have ha:∀ k,k < wr.heap.size → (wr.alloc o).heap[k]? = wr.heap[k]?:=fun k hk=>(World.grownBy_alloc wr o none).block k hk (by simp)
 have hk:∀ k,k < wr.heap.size → some k ≠ lv.ownBlock → w'.heap[k]? = wr.heap[k]?:=fun k hk hne=>(hg.block k (by omega) hne).trans (ha k hk)
 have hsz:wr.heap.size ≤ w'.heap.size:=by have:=hg.size;omega
 have n1:∀ k,v1.ownBlock = some k → some k ≠ lv.ownBlock:=fun k hv e=>by
  rcases h.f.r1.ne_row h.own (by decide) with q | q
  · rw [q] at hv;cases hv
  · exact q (hv.trans e)
 refine { f:=?_,h:=?_,hb:=h.hb,own:=?_,fr:=?_,s:=?_,dis:=?_ }
 · exact { hS:=up_S h.f.hS hsz,hb:=h.f.hb,cell:=(hk b h.f.lt (fun e=>ownsRow_neb h.own h.f.cell (by decide) e.symm)).trans h.f.cell,r1:=h.f.r1.keep fun k hv=>hk k (h.f.r1.lt k hv) (n1 k hv),r2:=ownsRow_keep h.f.r2 fun k hv=>hk k (h.f.r2.lt k hv).2 (fun e=>by
    rcases h.dis with q | q
    · rw [q] at hv;cases hv
    · exact q (hv.trans e)),s1:=h.f.s1,s2:=h.f.s2 }
 · exact h.h.keep fun k hv=>hk k (h.h.lt k hv) (n1 k (h.hb ▸ hv))
 · rw [cutS_take n hi,if_pos hge,List.length_append]
   rw [cellI_snoc] at hown
   exact hown
 · exact (h.fr.alloc h.f.hS o).grown hg (up_S h.f.hS (by omega)) h.s
 · exact in_S (up_S h.f.hS (by omega)) h.s hw
 · rcases hw with e | e
   · rw [e];exact h.dis
   · cases hq:v2.ownBlock with
     | none=>exact .inl rfl
     | some k =>
      refine .inr fun hh=>?_
      rw [e] at hh
      injection hh with hh
      have:=(h.f.r2.lt k hq).2
      omega
theorem CutI.less {S:Nat → Prop} {b:Nat} {v1 v2 vh:Value} {x:FS} {hd:L8} {n:Nat} {W2:World} {i:Nat} {lv:Value} {wr:World} (h:CutI S b v1 v2 vh x hd n W2 i lv wr) (hi:i < x.st.length) (hge:¬ n ≤ x.st[i]):CutI S b v1 v2 vh x hd n W2 (i + 1) lv wr :=
 { h with own:=by rw [cutS_take n hi,if_neg hge,List.append_nil];exact h.own }
set_option maxHeartbeats 3200000 in
theorem cut_calls {S:Nat → Prop} {b:Nat} {v1 v2:Value} {sz id:Nat} {q:L8} {st:List Nat} {w:World} (h:FC S b v1 v2 ⟨sz,q,st,id⟩ w) {n:Nat} (hn:n ≤ q.length) (h0:0 < n) (hq:q.length ≤ 2 ^ 40) (hst:st.length ≤ 2 ^ 40) (hsv:∀ a ∈ st,a ≤ 2 ^ 40) :
 Calls Try.prog 82 #[.pointer (some ⟨b,0,none⟩),.int .i64 (n:Nat)] w fun e w'=>∃ v,e = .returned v ∧ VRow w' v (q.take n) ∧ FAt S b ⟨sz,q.drop n,cutS n st,id⟩ w' ∧ FrS S w w':=by
 obtain ⟨i0,hi,hz0,hz1,hz2⟩:=info3
 obtain ⟨vh,rh,hvh,hbh⟩:=h.r1.head hn h0
 obtain ⟨vt,rt,hvt,hbt⟩:=h.r1.tail hn h0
 obtain ⟨ao1,cap1,rfl⟩:=h.r1.slice
 obtain ⟨ao2,cap2,rfl⟩:=ownsRow_slice h.r2
 have c0:=h.c0
 have f0:=h.fz 0
 have h2:=h.setQ (w':=w) (row:=none) hvt ⟨rfl,rfl,rfl,Nat.le_refl _,fun _ _ _=>rfl⟩ (fun k hk=>by cases hk) (by cases (Value.slice ao2 st.length cap2).ownBlock;exact .inl rfl;exact .inr (by intro e;cases e)) (fun k hk=>h.s1 k (by rw [← hbt];exact hk))
 have ho:OnlyB b w (w.setCell ⟨b,0,none⟩ vt):=(OnlyB.refl b w).setCell 0 _
 have hvh2:VRow (w.setCell ⟨b,0,none⟩ vt) vh (q.take n):=hvh.keep fun k hk=>ho.rest k (h.b1 k (by rw [← hbh];exact hk))
 have fr2:FrS S w (w.setCell ⟨b,0,none⟩ vt):=ho.fr h.hb
 obtain ⟨aot,capt,rfl⟩:=hvt.slice
 obtain ⟨aoh,caph,rfl⟩:=hvh.slice
 obtain ⟨qt,hqt⟩:∃ q',q.drop n = q':=⟨_,rfl⟩
 obtain ⟨qh,hqh⟩:∃ q',q.take n = q':=⟨_,rfl⟩
 dsimp only at h2 hvh2 fr2 rt rh ho hbh hbt hvh hvt c0
 rw [hqt] at h2 hvh2 fr2 rt ho hbt ⊢
 rw [hqh] at hvh2 rh hbh ⊢
 obtain ⟨NT,hNT⟩:∃ N,qt.length = N:=⟨_,rfl⟩
 obtain ⟨NH,hNH⟩:∃ N,qh.length = N:=⟨_,rfl⟩
 rw [hNT] at h2 hvh2 fr2 rt ho hbt
 rw [hNH] at hvh2 rh hbh
 have hbb:(Value.slice aoh NH caph).ownBlock = (Value.slice aot NT capt).ownBlock:=hbh.trans hbt.symm
 clear hbh hbt hvh hvt hqh hNH hNT ho h hqt
 have e1:=h2.c1
 have hI:CutI S b (.slice aot NT capt) (.slice ao2 st.length cap2) (.slice aoh NH caph) ⟨sz,qt,st,id⟩ qh n (w.setCell ⟨b,0,none⟩ (.slice aot NT capt)) 0 (.slice none 0 0) (w.setCell ⟨b,0,none⟩ (.slice aot NT capt)) :=
  { f:=h2,h:=hvh2,hb:=hbb,own:=World.ownsRow_nil _ _ _ _,fr:=FrS.refl _ _,s:=fun k hk=>(by cases hk),dis:=by cases (Value.slice ao2 st.length cap2).ownBlock;exact .inl rfl;exact .inr (by intro e;cases e) }
 clear h2 hvh2 hbb
 go_enter Try.func82,Try.ntmps82
 go_wp2
 go_loopw [6,30] (fun lv iv wr=>∃ (i:Nat) (lw:Value),iv = .int .i64 (i:Nat) ∧ lw = lv ∧ i ≤ st.length ∧ CutI S b (.slice aot NT capt) (.slice ao2 st.length cap2) (.slice aoh NH caph) ⟨sz,qt,st,id⟩ qh n (w.setCell ⟨b,0,none⟩ (.slice aot NT capt)) i lw wr)
  (fun _ iv _=>st.length - iOf iv)
 case atStart=>exact ⟨0,_,rfl,rfl,Nat.zero_le _,hI⟩
 case round =>
  obtain ⟨i,lw,rfl,rfl,hil,hC⟩:=hrel
  rcases Nat.lt_or_ge i st.length with hlt | hge
  · have hlt':((i:Nat):Int) < ((st.length:Nat):Int):=by omega
    obtain ⟨g,rfl,k1⟩:=start_at hC.f.r2 hlt
    have hbnd:=hsv st[i] (List.getElem_mem hlt)
    obtain ⟨a,ha⟩:∃ a,st[i] = a:=⟨_,rfl⟩
    rw [ha] at k1 hbnd
    by_cases hna:n ≤ a
    · have hna':((n:Nat):Int) ≤ ((a:Nat):Int):=by omega
      have hsub:((a:Nat):Int) - ((n:Nat):Int) = ((a - n:Nat):Int):=by omega
      obtain ⟨L,hL⟩:∃ L,cutS n (st.take i) = L:=⟨_,rfl⟩
      have hLl:L.length ≤ st.length:=by rw [← hL];exact Nat.le_trans (cutS_len _ _) (List.length_take_le' _ _)
      have hown:=hC.own
      dsimp only at hown
      rw [hL] at hown
      obtain ⟨aol,capl,rfl⟩:=ownsRow_slice hown
      have hown1:=hown.alloc (.cells #[.int .i64 ((a - n:Nat):Int)] 3)
      have hmore:=fun (o:Obj) (v':Value) (w':World)=>hC.more (o:=o) (v':=v') (w':=w') hlt (by show n ≤ st[i];rw [ha];exact hna)
      dsimp only at hmore
      rw [ha,hL] at hmore
      have HM:=Lib.hid hmore
      have HC:=Lib.hid hC
      have HO:=Lib.hid hown1
      clear hmore hC hown hL
      go_wp2_with (at_builtin;refine wpList_append_at rfl _ _ 43 rfl 0 3 i0 (.int .i64 0) 1 8 Try.underlying43 hi hz0 hz1 hz2 rfl (by decide) _ _ _ rfl HO.out ⟨wr.heap.size,0,none⟩ 1 1 [.int .i64 ((a - n:Nat):Int)] rfl rfl (cell_one wr 3 _) (by intro u hu;exact one_mem hu rfl) (by decide) ?_ ?_ (Nat.zero_le _) ?_)
      · unfold maxLen;omega
      · omega
      · intro v' w2 hown' hgrow hwh
        have hC2:=HM.out _ _ _ hown' hgrow (by rw [alloc_size];exact hwh)
        obtain ⟨aoN,capN,rfl⟩:=ownsRow_slice hown'
        clear hown' hgrow hwh
        have HC2:=Lib.hid hC2
        clear hC2
        go_wp2
        exact ⟨⟨i + 1,_,by push_cast;rfl,rfl,hlt,HC2.out⟩,by show st.length - (i + 1) < st.length - i;omega⟩
    · have hna':¬ ((n:Nat):Int) ≤ ((a:Nat):Int):=by omega
      go_wp2
      exact ⟨⟨i + 1,lw,by push_cast;rfl,rfl,hlt,hC.less hlt (by show ¬ n ≤ st[i];rw [ha];exact hna)⟩,by show st.length - (i + 1) < st.length - i;omega⟩
  · have hge':¬ ((i:Nat):Int) < ((st.length:Nat):Int):=by omega
    obtain rfl:i = st.length:=by omega
    have hown:=hC.own
    dsimp only at hown
    rw [List.take_length] at hown
    have h3:=hC.f.setS (w':=wr) (row:=none) hown ⟨rfl,rfl,rfl,Nat.le_refl _,fun _ _ _=>rfl⟩ (fun k hk=>by cases hk) (by cases (Value.slice aot NT capt).ownBlock;exact .inl rfl;exact .inr (by intro e;cases e)) hC.s
    have d1:=hC.f.c1
    have f1:=hC.f.fz 1
    have ho3:OnlyB b wr (wr.setCell ⟨b,1,none⟩ lw):=(OnlyB.refl b wr).setCell 1 _
    have hh3:VRow (wr.setCell ⟨b,1,none⟩ lw) (.slice aoh NH caph) qh:=hC.h.keep fun k hk=>ho3.rest k (hC.f.b1 k (by rw [← hC.hb];exact hk))
    have fr3:FrS S w (wr.setCell ⟨b,1,none⟩ lw):=(fr2.trans hC.fr).trans (ho3.fr hC.f.hb)
    obtain ⟨aol,capl,rfl⟩:=ownsRow_slice hown
    obtain ⟨L,hL⟩:∃ L,cutS n st = L:=⟨_,rfl⟩
    rw [hL] at h3 hh3 fr3 hown ⊢
    clear hown hC ho3 hI
    go_wp2
    go_ret
    exact ⟨_,rfl,hh3,⟨_,_,h3⟩,fr3⟩
end Go.Am.Tmf
