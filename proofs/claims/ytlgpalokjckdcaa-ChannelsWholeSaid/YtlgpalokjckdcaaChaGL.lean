/-
  Channels: shown; arrivals are compared. Own work.
-/
import Derived.Test.YtlgpalokjckdcaaChaGK
import Derived.Test.YtlgpalokjckdcaaChaGJ
namespace Go.Am.Cha
open Go Go.Am Go.Am.Lib Go.Lib Go.Proofs Go.RowKit
open Go.Am.Own
set_option maxRecDepth 100000
attribute [local go_sem] Oper.semAt_some

def wantC:Array Value:=#[.int .i64 0,.int .i64 0,.int .i64 1,.int .i64 0,.int .i64 1,.int .i64 7]
theorem wantC_at {i:Nat} (h:i < 6):wantC[i]? = some (.int .i64 ((wantF i:Nat):Int)):=by
 match i,h with
 | 0,_ | 1,_ | 2,_ | 3,_ | 4,_ | 5,_=>rfl
theorem pkF_at {i:Nat} (h:i < 6):((((pkF i:Nat):Int) == 1) = false ∧ (((i:Nat):Int) == 3) = false ∧ (((i:Nat):Int) == 4) = false) ∨ ((((pkF i:Nat):Int) == 1) = true ∧ (((i:Nat):Int) == 3) = true) ∨ ((((pkF i:Nat):Int) == 1) = true ∧ (((i:Nat):Int) == 3) = false ∧ (((i:Nat):Int) == 4) = true):=by
 match i,h with
 | 0,_ | 1,_ | 2,_ | 3,_ | 4,_ | 5,_=>decide
set_option maxHeartbeats 6400000 in
theorem shown_calls (w:World):Calls Try.prog 8 #[] w fun e w'=>e = .returned (.bool true) ∧ Below w.heap.size w w':=by
 have cE:=sh_even w
 go_enter Try.func8,Try.ntmps8
 go_wp2_with (go_at_call 28;refine cE.mono ?_;clear cE;rintro e W1 ⟨rfl,b1⟩)
 refine (sh_new _).mono ?_
 rintro e W2 ⟨mb,g,cap,bk,rfl,hm,b2⟩
 have b12:=(b1.alloc b1.size (.cells #[.int .i64 0,.int .i64 0,.int .i64 0,.int .i64 0,.int .i64 0,.int .i64 0,.int .i64 0,.int .i64 0] 38)).alloc (Nat.le_trans b1.size (by rw [alloc_size];omega)) (.cells #[.int .i64 2,.int .i64 1,.int .i64 1,.int .i64 1,.int .i64 1,.int .i64 1,.int .i64 1,.int .i64 1] 38)
 go_wp2_with (go_at_call 9;refine (sh_dem W2).mono ?_;rintro e W3 ⟨rfl,hd,b3⟩)
 have hX:=Dx.make hm b2 b12.size b12 hd b3
 obtain ⟨S1,hS1⟩:∃ S:Nat → Prop,ShS (fun k=>((W1.alloc (.cells #[.int .i64 0,.int .i64 0,.int .i64 0,.int .i64 0,.int .i64 0,.int .i64 0,.int .i64 0,.int .i64 0] 38)).alloc (.cells #[.int .i64 2,.int .i64 1,.int .i64 1,.int .i64 1,.int .i64 1,.int .i64 1,.int .i64 1,.int .i64 1] 38)).heap.size ≤ k) W2.heap.size W3.heap.size = S:=⟨_,rfl⟩
 rw [hS1] at hX
 obtain ⟨sb,hsb⟩:∃ s,W2.heap.size = s:=⟨_,rfl⟩
 rw [hsb] at hX ⊢
 clear hS1 hm b2 b12 hd b3 b1 hsb
 go_wp2_with (go_at_call 20;refine (sh_z70 W3).mono ?_;rintro e W4 ⟨rfl,b4⟩)
 replace hX:=hX.below b4
 clear b4
 go_wp2_with (go_at_call 19;refine (sh_add0 hX).mono ?_;clear hX;rintro e W5 ⟨rfl,hX⟩)
 refine (sh_z40 W5).mono ?_
 rintro e W6 ⟨rfl,b6⟩
 replace hX:=hX.below b6
 clear b6
 go_wp2_with (go_at_call 19;refine (sh_add1 hX).mono ?_;clear hX;rintro e W7 ⟨rfl,hX⟩)
 refine (sh_z40 W7).mono ?_
 rintro e W8 ⟨rfl,b8⟩
 replace hX:=hX.below b8
 clear b8
 go_wp2_with (go_at_call 19;refine (sh_add8 hX).mono ?_;clear hX;rintro e W9 ⟨rfl,hX⟩)
 have hT:(W9.alloc (.cells #[.int .i64 0,.int .i64 0,.int .i64 1,.int .i64 0,.int .i64 1,.int .i64 7] 78)).heap[W9.heap.size]? = some (.cells wantC 78 (0,0)):=heap_alloc_new W9 _
 have hX0:=hX.fresh (.cells #[.int .i64 0,.int .i64 0,.int .i64 1,.int .i64 0,.int .i64 1,.int .i64 7] 78)
 have hnt:¬ ShS S1 W9.heap.size (W9.heap.size + 1) W9.heap.size:=by
  rintro (⟨-,a⟩ | a) <;> omega
 have hns:W9.heap.size ≠ sb:=fun e=>by have:=(Array.getElem?_eq_some_iff.1 hX.dm).1;omega
 obtain ⟨S2,hS2⟩:∃ S:Nat → Prop,ShS S1 W9.heap.size (W9.heap.size + 1) = S:=⟨_,rfl⟩
 rw [hS2] at hX0 hnt
 obtain ⟨V0,hV0⟩:∃ V,W9.alloc (.cells #[.int .i64 0,.int .i64 0,.int .i64 1,.int .i64 0,.int .i64 1,.int .i64 7] 78) = V:=⟨_,rfl⟩
 rw [hV0] at hT hX0
 have HX:=Lib.hid (And.intro hX0 hT)
 clear hX hX0 hT hS2
 go_wp2
 go_loopw [8] (fun iv wr=>∃ i:Nat,iv = .int .i64 (i:Nat) ∧ i ≤ 6 ∧ Dx S2 w sb mb g cap bk (msF i) (dsF i) wr ∧ wr.heap[W9.heap.size]? = some (.cells wantC 78 (0,0))) (fun iv _=>6 - iOf iv)
 case atStart =>
  rw [hV0]
  exact ⟨0,rfl,Nat.zero_le _,HX.out.1,HX.out.2⟩
 case round =>
  clear HX hV0
  obtain ⟨i,rfl,hi,hX,hT⟩:=hrel
  obtain ⟨tb,htb⟩:∃ t,W9.heap.size = t:=⟨_,rfl⟩
  rw [htb] at hT hnt hns ⊢
  clear htb
  rcases Nat.lt_or_ge i 6 with hlt | hge
  · have hlt':((i:Nat):Int) < 6:=by omega
    have hmeas:6 - (i + 1) < 6 - i:=by omega
    have htl:=(Array.getElem?_eq_some_iff.1 hT).1
    go_wp2_with (go_at_call 21;refine (hX.next hlt).mono ?_;clear hX;rintro e Wa ⟨rfl,hX,ka⟩)
    replace hT:=(ka tb htl hnt hns).trans hT
    clear ka
    replace htl:=(Array.getElem?_eq_some_iff.1 hT).1
    go_wp2_with (go_at_call 11;refine (hX.feed hlt).mono ?_;clear hX;rintro e Wb ⟨db,oo,oc,rfl,hX,kb⟩)
    replace hT:=(kb tb htl hnt hns).trans hT
    clear kb htl
    obtain ⟨xc,hxc⟩:∃ x,wantF i = x:=⟨_,rfl⟩
    obtain ⟨xp,hxp⟩:∃ x,pkF i = x:=⟨_,rfl⟩
    have hcs:=pkF_at hlt
    have hw:=wantC_at hlt
    rw [hxp] at hcs ⊢
    rw [hxc] at hw ⊢
    have hbn:Below Wb.heap.size Wb (Wb.alloc (.cells #[.int .i64 ((xc:Nat):Int),.bool db,.int .i64 0,.int .i64 0,.slice oo xp oc,.int .i64 0,.int .u32 9] 33)):=(Below.refl _ Wb).alloc (Nat.le_refl _) _
    have hT2:=(hbn.block tb (Array.getElem?_eq_some_iff.1 hT).1).trans hT
    have hX2:=hX.below hbn
    have hct:(Wb.alloc (.cells #[.int .i64 ((xc:Nat):Int),.bool db,.int .i64 0,.int .i64 0,.slice oo xp oc,.int .i64 0,.int .u32 9] 33)).cell? ⟨tb,i,none⟩ = some (.int .i64 ((xc:Nat):Int)):=(cell_of hT2).trans hw
    have HR:=Lib.hid (And.intro hX2 hT2)
    clear hX hT hT2 hX2 hbn hw hxc hxp
    rcases hcs with ⟨c1,c2,c3⟩ | ⟨c1,c2⟩ | ⟨c1,c2,c3⟩
    all_goals
     go_wp2
     go_region
     go_wp2
     exact ⟨⟨i + 1,by push_cast;rfl,hlt,HR.out.1.drew,HR.out.2⟩,hmeas⟩
  · obtain rfl:i = 6:=by omega
    clear hge hi hT
    have hY:Dx S2 w sb mb g cap bk ms6 (dsF 6) wr:=hX
    go_wp2_with (go_at_call 18;refine (sh_wait hY).mono ?_;rintro e Wc ⟨rfl,bc⟩)
    go_ret
    exact ⟨rfl,hX.fr.trans (bc.mono hX.fr.size)⟩
end Go.Am.Cha

namespace Go.Am.Cha
open Go Go.Am Go.Am.Lib Go.Lib Go.Proofs Go.RowKit
open Go.Am.Own
set_option maxRecDepth 100000
attribute [local go_sem] Oper.semAt_some

/-- An element of a list of strings in memory. -/
theorem srow_at {w:World} {B:Nat} {ao:Option Addr} {n cap:Nat} {L:List L8} (h:w.ownsRow B 9 1 (.slice ao n cap) L.length (cellS L)) {i:Nat} (hi:i < n) (hl:L.length = n) :
 ∃ g,ao = some ⟨g,0,none⟩ ∧ w.cell? ⟨g,i,none⟩ = some (.string (strB (L.getD i []))):=by
 obtain ⟨_,g,rfl⟩:=ownsRow_base h (by omega)
 refine ⟨g,rfl,?_⟩
 have hc:=h.cells (g:=g) rfl i (.string (strB (L.getD i []))) (by
  unfold cellS
  rw [List.getElem?_map,List.getD_eq_getElem?_getD,List.getElem?_eq_getElem (by omega)];rfl)
 have ha:((⟨g,0,none⟩:Addr).add i) = ⟨g,i,none⟩:=by simp [Addr.add];intro h;exact h.symm
 rw [ha] at hc
 exact hc
set_option maxHeartbeats 1600000 in
theorem sames_calls {w:World} {va vb:Value} {L:List L8} (ha:w.ownsRow 0 9 1 va L.length (cellS L)) (hb:w.ownsRow 0 9 1 vb L.length (cellS L)) (hL:L.length < 2 ^ 40) :
 Calls Try.prog 16 #[va,vb] w fun e w'=>e = .returned (.bool true) ∧ Below w.heap.size w w':=by
 obtain ⟨ao,ca,rfl⟩:=ownsRow_slice ha
 obtain ⟨bo,cb,rfl⟩:=ownsRow_slice hb
 obtain ⟨n,hn⟩:∃ n,L.length = n:=⟨_,rfl⟩
 rw [hn]
 have hnn:((((n:Nat):Int) != ((n:Nat):Int))) = false:=by simp
 go_enter Try.func16,Try.ntmps16
 go_wp2
 go_loopw [5] (fun iv wr=>∃ (i:Nat),iv = .int .i64 (i:Nat) ∧ i ≤ n ∧ Below w.heap.size w wr)
  (fun iv _=>n - iOf iv)
 case atStart=>exact ⟨0,rfl,Nat.zero_le _,Below.refl _ _⟩
 case round =>
  obtain ⟨i,rfl,hi,hH⟩:=hrel
  rcases Nat.lt_or_ge i n with hlt | hge
  · have hlt':((i:Nat):Int) < ((n:Nat):Int):=by omega
    rw [hn] at ha hb
    obtain ⟨g1,rfl,k1⟩:=srow_at (by rw [hn];exact ha) hlt hn
    obtain ⟨g2,rfl,k2⟩:=srow_at (by rw [hn];exact hb) hlt hn
    have k1':=(World.cell?_of_block (hH.block g1 (World.block_lt_of_cell? w _ k1))).trans k1
    have k2':=(World.cell?_of_block (hH.block g2 (World.block_lt_of_cell? w _ k2))).trans k2
    clear ha hb
    obtain ⟨S,hS⟩:∃ S,strB (L.getD i []) = S:=⟨_,rfl⟩
    rw [hS] at k1 k2 k1' k2'
    go_wp2
    go_region
    go_wp2
    exact ⟨⟨i + 1,by push_cast;rfl,hlt,hH.trans ((Below.refl _ _).drew.mono hH.size)⟩,by show n - (i + 1) < n - i;omega⟩
  · have hge':¬ ((i:Nat):Int) < ((n:Nat):Int):=by omega
    go_wp2
    go_ret
    exact ⟨rfl,hH⟩
end Go.Am.Cha
