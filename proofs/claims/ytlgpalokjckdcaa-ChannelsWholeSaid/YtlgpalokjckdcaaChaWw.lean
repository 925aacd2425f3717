/-
 Channels: ChannelsWhole where no mux is made, or too much is asked. Own work; printed by gen/mkww.py.
-/
import Derived.Test.YtlgpalokjckdcaaChaWt
import Derived.Test.YtlgpalokjckdcaaChaGL
import Derived.Test.YtlgpalokjckdcaaChaGF
namespace Go.Am.Cha
open Go Go.Am Go.Am.Lib Go.Lib Go.Proofs Go.RowKit
open Go.Am.Own
set_option maxRecDepth 100000

variable {w0:World}
set_option maxHeartbeats 3200000 in
theorem tran_no (c z:Int) (P Q:Nat → Int) (ao:Option Addr) (n cap:Nat) (ho:¬ okNew c z P Q) :
 Calls Try.prog 14 #[.agg (setC c z P Q),.slice ao n cap] w0 fun e w'=>e = .returned (.agg #[.slice none 0 0,.slice none 0 0,.slice none 0 0,.slice none 0 0,.slice none 0 0,.slice none 0 0,.bool false]) ∧ Below w0.heap.size w0 w':=by
 have hb0:=(Below.refl _ w0).alloc (Nat.le_refl _) (.cells (setC c z P Q) 40)
 have hx0:=heap_alloc_new w0 (.cells (setC c z P Q) 40)
 obtain ⟨W0,hW0⟩:∃ W,w0.alloc (.cells (setC c z P Q) 40) = W:=⟨_,rfl⟩
 have hs0:W0.heap.size = w0.heap.size + 1:=by rw [← hW0];exact alloc_size w0 _
 rw [hW0] at hb0 hx0
 have hb1:=(Below.refl _ W0).alloc (Nat.le_refl _) (.cells #[.slice none 0 0,.slice none 0 0,.slice none 0 0,.slice none 0 0,.slice none 0 0,.slice none 0 0,.bool false] 45)
 have hx1:=(hb1.block _ (Array.getElem?_eq_some_iff.1 hx0).1).trans hx0
 have hk0:=heap_alloc_new W0 (.cells #[.slice none 0 0,.slice none 0 0,.slice none 0 0,.slice none 0 0,.slice none 0 0,.slice none 0 0,.bool false] 45)
 obtain ⟨W1,hW1⟩:∃ W,W0.alloc (.cells #[.slice none 0 0,.slice none 0 0,.slice none 0 0,.slice none 0 0,.slice none 0 0,.slice none 0 0,.bool false] 45) = W:=⟨_,rfl⟩
 have hs1:W1.heap.size = w0.heap.size + 2:=by rw [← hW1,alloc_size,hs0]
 rw [hW1] at hb1 hx1 hk0
 rw [hs0] at hk0
 have hB01:Below w0.heap.size w0 W1:=hb0.trans (hb1.mono hb0.size)
 have HB01:=Lib.hid (And.intro hB01 (And.intro hs1 hk0))
 have cM:=(newmux_at c z P Q W1).mono fun e w' hh=>hh.2 ho
 unfold arr8 at cM
 have x0:W1.cell? ⟨w0.heap.size,0,none⟩ = some (.int .i64 c):=cell_of hx1
 have x1:W1.cell? ⟨w0.heap.size,1,none⟩ = some (.int .i64 z):=cell_of hx1
 have x2:W1.cell? ⟨w0.heap.size,2,none⟩ = some (.int .i64 (P 0)):=cell_of hx1
 have x3:W1.cell? ⟨w0.heap.size,3,none⟩ = some (.int .i64 (P 1)):=cell_of hx1
 have x4:W1.cell? ⟨w0.heap.size,4,none⟩ = some (.int .i64 (P 2)):=cell_of hx1
 have x5:W1.cell? ⟨w0.heap.size,5,none⟩ = some (.int .i64 (P 3)):=cell_of hx1
 have x6:W1.cell? ⟨w0.heap.size,6,none⟩ = some (.int .i64 (P 4)):=cell_of hx1
 have x7:W1.cell? ⟨w0.heap.size,7,none⟩ = some (.int .i64 (P 5)):=cell_of hx1
 have x8:W1.cell? ⟨w0.heap.size,8,none⟩ = some (.int .i64 (P 6)):=cell_of hx1
 have x9:W1.cell? ⟨w0.heap.size,9,none⟩ = some (.int .i64 (P 7)):=cell_of hx1
 have x10:W1.cell? ⟨w0.heap.size,10,none⟩ = some (.int .i64 (Q 0)):=cell_of hx1
 have x11:W1.cell? ⟨w0.heap.size,11,none⟩ = some (.int .i64 (Q 1)):=cell_of hx1
 have x12:W1.cell? ⟨w0.heap.size,12,none⟩ = some (.int .i64 (Q 2)):=cell_of hx1
 have x13:W1.cell? ⟨w0.heap.size,13,none⟩ = some (.int .i64 (Q 3)):=cell_of hx1
 have x14:W1.cell? ⟨w0.heap.size,14,none⟩ = some (.int .i64 (Q 4)):=cell_of hx1
 have x15:W1.cell? ⟨w0.heap.size,15,none⟩ = some (.int .i64 (Q 5)):=cell_of hx1
 have x16:W1.cell? ⟨w0.heap.size,16,none⟩ = some (.int .i64 (Q 6)):=cell_of hx1
 have x17:W1.cell? ⟨w0.heap.size,17,none⟩ = some (.int .i64 (Q 7)):=cell_of hx1
 clear hb0 hb1 hx0 hx1 hB01 hk0 hs1 ho
 go_enter Try.func14,Try.ntmps14
 go_wp2_with (go_at_call 15;refine cM.mono ?_;clear cM;rintro e W2 ⟨rfl,b2⟩;clear x0 x1 x2 x3 x4 x5 x6 x7 x8 x9 x10 x11 x12 x13 x14 x15 x16 x17;have hr:=(b2.block _ (Array.getElem?_eq_some_iff.1 HB01.out.2.2).1).trans HB01.out.2.2;have r0:W2.cell? ⟨w0.heap.size + 1,0,none⟩ = some (.slice none 0 0):=cell_of hr;have f0:=fz_of hr 0;have r1:W2.cell? ⟨w0.heap.size + 1,1,none⟩ = some (.slice none 0 0):=cell_of hr;have f1:=fz_of hr 1;have r2:W2.cell? ⟨w0.heap.size + 1,2,none⟩ = some (.slice none 0 0):=cell_of hr;have f2:=fz_of hr 2;have r3:W2.cell? ⟨w0.heap.size + 1,3,none⟩ = some (.slice none 0 0):=cell_of hr;have f3:=fz_of hr 3;have r4:W2.cell? ⟨w0.heap.size + 1,4,none⟩ = some (.slice none 0 0):=cell_of hr;have f4:=fz_of hr 4;have r5:W2.cell? ⟨w0.heap.size + 1,5,none⟩ = some (.slice none 0 0):=cell_of hr;have f5:=fz_of hr 5;have r6:W2.cell? ⟨w0.heap.size + 1,6,none⟩ = some (.bool false):=cell_of hr;have f6:=fz_of hr 6)
 refine bodyPost_ret (v:=.agg #[.slice none 0 0,.slice none 0 0,.slice none 0 0,.slice none 0 0,.slice none 0 0,.slice none 0 0,.bool false]) ?_ rfl ⟨rfl,?_⟩
 · simp [results,Try.results14,go_sem,r0,r1,r2,r3,r4,r5,r6]
 · have ho:=(((((((OnlyB.refl (w0.heap.size + 1) W2).setCell 0 (.slice none 0 0)).setCell 1 (.slice none 0 0)).setCell 2 (.slice none 0 0)).setCell 3 (.slice none 0 0)).setCell 4 (.slice none 0 0)).setCell 5 (.slice none 0 0)).setCell 6 (.bool false)
   have hB:=HB01.out.1.trans (b2.mono HB01.out.1.size)
   exact ⟨ho.os.trans hB.os,ho.tape.trans hB.tape,ho.output.trans hB.output,by rw [ho.size];exact hB.size,fun k hk=>(ho.rest k (by omega)).trans (hB.block k hk)⟩
set_option maxHeartbeats 3200000 in
theorem whole_long (c z:Int) (P Q:Nat → Int) (ao bo:Option Addr) (n cap m cap2:Nat) (hn:40 < n) :
 Calls Try.prog 4 #[.agg (setC c z P Q),.slice ao n cap,.slice bo m cap2] w0 fun e w'=>e = .returned (.bool true) ∧ Below w0.heap.size w0 w':=by
 have hn':(40:Int) < ((n:Nat):Int):=by omega
 have hb0:=(Below.refl _ w0).alloc (Nat.le_refl _) (.cells (setC c z P Q) 40)
 obtain ⟨W0,hW0⟩:∃ W,w0.alloc (.cells (setC c z P Q) 40) = W:=⟨_,rfl⟩
 rw [hW0] at hb0
 have hs:=shown_calls W0
 go_enter Try.func4,Try.ntmps4
 go_wp2_with (go_at_call 8;refine hs.mono ?_;clear hs;rintro e W1 ⟨rfl,b1⟩)
 go_ret
 exact ⟨rfl,hb0.trans (b1.mono hb0.size)⟩
set_option maxHeartbeats 6400000 in
theorem whole_no (c z:Int) (P Q:Nat → Int) (ao bo:Option Addr) (n cap m cap2:Nat) (hn:n ≤ 40) (ho:¬ okNew c z P Q) :
 Calls Try.prog 4 #[.agg (setC c z P Q),.slice ao n cap,.slice bo m cap2] w0 fun e w'=>e = .returned (.bool true) ∧ Below w0.heap.size w0 w':=by
 have hn':¬ (40:Int) < ((n:Nat):Int):=by omega
 have hb0:=(Below.refl _ w0).alloc (Nat.le_refl _) (.cells (setC c z P Q) 40)
 have hx0:=heap_alloc_new w0 (.cells (setC c z P Q) 40)
 obtain ⟨W0,hW0⟩:∃ W,w0.alloc (.cells (setC c z P Q) 40) = W:=⟨_,rfl⟩
 rw [hW0] at hb0 hx0
 have hs:=shown_calls W0
 have CT:=Lib.hid (fun w=>tran_no (w0:=w) c z P Q ao n cap ho)
 have CM:=Lib.hid (fun w=>(newmux_at c z P Q w).mono fun e w' hh=>hh.2 ho)
 clear ho
 go_enter Try.func4,Try.ntmps4
 go_wp2_with (first | (go_at_call 8;refine hs.mono ?_;clear hs;rintro e W1 ⟨rfl,b1⟩;have hx1:=(b1.block _ (Array.getElem?_eq_some_iff.1 hx0).1).trans hx0;have cT:=CT.out W1) | (refine wpList_load_row rfl 40 _ rfl w0.heap.size rfl 40 _ _ _ hx1 Try.underlying40 rfl (by kernel_rfl) ?_) | (go_at_call 14;refine cT.mono ?_;clear cT;rintro e W2 ⟨rfl,b2⟩;have hx2:=(b2.block _ (Array.getElem?_eq_some_iff.1 hx1).1).trans hx1;have b3:=(Below.refl _ W2).alloc (Nat.le_refl _) (.cells #[.slice none 0 0,.slice none 0 0,.slice none 0 0,.slice none 0 0,.slice none 0 0,.slice none 0 0,.bool false] 45);have hx3:=(b3.block _ (Array.getElem?_eq_some_iff.1 hx2).1).trans hx2;have y0:(W2.alloc (.cells #[.slice none 0 0,.slice none 0 0,.slice none 0 0,.slice none 0 0,.slice none 0 0,.slice none 0 0,.bool false] 45)).cell? ⟨w0.heap.size,0,none⟩ = some (.int .i64 c):=cell_of hx3;have y1:(W2.alloc (.cells #[.slice none 0 0,.slice none 0 0,.slice none 0 0,.slice none 0 0,.slice none 0 0,.slice none 0 0,.bool false] 45)).cell? ⟨w0.heap.size,1,none⟩ = some (.int .i64 z):=cell_of hx3;have y2:(W2.alloc (.cells #[.slice none 0 0,.slice none 0 0,.slice none 0 0,.slice none 0 0,.slice none 0 0,.slice none 0 0,.bool false] 45)).cell? ⟨w0.heap.size,2,none⟩ = some (.int .i64 (P 0)):=cell_of hx3;have y3:(W2.alloc (.cells #[.slice none 0 0,.slice none 0 0,.slice none 0 0,.slice none 0 0,.slice none 0 0,.slice none 0 0,.bool false] 45)).cell? ⟨w0.heap.size,3,none⟩ = some (.int .i64 (P 1)):=cell_of hx3;have y4:(W2.alloc (.cells #[.slice none 0 0,.slice none 0 0,.slice none 0 0,.slice none 0 0,.slice none 0 0,.slice none 0 0,.bool false] 45)).cell? ⟨w0.heap.size,4,none⟩ = some (.int .i64 (P 2)):=cell_of hx3;have y5:(W2.alloc (.cells #[.slice none 0 0,.slice none 0 0,.slice none 0 0,.slice none 0 0,.slice none 0 0,.slice none 0 0,.bool false] 45)).cell? ⟨w0.heap.size,5,none⟩ = some (.int .i64 (P 3)):=cell_of hx3;have y6:(W2.alloc (.cells #[.slice none 0 0,.slice none 0 0,.slice none 0 0,.slice none 0 0,.slice none 0 0,.slice none 0 0,.bool false] 45)).cell? ⟨w0.heap.size,6,none⟩ = some (.int .i64 (P 4)):=cell_of hx3;have y7:(W2.alloc (.cells #[.slice none 0 0,.slice none 0 0,.slice none 0 0,.slice none 0 0,.slice none 0 0,.slice none 0 0,.bool false] 45)).cell? ⟨w0.heap.size,7,none⟩ = some (.int .i64 (P 5)):=cell_of hx3;have y8:(W2.alloc (.cells #[.slice none 0 0,.slice none 0 0,.slice none 0 0,.slice none 0 0,.slice none 0 0,.slice none 0 0,.bool false] 45)).cell? ⟨w0.heap.size,8,none⟩ = some (.int .i64 (P 6)):=cell_of hx3;have y9:(W2.alloc (.cells #[.slice none 0 0,.slice none 0 0,.slice none 0 0,.slice none 0 0,.slice none 0 0,.slice none 0 0,.bool false] 45)).cell? ⟨w0.heap.size,9,none⟩ = some (.int .i64 (P 7)):=cell_of hx3;have y10:(W2.alloc (.cells #[.slice none 0 0,.slice none 0 0,.slice none 0 0,.slice none 0 0,.slice none 0 0,.slice none 0 0,.bool false] 45)).cell? ⟨w0.heap.size,10,none⟩ = some (.int .i64 (Q 0)):=cell_of hx3;have y11:(W2.alloc (.cells #[.slice none 0 0,.slice none 0 0,.slice none 0 0,.slice none 0 0,.slice none 0 0,.slice none 0 0,.bool false] 45)).cell? ⟨w0.heap.size,11,none⟩ = some (.int .i64 (Q 1)):=cell_of hx3;have y12:(W2.alloc (.cells #[.slice none 0 0,.slice none 0 0,.slice none 0 0,.slice none 0 0,.slice none 0 0,.slice none 0 0,.bool false] 45)).cell? ⟨w0.heap.size,12,none⟩ = some (.int .i64 (Q 2)):=cell_of hx3;have y13:(W2.alloc (.cells #[.slice none 0 0,.slice none 0 0,.slice none 0 0,.slice none 0 0,.slice none 0 0,.slice none 0 0,.bool false] 45)).cell? ⟨w0.heap.size,13,none⟩ = some (.int .i64 (Q 3)):=cell_of hx3;have y14:(W2.alloc (.cells #[.slice none 0 0,.slice none 0 0,.slice none 0 0,.slice none 0 0,.slice none 0 0,.slice none 0 0,.bool false] 45)).cell? ⟨w0.heap.size,14,none⟩ = some (.int .i64 (Q 4)):=cell_of hx3;have y15:(W2.alloc (.cells #[.slice none 0 0,.slice none 0 0,.slice none 0 0,.slice none 0 0,.slice none 0 0,.slice none 0 0,.bool false] 45)).cell? ⟨w0.heap.size,15,none⟩ = some (.int .i64 (Q 5)):=cell_of hx3;have y16:(W2.alloc (.cells #[.slice none 0 0,.slice none 0 0,.slice none 0 0,.slice none 0 0,.slice none 0 0,.slice none 0 0,.bool false] 45)).cell? ⟨w0.heap.size,16,none⟩ = some (.int .i64 (Q 6)):=cell_of hx3;have y17:(W2.alloc (.cells #[.slice none 0 0,.slice none 0 0,.slice none 0 0,.slice none 0 0,.slice none 0 0,.slice none 0 0,.bool false] 45)).cell? ⟨w0.heap.size,17,none⟩ = some (.int .i64 (Q 7)):=cell_of hx3))
 have cM:=CM.out (W2.alloc (.cells #[.slice none 0 0,.slice none 0 0,.slice none 0 0,.slice none 0 0,.slice none 0 0,.slice none 0 0,.bool false] 45))
 unfold arr8 at cM
 go_wp2_with (go_at_call 15;refine cM.mono ?_;clear cM;rintro e W4 ⟨rfl,b4⟩;clear y0 y1 y2 y3 y4 y5 y6 y7 y8 y9 y10 y11 y12 y13 y14 y15 y16 y17)
 go_ret
 refine ⟨rfl,?_⟩
 have e1:=hb0.trans (b1.mono hb0.size)
 have e2:=e1.trans (b2.mono e1.size)
 have e3:=e2.trans (b3.mono e2.size)
 exact e3.trans (b4.mono e3.size)
end Go.Am.Cha
