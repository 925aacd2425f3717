/-
  Channels: what the law sends, with its lists. Own work.
-/
import Derived.Test.YtlgpalokjckdcaaChaWq
import Derived.IntWalk
import Derived.Laws.OwnMore
import Derived.Test.YtlgpalokjckdcaaChaWr
namespace Go.Am.Cha
open Go Go.Am Go.Am.Lib Go.Lib Go.Proofs Go.RowKit
open Go.Am.Own
open Go.Am.Tmf (cellI)
set_option maxRecDepth 100000

variable {H:Nat → Prop} {W W0 w wr w':World} {B sb mb g cap N:Nat} {bk:Nat → Nat} {M M':MS} {ok:Bool} {bs ss:Nat → Int} {V V':Nat → Value} {R R':Nat → RowM}
def Lz (l:List Int):List Value:=l.map (Value.int .i64)
theorem Lz_len (l:List Int):(Lz l).length = l.length:=List.length_map _
theorem Lz_set (l:List Int) (j:Nat) (z:Int):(Lz l).set j (.int .i64 z) = Lz (l.set j z):=by unfold Lz;rw [List.map_set]
/-- What waits, below channel j. -/
def befQ (M:MS) (j k:Nat):Int:=if k < j then (((M.f k).x.wait:Nat):Int) else 0
theorem bef_set (M:MS) {j:Nat} (h:j < 8):(arr8 (befQ M j)).setIfInBounds j (.int .i64 (((M.f j).x.wait:Nat):Int)) = arr8 (befQ M (j + 1)):=by
 match j,h with
 | 0,_ | 1,_ | 2,_ | 3,_ | 4,_ | 5,_ | 6,_ | 7,_=>rfl
abbrev rowsT (v0 v1 v2 v3 v4 v5 v6:Value) (fr:List L8) (ch:List Nat) (pk:List L8) (co:List Nat) (l4 l5 l6:List Int):Nat → RowM :=
 R7 (9,v0,cellS fr) (3,v1,cellI ch) (9,v2,cellS pk) (3,v3,cellI co) (3,v4,Lz l4) (3,v5,Lz l5) (3,v6,Lz l6)
def V7 (v0 v1 v2 v3 v4 v5 v6:Value):Nat → Value
 | 0=>v0
 | 1=>v1
 | 2=>v2
 | 3=>v3
 | 4=>v4
 | 5=>v5
 | _=>v6
/-- The numbers that are kept. -/
structure Bd (bs ss:Nat → Int) (L P:Nat) (pk:List L8) (l6:List Int):Prop where
 ss:∀ k,k < 8 → -66000 * (L:Int) ≤ ss k ∧ ss k ≤ 66000 * (L:Int)
 bs:∀ k,k < 8 → 0 ≤ bs k ∧ bs k ≤ 2000 * (P:Int)
 l6:∀ z ∈ l6,0 ≤ z ∧ z ≤ 2000000
 pk:∀ p ∈ pk,p.length ≤ 2000
theorem Bd.next {bs ss:Nat → Int} {L P k:Nat} {pk:List L8} {l6:List Int} {nw:Int} (h:Bd bs ss L P pk l6) (hb:-66000 * ((L + 1:Nat):Int) ≤ nw ∧ nw ≤ 66000 * ((L + 1:Nat):Int)):Bd bs (updI ss k nw) (L + 1) P pk l6:=by
 refine ⟨fun j hj=>?_,h.bs,h.l6,h.pk⟩
 unfold updI
 split
 · exact hb
 · have:=h.ss j hj
   push_cast at hb ⊢
   omega
/-- What is sent: with its lists. -/
def Se (H:Nat → Prop) (W:World) (B sb mb g cap:Nat) (bk:Nat → Nat) (M:MS) (ok:Bool) (fr:List L8) (ch:List Nat) (pk:List L8) (co:List Nat) (w:World):Prop :=
 ∃ (bs ss:Nat → Int) (v0 v1 v2 v3 v4 v5 v6:Value) (l4 l5 l6:List Int),l4.length = pk.length ∧ l5.length = pk.length ∧ l6.length = pk.length ∧ Bd bs ss fr.length pk.length pk l6 ∧ Sg H W B sb mb g cap bk M ok bs ss (V7 v0 v1 v2 v3 v4 v5 v6) (rowsT v0 v1 v2 v3 v4 v5 v6 fr ch pk co l4 l5 l6) w
section rows
variable {v0 v1 v2 v3 v4 v5 v6:Value} {fr pk:List L8} {ch co:List Nat} {l4 l5 l6:List Int} (h:Sg H W B sb mb g cap bk M ok bs ss V (rowsT v0 v1 v2 v3 v4 v5 v6 fr ch pk co l4 l5 l6) w)
include h
theorem Sg.rw0:w.ownsRow B 9 1 v0 fr.length (cellS fr):=by
 have h:=h.own 0 (by decide)
 have e:(rowsT v0 v1 v2 v3 v4 v5 v6 fr ch pk co l4 l5 l6 0).2.2.length = fr.length:=Tmf.cellS_len fr
 rw [e] at h;exact h
theorem Sg.rw1:w.ownsRow B 3 1 v1 ch.length (cellI ch):=by
 have h:=h.own 1 (by decide)
 have e:(rowsT v0 v1 v2 v3 v4 v5 v6 fr ch pk co l4 l5 l6 1).2.2.length = ch.length:=Tmf.cellI_len ch
 rw [e] at h;exact h
theorem Sg.rw2:w.ownsRow B 9 1 v2 pk.length (cellS pk):=by
 have h:=h.own 2 (by decide)
 have e:(rowsT v0 v1 v2 v3 v4 v5 v6 fr ch pk co l4 l5 l6 2).2.2.length = pk.length:=Tmf.cellS_len pk
 rw [e] at h;exact h
theorem Sg.rw3:w.ownsRow B 3 1 v3 co.length (cellI co):=by
 have h:=h.own 3 (by decide)
 have e:(rowsT v0 v1 v2 v3 v4 v5 v6 fr ch pk co l4 l5 l6 3).2.2.length = co.length:=Tmf.cellI_len co
 rw [e] at h;exact h
theorem Sg.rw4:w.ownsRow B 3 1 v4 l4.length (Lz l4):=by
 have h:=h.own 4 (by decide)
 have e:(rowsT v0 v1 v2 v3 v4 v5 v6 fr ch pk co l4 l5 l6 4).2.2.length = l4.length:=Lz_len l4
 rw [e] at h;exact h
theorem Sg.rw5:w.ownsRow B 3 1 v5 l5.length (Lz l5):=by
 have h:=h.own 5 (by decide)
 have e:(rowsT v0 v1 v2 v3 v4 v5 v6 fr ch pk co l4 l5 l6 5).2.2.length = l5.length:=Lz_len l5
 rw [e] at h;exact h
theorem Sg.rw6:w.ownsRow B 3 1 v6 l6.length (Lz l6):=by
 have h:=h.own 6 (by decide)
 have e:(rowsT v0 v1 v2 v3 v4 v5 v6 fr ch pk co l4 l5 l6 6).2.2.length = l6.length:=Lz_len l6
 rw [e] at h;exact h
end rows
theorem str_at {ao:Option Addr} {n cap:Nat} {L:List L8} (h:w.ownsRow B 9 1 (.slice ao n cap) L.length (cellS L)) {i:Nat} (hi:i < n) (hl:L.length = n) :
 ∃ g,ao = some ⟨g,0,none⟩ ∧ w.cell? ⟨g,i,none⟩ = some (.string (strB (L.getD i []))):=by
 obtain ⟨_,g,rfl⟩:=ownsRow_base h (by omega)
 refine ⟨g,rfl,?_⟩
 have hc:=h.cells (g:=g) rfl i (.string (strB (L.getD i []))) (by
  unfold cellS
  rw [List.getElem?_map,List.getD_eq_getElem?_getD,List.getElem?_eq_getElem (by omega)];rfl)
 have ha:((⟨g,0,none⟩:Addr).add i) = ⟨g,i,none⟩:=by simp [Addr.add];intro h;exact h.symm
 rw [ha] at hc
 exact hc
theorem num_at {ao:Option Addr} {n cap:Nat} {L:List Nat} (h:w.ownsRow B 3 1 (.slice ao n cap) L.length (cellI L)) {i:Nat} (hi:i < n) (hl:L.length = n) :
 ∃ g,ao = some ⟨g,0,none⟩ ∧ w.cell? ⟨g,i,none⟩ = some (.int .i64 ((L.getD i 0:Nat):Int)):=by
 obtain ⟨_,g,rfl⟩:=ownsRow_base h (by omega)
 refine ⟨g,rfl,?_⟩
 have hc:=h.cells (g:=g) rfl i (.int .i64 ((L.getD i 0:Nat):Int)) (by
  unfold cellI
  rw [List.getElem?_map,List.getD_eq_getElem?_getD,List.getElem?_eq_getElem (by omega)];rfl)
 have ha:((⟨g,0,none⟩:Addr).add i) = ⟨g,i,none⟩:=by simp [Addr.add];intro h;exact h.symm
 rw [ha] at hc
 exact hc
theorem lz_at {l:List Int} {ao:Option Addr} {n cap:Nat} (h:w.ownsRow B 3 1 (.slice ao n cap) l.length (Lz l)) {i:Nat} (hi:i < n) (hl:l.length = n) :
 ∃ g,ao = some ⟨g,0,none⟩ ∧ w.cell? ⟨g,i,none⟩ = some (.int .i64 (l.getD i 0)):=by
 obtain ⟨_,g,rfl⟩:=ownsRow_base h (by omega)
 refine ⟨g,rfl,?_⟩
 have hc:=h.cells (g:=g) rfl i (.int .i64 (l.getD i 0)) (by
  unfold Lz
  rw [List.getElem?_map,List.getD_eq_getElem?_getD,List.getElem?_eq_getElem (by omega)];rfl)
 have ha:((⟨g,0,none⟩:Addr).add i) = ⟨g,i,none⟩:=by simp [Addr.add];intro h;exact h.symm
 rw [ha] at hc
 exact hc
theorem Sg.drewN (h:Sg H W B sb mb g cap bk M ok bs ss V R w) (n:Nat):Sg H W B sb mb g cap bk M ok bs ss V R (w.drewN n):=h.below ⟨rfl,rfl,rfl,Nat.le_refl _,fun _ _=>rfl⟩
section more
variable {v0 v1 v2 v3 v4 v5 v6:Value} {fr pk:List L8} {ch co:List Nat} {l4 l5 l6:List Int}
theorem Sg.set4 {g4 n c4:Nat} (h:Sg H W B sb mb g cap bk M ok bs ss V (rowsT v0 v1 v2 v3 (.slice (some ⟨g4,0,none⟩) n c4) v5 v6 fr ch pk co l4 l5 l6) w) (e:l4.length = n) (q:Nat) (z:Int) :
 Sg H W B sb mb g cap bk M ok bs ss V (rowsT v0 v1 v2 v3 (.slice (some ⟨g4,0,none⟩) n c4) v5 v6 fr ch pk co (l4.set q z) l5 l6) (w.setCell ⟨g4,q,none⟩ (.int .i64 z)):=by
 refine h.elem (i:=4) (j:=q) (gi:=g4) (ci:=c4) (by decide) ?_ ?_ ?_
 · show Value.slice _ n c4 = Value.slice _ (Lz l4).length c4
   rw [Lz_len,e]
 · show (_,_,Lz (l4.set q z)) = (_,_,(Lz l4).set q _)
   rw [Lz_set]
   rfl
 · intro j hj hne
   match j,hj,hne with
   | 0,_,_ | 1,_,_ | 2,_,_ | 3,_,_ | 5,_,_ | 6,_,_=>rfl
theorem Sg.set5 {g5 n c5:Nat} (h:Sg H W B sb mb g cap bk M ok bs ss V (rowsT v0 v1 v2 v3 v4 (.slice (some ⟨g5,0,none⟩) n c5) v6 fr ch pk co l4 l5 l6) w) (e:l5.length = n) (q:Nat) (z:Int) :
 Sg H W B sb mb g cap bk M ok bs ss V (rowsT v0 v1 v2 v3 v4 (.slice (some ⟨g5,0,none⟩) n c5) v6 fr ch pk co l4 (l5.set q z) l6) (w.setCell ⟨g5,q,none⟩ (.int .i64 z)):=by
 refine h.elem (i:=5) (j:=q) (gi:=g5) (ci:=c5) (by decide) ?_ ?_ ?_
 · show Value.slice _ n c5 = Value.slice _ (Lz l5).length c5
   rw [Lz_len,e]
 · show (_,_,Lz (l5.set q z)) = (_,_,(Lz l5).set q _)
   rw [Lz_set]
   rfl
 · intro j hj hne
   match j,hj,hne with
   | 0,_,_ | 1,_,_ | 2,_,_ | 3,_,_ | 4,_,_ | 6,_,_=>rfl
theorem snocS (l:List L8) (p:ByteArray):cellS l ++ [.string p] = cellS (l ++ [p.data.toList]):=by unfold cellS;rw [List.map_append];rfl
theorem snocI (l:List Nat) (k:Nat):cellI l ++ [.int .i64 ((k:Nat):Int)] = cellI (l ++ [k]):=by unfold cellI;rw [List.map_append];rfl
end more
theorem rows_ne {J:List Job} {l:List Nat} (h:J.map (·.row) = l) {i:Nat} (hi:i ∉ l):∀ q ∈ J,q.row ≠ i:=fun q hq e=>hi (by rw [← h];exact List.mem_map.2 ⟨q,hq,e⟩)
theorem jV_22 (x y:Value) (σ:Nat → Value) (v0 v1 v2 v3 v4 v5 v6:Value):jV (js_next_r22 x y) (fun _=>true) σ (V7 v0 v1 v2 v3 v4 v5 v6) = V7 (σ 8) (σ 15) v2 v3 v4 v5 v6:=by
 funext j
 match j with
 | 0 | 1 | 2 | 3 | 4 | 5=>rfl
 | k + 6=>exact jV_other (rows_ne (l:=[0,1]) rfl (by simp))
theorem jR_22 (ns:ByteArray) (nk:Nat) (σ:Nat → Value) (v0 v1 v2 v3 v4 v5 v6:Value) (fr pk:List L8) (ch co:List Nat) (l4 l5 l6:List Int):jR (js_next_r22 (.string ns) (.int .i64 ((nk:Nat):Int))) (fun _=>true) σ (rowsT v0 v1 v2 v3 v4 v5 v6 fr ch pk co l4 l5 l6) = rowsT (σ 8) (σ 15) v2 v3 v4 v5 v6 (fr ++ [ns.data.toList]) (ch ++ [nk]) pk co l4 l5 l6:=by
 funext j
 match j with
 | 0=>show (_,_,cellS fr ++ _) = (_,_,cellS _);rw [snocS];rfl
 | 1=>show (_,_,cellI ch ++ _) = (_,_,cellI _);rw [snocI];rfl
 | 2 | 3 | 4 | 5=>rfl
 | k + 6=>exact jR_other (rows_ne (l:=[0,1]) rfl (by simp))
theorem Sg.pc (h:Sg H W B sb mb g cap bk M ok bs ss V R w):w.cell? ⟨sb,0,none⟩ = some (.pointer (some ⟨mb,0,none⟩)):=cell_of h.cell
end Go.Am.Cha

namespace Go.Am.Cha
open Go Go.Am Go.Am.Lib Go.Lib Go.Proofs Go.RowKit
open Go.Am.Own
open Go.Am.Tmf (cellI)
set_option maxRecDepth 100000

variable {H:Nat → Prop} {W W0 w wr w':World} {B sb mb g cap N:Nat} {bk:Nat → Nat} {M M':MS} {ok:Bool} {bs ss:Nat → Int} {V V':Nat → Value} {R R':Nat → RowM}
/-- The loads, as the law is handed them. -/
def LdM (w:World) (ao:Option Addr) (n:Nat):Prop :=
 ∀ i,i < n → ∃ (a:Addr) (x y z:Int),ao = some a ∧ w.cell? (a.add (i * 3)) = some (.int .i64 x) ∧ w.cell? ⟨(a.add (i * 3)).block,(a.add (i * 3)).off + 1,none⟩ = some (.int .i64 y) ∧ w.cell? ⟨(a.add (i * 3)).block,(a.add (i * 3)).off + 2,none⟩ = some (.int .i64 z) ∧ (a.add (i * 3)).block < w.heap.size
theorem Sg.congr (h:Sg H W B sb mb g cap bk M ok bs ss V R w) (hV:∀ i,i < 7 → V' i = V i) (hR:∀ i,i < 7 → R' i = R i):Sg H W B sb mb g cap bk M ok bs ss V' R' w:=by
 obtain ⟨S,h1,h2,h3,h4⟩:=h.ex
 refine ⟨⟨S,h1,h2,h3,fun i hi=>by rw [hR i hi];exact h4 i hi⟩,?_,h.nH,h.lo,fun i hi=>by rw [hR i hi];exact h.own i hi,fun i hi=>by rw [hR i hi];exact h.rH i hi,fun i hi=>by rw [hR i hi];exact h.rs i hi,fun i j hi hj=>by rw [hR i hi,hR j hj];exact h.dis i j hi hj,h.os,h.tape,h.output,h.size,h.block,h.lt,h.hB⟩
 have e:sgC mb ok bs ss V' = sgC mb ok bs ss V:=by
  unfold sgC
  rw [hV 0 (by decide),hV 1 (by decide),hV 2 (by decide),hV 3 (by decide),hV 4 (by decide),hV 5 (by decide),hV 6 (by decide)]
 rw [e];exact h.cell
section rows
variable {v0 v1 v2 v3 v4 v5 v6:Value} {fr pk:List L8} {ch co:List Nat} {l4 l5 l6:List Int}
theorem snocZ (l:List Int) (z:Int):Lz l ++ [.int .i64 z] = Lz (l ++ [z]):=by unfold Lz;rw [List.map_append];rfl
theorem jV_12 (x0 x1 x2 x3:Value) (σ:Nat → Value):∀ i,i < 7 → V7 v0 v1 (σ 11) (σ 19) (σ 26) (σ 33) v6 i = jV (js_tran_r12 x0 x1 x2 x3) (fun _=>true) σ (V7 v0 v1 v2 v3 v4 v5 v6) i:=fun i h=>by
 match i,h with
 | 0,_ | 1,_ | 2,_ | 3,_ | 4,_ | 5,_ | 6,_=>rfl
theorem jR_12 (ps:ByteArray) (c:Nat) (σ:Nat → Value):∀ i,i < 7 → rowsT v0 v1 (σ 11) (σ 19) (σ 26) (σ 33) v6 fr ch (pk ++ [ps.data.toList]) (co ++ [c]) (l4 ++ [-1]) (l5 ++ [-1]) l6 i = jR (js_tran_r12 (.string ps) (.int .i64 ((c:Nat):Int)) (.int .i64 (-1)) (.int .i64 (-1))) (fun _=>true) σ (rowsT v0 v1 v2 v3 v4 v5 v6 fr ch pk co l4 l5 l6) i:=fun i h=>by
 match i,h with
 | 0,_ | 1,_ | 6,_=>rfl
 | 2,_=>show (_,_,cellS _) = (_,_,cellS pk ++ _);rw [snocS];rfl
 | 3,_=>show (_,_,cellI _) = (_,_,cellI co ++ _);rw [snocI];rfl
 | 4,_=>show (_,_,Lz _) = (_,_,Lz l4 ++ _);rw [snocZ];rfl
 | 5,_=>show (_,_,Lz _) = (_,_,Lz l5 ++ _);rw [snocZ];rfl
theorem jV_13 (x0:Value) (σ:Nat → Value):∀ i,i < 7 → V7 v0 v1 v2 v3 v4 v5 (σ 12) i = jV (js_tran_r13 x0) (fun _=>true) σ (V7 v0 v1 v2 v3 v4 v5 v6) i:=fun i h=>by
 match i,h with
 | 0,_ | 1,_ | 2,_ | 3,_ | 4,_ | 5,_ | 6,_=>rfl
theorem jR_13 (z:Int) (σ:Nat → Value):∀ i,i < 7 → rowsT v0 v1 v2 v3 v4 v5 (σ 12) fr ch pk co l4 l5 (l6 ++ [z]) i = jR (js_tran_r13 (.int .i64 z)) (fun _=>true) σ (rowsT v0 v1 v2 v3 v4 v5 v6 fr ch pk co l4 l5 l6) i:=fun i h=>by
 match i,h with
 | 0,_ | 1,_ | 2,_ | 3,_ | 4,_ | 5,_=>rfl
 | 6,_=>show (_,_,Lz _) = (_,_,Lz l6 ++ _);rw [snocZ];rfl
end rows
def nil7:Value:=.slice none 0 0
/-- What is sent begins: a mux, and nothing else. -/
theorem Sg.start {W1 W2:World} (hb:Below W1.heap.size W1 W2) (h:MC (fun k=>W1.heap.size ≤ k) mb g cap bk M W2) :
 Sg (fun k=>k < W1.heap.size) W1 W1.heap.size W2.heap.size mb g cap bk M ok (fun _=>0) (fun _=>0) (V7 nil7 nil7 nil7 nil7 nil7 nil7 nil7) (rowsT nil7 nil7 nil7 nil7 nil7 nil7 nil7 [] [] [] [] [] [] []) (W2.alloc (.cells (sgC mb ok (fun _=>0) (fun _=>0) (V7 nil7 nil7 nil7 nil7 nil7 nil7 nil7)) 96)):=by
 obtain ⟨o,ho⟩:∃ o,(.cells (sgC mb ok (fun _=>0) (fun _=>0) (V7 nil7 nil7 nil7 nil7 nil7 nil7 nil7)) 96:Obj) = o:=⟨_,rfl⟩
 have hb2:=(Below.refl W2.heap.size W2).alloc (Nat.le_refl _) o
 have hnew:(W2.alloc o).heap[W2.heap.size]? = some o:=heap_alloc_new W2 o
 have hs:=hb.size
 have hs2:=hb2.size
 rw [ho]
 have nilv:∀ i,i < 7 → (rowsT nil7 nil7 nil7 nil7 nil7 nil7 nil7 [] [] [] [] [] [] [] i).2.1 = .slice none 0 0 ∧ (rowsT nil7 nil7 nil7 nil7 nil7 nil7 nil7 [] [] [] [] [] [] [] i).2.2 = []:=fun i hi=>by
  match i,hi with
  | 0,_ | 1,_ | 2,_ | 3,_ | 4,_ | 5,_ | 6,_=>exact ⟨rfl,rfl⟩
 refine ⟨⟨_,h.shrink (w':=W2.alloc o) fun k _ hk=>hb2.block k hk,fun k hk e=>?_,fun e=>?_,fun i hi k hk=>?_⟩,by rw [← ho] at hnew ⊢;exact hnew,fun e=>by have e:W2.heap.size < W1.heap.size:=e;omega,hs,fun i hi=>?_,fun i hi k hk=>?_,fun i hi e=>?_,fun i j hi hj hne=>.inl ?_,hb2.os.trans hb.os,hb2.tape.trans hb.tape,hb2.output.trans hb.output,Nat.le_trans hs hs2,fun k hk=>?_,fun k hk=>by have hk:k < W1.heap.size:=hk;omega,by omega⟩
 · have:=(e.old hk).2
   by_cases e2:k < W2.heap.size
   · have h3:=(e.old hk).1
     have h3:W1.heap.size ≤ k:=h3
     exact ⟨h3,by omega⟩
   · omega
 · have:=(e.old (by rw [alloc_size];omega)).2;omega
 · rw [(nilv i hi).1] at hk;cases hk
 · rw [(nilv i hi).1,(nilv i hi).2]
   exact World.ownsRow_nil _ _ _ _
 · rw [(nilv i hi).1] at hk;cases hk
 · rw [(nilv i hi).1] at e;cases e
 · rw [(nilv i hi).1];rfl
 · have hk:k < W1.heap.size:=hk
   exact (hb2.block k (by omega)).trans (hb.block k hk)
theorem Bd.zero:Bd (fun _=>0) (fun _=>0) 0 0 [] []:=⟨fun k _=>by omega,fun k _=>by omega,fun z hz=>by (cases hz),fun p hp=>by (cases hp)⟩
theorem Bd.add {bs ss:Nat → Int} {L P:Nat} {pk:List L8} {l6:List Int} (h:Bd bs ss L P pk l6) (hP:P ≤ 1000) {p:L8} {c:Nat} (hp:p.length ≤ 2000) (hc:c < 8):Bd (updI bs c (bs c + ((p.length:Nat):Int))) ss L (P + 1) (pk ++ [p]) (l6 ++ [bs c]):=by
 refine ⟨h.ss,fun k hk=>?_,fun z hz=>?_,fun q hq=>?_⟩
 · unfold updI
   split
   · have:=h.bs c hc;push_cast;omega
   · have:=h.bs k hk;push_cast;omega
 · rcases List.mem_append.1 hz with hz | hz
   · exact h.l6 z hz
   · rw [List.mem_singleton.1 hz]
     have:=h.bs c hc;omega
 · rcases List.mem_append.1 hq with hq | hq
   · exact h.pk q hq
   · rw [List.mem_singleton.1 hq];exact hp
theorem Se.slices {fr pk:List L8} {ch co:List Nat} (h:Se H W B sb mb g cap bk M ok fr ch pk co w):∃ (bs ss:Nat → Int) (o0 o1 o2 o3 o4 o5 o6:Option Addr) (c0 c1 c2 c3 c4 c5 c6:Nat) (l4 l5 l6:List Int),l4.length = pk.length ∧ l5.length = pk.length ∧ l6.length = pk.length ∧ Bd bs ss fr.length pk.length pk l6 ∧
 Sg H W B sb mb g cap bk M ok bs ss (V7 (.slice o0 fr.length c0) (.slice o1 ch.length c1) (.slice o2 pk.length c2) (.slice o3 co.length c3) (.slice o4 l4.length c4) (.slice o5 l5.length c5) (.slice o6 l6.length c6)) (rowsT (.slice o0 fr.length c0) (.slice o1 ch.length c1) (.slice o2 pk.length c2) (.slice o3 co.length c3) (.slice o4 l4.length c4) (.slice o5 l5.length c5) (.slice o6 l6.length c6) fr ch pk co l4 l5 l6) w:=by
 obtain ⟨bs,ss,v0,v1,v2,v3,v4,v5,v6,l4,l5,l6,hl4,hl5,hl6,hBd,hG⟩:=h
 obtain ⟨o0,c0,rfl⟩:=ownsRow_slice hG.rw0
 obtain ⟨o1,c1,rfl⟩:=ownsRow_slice hG.rw1
 obtain ⟨o2,c2,rfl⟩:=ownsRow_slice hG.rw2
 obtain ⟨o3,c3,rfl⟩:=ownsRow_slice hG.rw3
 obtain ⟨o4,c4,rfl⟩:=ownsRow_slice hG.rw4
 obtain ⟨o5,c5,rfl⟩:=ownsRow_slice hG.rw5
 obtain ⟨o6,c6,rfl⟩:=ownsRow_slice hG.rw6
 exact ⟨bs,ss,o0,o1,o2,o3,o4,o5,o6,c0,c1,c2,c3,c4,c5,c6,l4,l5,l6,hl4,hl5,hl6,hBd,hG⟩
theorem Se.of {fr pk:List L8} {ch co:List Nat} {bs ss:Nat → Int} {v0 v1 v2 v3 v4 v5 v6:Value} {l4 l5 l6:List Int} (hG:Sg H W B sb mb g cap bk M ok bs ss (V7 v0 v1 v2 v3 v4 v5 v6) (rowsT v0 v1 v2 v3 v4 v5 v6 fr ch pk co l4 l5 l6) w) (h4:l4.length = pk.length) (h5:l5.length = pk.length) (h6:l6.length = pk.length) (hBd:Bd bs ss fr.length pk.length pk l6):Se H W B sb mb g cap bk M ok fr ch pk co w :=
 ⟨bs,ss,v0,v1,v2,v3,v4,v5,v6,l4,l5,l6,h4,h5,h6,hBd,hG⟩
theorem Se.below {fr pk:List L8} {ch co:List Nat} (h:Se H W B sb mb g cap bk M ok fr ch pk co w) (hb:Below w.heap.size w w'):Se H W B sb mb g cap bk M ok fr ch pk co w':=by
 obtain ⟨bs,ss,v0,v1,v2,v3,v4,v5,v6,l4,l5,l6,hl4,hl5,hl6,hBd,hG⟩:=h
 exact ⟨bs,ss,v0,v1,v2,v3,v4,v5,v6,l4,l5,l6,hl4,hl5,hl6,hBd,hG.below hb⟩
theorem Se.block {fr pk:List L8} {ch co:List Nat} (h:Se H W B sb mb g cap bk M ok fr ch pk co w) {k:Nat} (hk:H k):w.heap[k]? = W.heap[k]? ∧ k < w.heap.size:=by
 obtain ⟨bs,ss,v0,v1,v2,v3,v4,v5,v6,l4,l5,l6,hl4,hl5,hl6,hBd,hG⟩:=h
 exact ⟨hG.block k hk,hG.lt k hk⟩
end Go.Am.Cha
