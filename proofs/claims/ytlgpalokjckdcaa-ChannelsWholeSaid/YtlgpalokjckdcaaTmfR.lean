/-
 Tmframe: a row of bytes that begins anywhere in its block; appending to it, taking off its head. Own work; append after the kit's law for rows that begin at 0.
-/
import Derived.Test.YtlgpalokjckdcaaOwnA
import Derived.Test.YtlgpalokjckdcaaTmfAB
import Derived.Test.YtlgpalokjckdcaaTmfAA
import Derived.Laws.IdiomStrings
import Derived.Laws.Slices
namespace Go.Am.Tmf
open Go Go.Am Go.Am.Lib Go.Lib Go.Proofs Go.RowKit
open Go.Am.Own
set_option maxRecDepth 100000

/-- The cells of bytes. -/
def cellB (l:L8):List Value:=l.map fun b=>Value.int .u8 b.toNat
theorem cellB_len (l:L8):(cellB l).length = l.length:=by unfold cellB;rw [List.length_map]
theorem strCells_cellB (s:ByteArray):strCells s = cellB s.data.toList:=rfl
/-- A slice of bytes that holds l. -/
def VRow (w:World) (v:Value) (l:L8):Prop :=
 (v = .slice none 0 0 ∧ l = []) ∨ ∃ g off cap cur,v = .slice (some ⟨g,off,none⟩) l.length cap ∧ w.heap[g]? = some (.cells cur 5 (0,0)) ∧ l.length ≤ cap ∧ cap ≤ maxLen ∧ off + cap ≤ cur.size ∧ (cur.toList.drop off).take l.length = cellB l
theorem vrow_nil (w:World):VRow w (.slice none 0 0) []:=.inl ⟨rfl,rfl⟩
theorem VRow.slice {w:World} {v:Value} {l:L8} (h:VRow w v l):∃ ao cap,v = .slice ao l.length cap:=by
 rcases h with ⟨e,rfl⟩ | ⟨g,off,cap,cur,e,_⟩
 · exact ⟨_,_,e⟩
 · exact ⟨_,_,e⟩
theorem VRow.keep {w w':World} {v:Value} {l:L8} (h:VRow w v l) (hk:∀ k,v.ownBlock = some k → w'.heap[k]? = w.heap[k]?):VRow w' v l:=by
 rcases h with h | ⟨g,off,cap,cur,e,e2,r⟩
 · exact .inl h
 · exact .inr ⟨g,off,cap,cur,e,(hk g (by rw [e];rfl)).trans e2,r⟩
theorem VRow.lt {w:World} {v:Value} {l:L8} (h:VRow w v l):∀ k,v.ownBlock = some k → k < w.heap.size:=by
 intro k hk
 rcases h with ⟨e,_⟩ | ⟨g,off,cap,cur,e,e2,_⟩
 · rw [e] at hk;cases hk
 · rw [e] at hk
   have hk:g = k:=by injection hk
   subst hk
   exact (Array.getElem?_eq_some_iff.1 e2).1
theorem VRow.kept {w w':World} {v:Value} {l:L8} {row:Option Nat} (h:VRow w v l) (hg:w.grownBy w' row) (hne:v.ownBlock = none ∨ v.ownBlock ≠ row):VRow w' v l :=
 h.keep fun k hk=>hg.block k (h.lt k hk) (fun e=>by rcases hne with h1 | h1;rw [h1] at hk;cases hk;exact h1 (hk.trans e))
theorem VRow.neb {w:World} {v:Value} {l:L8} {b T:Nat} {cs:Array Value} {fr:Nat × Nat} (h:VRow w v l) (hb:w.heap[b]? = some (.cells cs T fr)) (hne:5 ≠ T):v.ownBlock ≠ some b:=by
 rcases h with ⟨e,_⟩ | ⟨g,off,cap,cur,e,e2,_⟩
 · rw [e];intro h;cases h
 · rw [e];intro h
   have hg:g = b:=by injection h
   rw [hg,hb] at e2
   injection e2 with e2
   injection e2 with _ e2 _
   exact hne e2.symm
theorem VRow.ne_row {w:World} {v v':Value} {l:L8} {B e size n:Nat} {xs:List Value} (h:VRow w v l) (h':w.ownsRow B e size v' n xs) (hne:5 ≠ e):v.ownBlock = none ∨ v.ownBlock ≠ v'.ownBlock:=by
 rcases h'.2 with ⟨hv,_⟩ | ⟨g,cap,cur,hv,_,hg,_⟩
 · rw [hv]
   cases hq:v.ownBlock with
   | none=>exact .inl rfl
   | some k=>exact .inr (by intro e;cases e)
 · rw [hv]
   exact .inr (h.neb hg hne)
theorem VRow.cells {w:World} {g off n cap:Nat} {l:L8} (h:VRow w (.slice (some ⟨g,off,none⟩) n cap) l):∀ j (hj:j < l.length),w.cell? ⟨g,off + j,none⟩ = some (.int .u8 (l[j].toNat:Int)):=by
 intro j hj
 rcases h with ⟨e,_⟩ | ⟨g',off',cap',cur,e,e2,_,_,h4,h5⟩
 · cases e
 · injection e with q1 q2 q3
   injection q1 with q1
   injection q1 with q4 q5
   subst q4 q5
   rw [cell_of_row w g (off + j) cur _ (0,0) e2]
   have hq:((cur.toList.drop off).take l.length)[j]? = (cellB l)[j]?:=by rw [h5]
   rw [List.getElem?_take_of_lt hj,List.getElem?_drop] at hq
   have hq2:(cellB l)[j]? = some (.int .u8 (l[j].toNat:Int)):=by
    unfold cellB;rw [List.getElem?_map,List.getElem?_eq_getElem hj];rfl
   rw [hq2] at hq
   rw [← hq]
   simp
theorem info5:∃ i0,Try.prog.info? 5 = some i0 ∧ i0.zero = some (.int .u8 0) ∧ i0.size = 1 ∧ i0.bytes = 1:=by
 have h:(Try.prog.info? 5).map (fun i=>(i.zero,i.size,i.bytes)) = some (some (.int .u8 0),1,1):=by kernel_rfl
 obtain ⟨i,h1,h2⟩:=Option.map_eq_some_iff.1 h
 simp only [Prod.mk.injEq] at h2
 exact ⟨i,h1,h2.1,h2.2.1,h2.2.2⟩
theorem size5 (W:World):(sizeOf 5).run Try.prog W = .ok 1 W:=by
 obtain ⟨i0,hi,hz0,hz1,hz2⟩:=info5
 simp [sizeOf,typeInfo,hi,hz1]
/-- The text. -/
theorem VRow.text {w:World} {v:Value} {l:L8} (h:VRow w v l):(convert 107 9 v).run Try.prog w = .ok (.string ⟨⟨l⟩⟩) w:=by
 have h0:=h
 rcases h with ⟨hv,hl⟩ | ⟨g,off,cap,cur,hv,_⟩
 · rw [hv,run_convert_bytes_string w 107 9 5 none 0 0 Try.underlying107 rfl rfl,hl]
   simp [Conv.bytesToString]
   rfl
 · rw [hv] at h0 ⊢
   exact run_convert_bytes_back (P:=Try.prog) w 107 9 5 ⟨g,off,none⟩ cap l Try.underlying107 rfl rfl (fun j hj=>by rw [Addr.add_lit];exact h0.cells j hj)
/-- The head, and what is behind it. -/
theorem VRow.head {w:World} {v:Value} {l:L8} (h:VRow w v l) {n:Nat} (hn:n ≤ l.length) (h0:0 < n) :
 ∃ v',(Instr.slice 107 v none (some (.int .i64 (n:Nat))) (some (.int .i64 (n:Nat)))).run Try.prog w = .ok v' w ∧ VRow w v' (l.take n) ∧ v'.ownBlock = v.ownBlock:=by
 have hl:(l.take n).length = n:=by rw [List.length_take];omega
 rcases h with ⟨hv,rfl⟩ | ⟨g,off,cap,cur,rfl,e2,e3,e4,e5,e6⟩
 · simp at hn;omega
 · have he:Try.prog.elem 107 = 5:=by kernel_rfl
   rw [run_slice_hm w 107 _ _ _ (by rw [he];exact Try.underlying107) .i64 .i64 _ _ (by omega) (by omega) (by omega),he,size5]
   have hne:¬ n = 0:=by omega
   refine ⟨.slice (some ⟨g,off,none⟩) n n,?_,?_,rfl⟩
   · simp [Result.andThen,sliced,hne,Addr.add]
   · refine .inr ⟨g,off,n,cur,by rw [hl],e2,by rw [hl];exact Nat.le_refl _,by omega,by omega,?_⟩
     rw [hl]
     have:=congrArg (List.take n) e6
     rw [List.take_take,Nat.min_eq_left hn] at this
     rw [this]
     unfold cellB
     rw [List.map_take]
theorem VRow.tail {w:World} {v:Value} {l:L8} (h:VRow w v l) {n:Nat} (hn:n ≤ l.length) (h0:0 < n) :
 ∃ v',(Instr.slice 107 v (some (.int .i64 (n:Nat))) none none).run Try.prog w = .ok v' w ∧ VRow w v' (l.drop n) ∧ v'.ownBlock = v.ownBlock:=by
 have hl:(l.drop n).length = l.length - n:=List.length_drop
 rcases h with ⟨hv,rfl⟩ | ⟨g,off,cap,cur,rfl,e2,e3,e4,e5,e6⟩
 · simp at hn;omega
 · have he:Try.prog.elem 107 = 5:=by kernel_rfl
   rw [run_slice_l w 107 _ _ _ (by rw [he];exact Try.underlying107) .i64 _ (by omega) (by omega),he,size5]
   by_cases hc:cap = n
   · refine ⟨.slice (some ⟨g,off,none⟩) (l.length - n) (cap - n),?_,?_,rfl⟩
     · simp [Result.andThen,sliced,hc]
     · refine .inr ⟨g,off,cap - n,cur,by rw [hl],e2,by omega,by omega,by omega,?_⟩
       rw [show (l.drop n) = [] from List.drop_of_length_le (by omega)]
       rfl
   · refine ⟨.slice (some ⟨g,off + n,none⟩) (l.length - n) (cap - n),?_,?_,rfl⟩
     · simp [Result.andThen,sliced,hc,Addr.add_lit]
     · refine .inr ⟨g,off + n,cap - n,cur,by rw [hl],e2,by omega,by omega,by omega,?_⟩
       rw [hl,← List.drop_drop]
       have:=congrArg (List.drop n) e6
       rw [List.drop_take] at this
       rw [this]
       unfold cellB
       rw [List.map_drop]
theorem VRow.of_owns {w:World} {B:Nat} {v:Value} {l:L8} (h:w.ownsRow B 5 1 v l.length (cellB l)):VRow w v l:=by
 rcases h.2 with ⟨hv,hn⟩ | ⟨g,cap,cur,hv,_,h2,h3,h4,h5,h6⟩
 · exact .inl ⟨hv,List.eq_nil_of_length_eq_zero hn⟩
 · exact .inr ⟨g,0,cap,cur,hv,h2,h3,h4,by omega,by rw [List.drop_zero];simpa using h6⟩
/-- Appending a string. -/
theorem VRow.append {w:World} {t u ty:TypeId} (ht:Try.prog.underlying t = some (.slice 5)) (hu:Try.prog.underlying u = some .string)
 {v:Value} {l:L8} (h:VRow w v l) (s:ByteArray) (hb:l.length + s.size ≤ 140737488355328) :
 ∃ v' w',(Builtin.append_ #[t,u] ty #[v,.string s]).run Try.prog w = .ok v' w' ∧ VRow w' v' (l ++ s.data.toList) ∧ w.grownBy w' v.ownBlock ∧ (v'.ownBlock = v.ownBlock ∨ v'.ownBlock = some w.heap.size):=by
 obtain ⟨i0,hi,hz0,hz1,hz2⟩:=info5
 have hsl:s.data.toList.length = s.size:=size_list s
 have hcell:cellB (l ++ s.data.toList) = cellB l ++ strCells s:=by unfold cellB strCells;rw [List.map_append]
 have h63:l.length + s.size ≤ maxLen:=by unfold maxLen;omega
 rcases h with ⟨rfl,rfl⟩ | ⟨g,off,cap,cur,rfl,e2,e3,e4,e5,e6⟩
 · obtain ⟨v',w',hr,h2,h3,h4⟩:=run_append_own_string (P:=Try.prog) w 0 t u ty 5 i0 ht hu hi hz0 hz1 hz2 (.slice none 0 0) 0 [] (World.ownsRow_nil w 0 _ 1) s (by simpa using h63) (by simpa using hb) (Nat.zero_le _)
   have hw:=where_str ht hu hi hz0 hz1 hz2 (World.ownsRow_nil w 0 5 1) (by simpa using h63) (by simpa using hb) h4 hr
   refine ⟨v',w',hr,VRow.of_owns (B:=0) ?_,h3,hw⟩
   rw [List.nil_append,hsl]
   simpa [strCells_cellB] using h2
 · by_cases hroom:l.length + s.size ≤ cap
   · have hf:=run_firstCells_string (P:=Try.prog) w 1 s
     have hst:=run_storeCells_at Try.prog g (off + l.length) 5 (strCells s) 0 cur w e2 (by rw [strCells_length];omega) (strCells_oneCell s)
     simp only [Nat.add_zero,strCells_length] at hst
     refine ⟨.slice (some ⟨g,off,none⟩) (l.length + s.size) cap,w.setRow g (cur.toList.take (off + l.length) ++ strCells s ++ cur.toList.drop (off + l.length + s.size)).toArray,?_,?_,?_,.inl rfl⟩
     · simp [Builtin.append_,run_underlying ht,run_underlying hu,sizeOf,typeInfo,hi,hz1,Builtin.lenOf,hroom,hf,Addr.add_lit,hst]
     · refine .inr ⟨g,off,cap,_,by rw [List.length_append,hsl],setRow_heap w g cur _ _ _ e2,by rw [List.length_append,hsl];exact hroom,e4,?_,?_⟩
       · simp only [List.size_toArray,List.length_append,List.length_take,List.length_drop,Array.length_toList,strCells_length]
         omega
       · have hcs:cur.toList.length = cur.size:=Array.length_toList
         rw [hcell,List.length_append,hsl,List.append_assoc,List.drop_append,List.drop_take,show off - (List.take (off + l.length) cur.toList).length = 0 by rw [List.length_take];omega,List.drop_zero,
          show off + l.length - off = l.length by omega,e6,← List.append_assoc]
         refine List.take_left' ?_
         rw [List.length_append,cellB_len,strCells_length]
     · exact ⟨rfl,rfl,rfl,by simp,fun k _ hk=>setRow_other w g k _ (fun e=>hk (by simp [Value.ownBlock,e]))⟩
   · have holds:∀ j x,(cellB l)[j]? = some x → w.cell? ((⟨g,off,none⟩:Addr).add j) = some x:=by
      intro j x hx
      have hj:j < l.length:=by
       have:=(List.getElem?_eq_some_iff.1 hx).1
       rw [cellB_len] at this;exact this
      have hc:=VRow.cells (w:=w) (g:=g) (off:=off) (n:=l.length) (cap:=cap) (l:=l) (.inr ⟨g,off,cap,cur,rfl,e2,e3,e4,e5,e6⟩) j hj
      rw [Addr.add_lit,hc]
      unfold cellB at hx
      rw [List.getElem?_map,List.getElem?_eq_getElem hj] at hx
      exact hx
     have hr:=run_append_grow_string (P:=Try.prog) w t u ty 5 i0 (.int .u8 0) ht hu hi hz0 ⟨g,off,none⟩ l.length cap (cellB l) (by rw [hz1,cellB_len,Nat.mul_one]) holds s (by omega) (by unfold maxLen at h63;omega) (by rw [hz2];exact growslice_fits (by omega) (by omega))
     refine ⟨_,_,hr,?_,⟨rfl,rfl,rfl,by simp,fun k hk _=>heap_alloc_old w.drew _ k hk⟩,.inr rfl⟩
     have hge:=grownCap_ge w (l.length + s.size) cap 5
     refine .inr ⟨w.heap.size,0,_,_,by rw [List.length_append,hsl],heap_alloc_new w.drew _,by rw [List.length_append,hsl];exact hge,grownCap_le_maxLen w (l.length + s.size) cap 5 h63,?_,?_⟩
     · have hz1':(Value.int IntKind.u8 0).cells.size = 1:=rfl
       simp only [Array.size_append,List.size_toArray,size_zeroCells,hz1',cellB_len,strCells_length]
       omega
     · simp only [List.drop_zero,Array.toList_append,List.append_assoc]
       rw [← List.append_assoc,hcell]
       refine List.take_left' ?_
       rw [List.length_append,cellB_len,strCells_length,List.length_append,hsl]
theorem wpList_append_view {w:World} {ops:Array Oper} {rest:List Oper} {o:Oper} {a:Act} {Q:Exit → Act → World → Prop} (hgd:o.guard = none) (sl x:Operand) (t u:TypeId)
 (ho:o.op = .call { callee:=.builtin .append,args:=#[sl,x],argTypes:=#[t,u] }) (ht:Try.prog.underlying t = some (.slice 5)) (hu:Try.prog.underlying u = some .string)
 (v:Value) (l:L8) (hs:a.eval sl = v) (hv:VRow w v l) (s:ByteArray) (hx:a.eval x = .string s) (hb:l.length + s.size ≤ 140737488355328)
 (h:∀ v' w',VRow w' v' (l ++ s.data.toList) → w.grownBy w' v.ownBlock → (v'.ownBlock = v.ownBlock ∨ v'.ownBlock = some w.heap.size) → wpList Try.prog ops Q rest (a.put o.dst v') w'):wpList Try.prog ops Q (o :: rest) a w:=by
 refine wpList_plain hgd fun K hK=>?_
 obtain ⟨v',w',hr,h2,h3,h4⟩:=hv.append (t:=t) (u:=u) (ty:=o.type) ht hu s hb
 unfold Oper.wp execOp
 simp only [ho,resolve,invoke,builtin,Sem.run_bind,Sem.run_pure,Result.andThen_ok,List.map_toArray,List.map_cons,List.map_nil,hs,hx,hr]
 exact hK _ _ (h v' w' h2 h3 h4)
end Go.Am.Tmf
