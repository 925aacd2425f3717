/-
 Rows and blocks for walks the kit's way, of no program: what a call may change, where a row that grows lies. Own work (taken together from the texts on Cltu).
-/
import Derived.Test.YtlgpalokjckdcaaAmY
import Derived.Lib.AppendStr
import Derived.Laws.AppendOwn
import Derived.Laws.EntriesVeiled
import Derived.Laws.IdiomStrings
namespace Go.Am.Own
open Go Go.Am Go.Am.Lib Go.Lib Go.RowKit
set_option maxRecDepth 100000

/-- Only block b is another one. -/
structure OnlyB (b:Nat) (w w':World):Prop where
 os:w'.os = w.os
 tape:w'.tape = w.tape
 output:w'.output = w.output
 size:w'.heap.size = w.heap.size
 rest:∀ k,k ≠ b → w'.heap[k]? = w.heap[k]?
theorem OnlyB.refl (b:Nat) (w:World):OnlyB b w w:=⟨rfl,rfl,rfl,rfl,fun _ _=>rfl⟩
theorem OnlyB.setCell {b:Nat} {w w':World} (h:OnlyB b w w') (o:Nat) (v:Value):OnlyB b w (w'.setCell ⟨b,o,none⟩ v):=by
 refine ⟨h.os,h.tape,h.output,?_,fun k hk=>?_⟩
 · show (w'.heap.modify b _).size = _
   rw [Array.size_modify];exact h.size
 · show (w'.heap.modify b _)[k]? = _
   rw [Array.getElem?_modify,if_neg (fun e=>hk e.symm)];exact h.rest k hk
theorem OnlyB.drew {b:Nat} {w w':World} (h:OnlyB b w w'):OnlyB b w w'.drew:=⟨h.os,h.tape,h.output,h.size,h.rest⟩
theorem cell_of {w:World} {b o:Nat} {cs:Array Value} {t:TypeId} {fr:Nat × Nat} (h:w.heap[b]? = some (.cells cs t fr)):w.cell? ⟨b,o,none⟩ = cs[o]?:=by
 unfold World.cell?;rw [h];rfl
theorem set_at {w:World} {b o:Nat} {cs:Array Value} {t:TypeId} {fr:Nat × Nat} {v:Value} (h:w.heap[b]? = some (.cells cs t fr)):(w.setCell ⟨b,o,none⟩ v).heap[b]? = some (.cells (cs.setIfInBounds o v) t fr):=by
 show (w.heap.modify b _)[b]? = _
 rw [Array.getElem?_modify,if_pos rfl,h];rfl
/-- Where a grown row lies: in its old block or in the next new one. -/
theorem where_row {P:Program} {w:World} {base:Nat} {t ty e:TypeId} {i:TypeInfo} {z:Value} {size bytes:Nat} (ht:P.underlying t = some (.slice e)) (hi:P.info? e = some i) (hz:i.zero = some z)
 (hsize:i.size = size) (hby:i.bytes = bytes)
 {v:Value} {n:Nat} {xs:List Value} (hown:w.ownsRow base e size v n xs)
 {a:Addr} {m c:Nat} {news:List Value} (hl:news.length = m * size) (hnews:∀ j u,news[j]? = some u → w.cell? (a.add j) = some u) (h1:∀ u ∈ news,u.oneCell' = true) (hm:0 < m)
 (h63:n + m ≤ maxLen) (hbytes:(n + m) * bytes ≤ 140737488355328) {v':Value} {w':World}
 (hr:(Builtin.append_ #[t,t] ty #[v,.slice (some a) m c]).run P w = .ok v' w'):v'.ownBlock = v.ownBlock ∨ v'.ownBlock = some w.heap.size:=by
 subst hsize
 subst hby
 have hsmall:n + m ≤ 9223372036854775807:=by simp only [maxLen] at h63;omega
 rcases hown.2 with ⟨rfl,rfl⟩ | ⟨g,cap,cur,rfl,hbg,hg,hnc,hcm,hcs,htake⟩
 · have hq:=run_append_nil (P:=P) w t ty e i z ht hi hz a m c news hl hnews hm (by omega) (by have hb:=hbytes;simp only [Nat.zero_add] at hb;omega)
   rw [hq] at hr
   injection hr with e1 e2
   exact Or.inr (by rw [← e1];rfl)
 · by_cases hroom:n + m ≤ cap
   · have hfit:n * i.size + news.length ≤ cur.size:=by rw [hl,hcs,← Nat.add_mul];exact Nat.mul_le_mul_right _ hroom
     have hq:=run_append_room (P:=P) w t ty e i ht hi g n cap cur hg a m c news hl hnews h1 hroom hfit
     rw [hq] at hr
     injection hr with e1 e2
     exact Or.inl (by rw [← e1];rfl)
   · have holds:∀ j u,xs[j]? = some u → w.cell? ((⟨g,0,none⟩:Addr).add j) = some u:=hown.cells (g:=g) rfl
     have hq:=run_append_grow (P:=P) w t ty e i z ht hi hz ⟨g,0,none⟩ n cap xs hown.1 holds a m c news hl hnews (by omega) (by omega) (growslice_fits (by omega) hbytes)
     rw [hq] at hr
     injection hr with e1 e2
     exact Or.inr (by rw [← e1];rfl)
theorem wpList_append_at {P:Program} {w:World} {ops:Array Oper} {rest:List Oper} {o:Oper} {a:Act} {Q:Exit → Act → World → Prop} (hgd:o.guard = none) (s x:Operand) (t:TypeId)
 (ho:o.op = .call { callee:=.builtin .append,args:=#[s,x],argTypes:=#[t,t] })
 (base:Nat) (e:TypeId) (i:TypeInfo) (z:Value) (size bytes:Nat) (ht:P.underlying t = some (.slice e)) (hi:P.info? e = some i) (hz:i.zero = some z)
 (hsize:i.size = size) (hby:i.bytes = bytes) (hzs:z.cells.size = size) (hsz:0 < size)
 (v:Value) (n:Nat) (xs:List Value) (hs:a.eval s = v) (hown:w.ownsRow base e size v n xs)
 (ad:Addr) (m c:Nat) (news:List Value) (hx:a.eval x = .slice (some ad) m c) (hl:news.length = m * size) (hnews:∀ j u,news[j]? = some u → w.cell? (ad.add j) = some u) (h1:∀ u ∈ news,u.oneCell' = true) (hm:0 < m)
 (h63:n + m ≤ maxLen) (hbytes:(n + m) * bytes ≤ 140737488355328) (hbase:base ≤ w.heap.size)
 (h:∀ v' w',w'.ownsRow base e size v' (n + m) (xs ++ news) → w.grownBy w' v.ownBlock → (v'.ownBlock = v.ownBlock ∨ v'.ownBlock = some w.heap.size) → wpList P ops Q rest (a.put o.dst v') w'):wpList P ops Q (o :: rest) a w:=by
 refine wpList_plain hgd fun K hK=>?_
 obtain ⟨v',w',hr,h2,h3,h4⟩:=run_append_own (P:=P) w base t o.type e i z size bytes ht hi hz hsize hby hzs hsz v n xs hown ad m c news hl hnews h1 h63 hbytes hbase
 have hw:=where_row ht hi hz hsize hby hown hl hnews h1 hm h63 hbytes hr
 unfold Oper.wp execOp
 simp only [ho,resolve,invoke,builtin,Sem.run_bind,Sem.run_pure,Result.andThen_ok,List.map_toArray,List.map_cons,List.map_nil,hs,hx,hr]
 exact hK _ _ (h v' w' h2 h3 hw)
theorem where_str {P:Program} {w:World} {base:Nat} {t u ty e:TypeId} {i:TypeInfo} (ht:P.underlying t = some (.slice e)) (hu:P.underlying u = some .string) (hi:P.info? e = some i) (hz:i.zero = some (.int .u8 0))
 (hsize:i.size = 1) (hby:i.bytes = 1)
 {v:Value} {n:Nat} {xs:List Value} (hown:w.ownsRow base e 1 v n xs) {s:ByteArray} (h63:n + s.size ≤ maxLen) (hbytes:n + s.size ≤ 140737488355328) {v':Value} {w':World}
 (h4:v' = .slice none 0 0 ↔ v = .slice none 0 0 ∧ s.size = 0)
 (hr:(Builtin.append_ #[t,u] ty #[v,.string s]).run P w = .ok v' w'):v'.ownBlock = v.ownBlock ∨ v'.ownBlock = some w.heap.size:=by
 have hsmall:n + s.size ≤ 9223372036854775807:=by simp only [maxLen] at h63;omega
 have hxl:xs.length = n:=by simpa using hown.1
 rcases hown.2 with ⟨rfl,rfl⟩ | ⟨g,cap,cur,rfl,hbg,hg,hnc,hcm,hcs,htake⟩
 · by_cases hm:s.size = 0
   · exact Or.inl (by rw [h4.2 ⟨rfl,hm⟩])
   · have hq:=run_append_nil_string (P:=P) w t u ty e i (.int .u8 0) ht hu hi hz s (by omega) (by omega) (by rw [hby];omega)
     rw [hq] at hr
     injection hr with e1 e2
     exact Or.inr (by rw [← e1];rfl)
 · by_cases hroom:n + s.size ≤ cap
   · have hcs':cur.size = cap:=by simpa using hcs
     have hq:=run_append_room_string (P:=P) w t u ty e i ht hu hi hsize g n cap cur hg s hroom (by omega)
     rw [hq] at hr
     injection hr with e1 e2
     exact Or.inl (by rw [← e1];rfl)
   · have holds:∀ j u,xs[j]? = some u → w.cell? ((⟨g,0,none⟩:Addr).add j) = some u:=hown.cells (g:=g) rfl
     have hq:=run_append_grow_string (P:=P) w t u ty e i (.int .u8 0) ht hu hi hz ⟨g,0,none⟩ n cap xs (by rw [hsize];simpa using hxl) holds s (by omega) (by omega) (by rw [hby];exact growslice_fits (by omega) (by omega))
     rw [hq] at hr
     injection hr with e1 e2
     exact Or.inr (by rw [← e1];rfl)

/-- The same row, owned from higher up. -/
theorem ownsRow_up {w:World} {B B':Nat} {e:TypeId} {size:Nat} {v:Value} {n:Nat} {xs:List Value} (h:w.ownsRow B e size v n xs) (hB:B' ≤ B):w.ownsRow B' e size v n xs:=by
 obtain ⟨h1,h2⟩:=h
 rcases h2 with h2 | ⟨g,cap,cur,e1,e2,e3⟩
 · exact ⟨h1,Or.inl h2⟩
 · exact ⟨h1,Or.inr ⟨g,cap,cur,e1,Nat.le_trans hB e2,e3⟩⟩
theorem ownsRow_keep {w w':World} {B:Nat} {e:TypeId} {size:Nat} {v:Value} {n:Nat} {xs:List Value} (h:w.ownsRow B e size v n xs) (hk:∀ k,v.ownBlock = some k → w'.heap[k]? = w.heap[k]?):w'.ownsRow B e size v n xs:=by
 obtain ⟨h1,h2⟩:=h
 rcases h2 with h2 | ⟨g,c,cur,e1,e2,e3,e4⟩
 · exact ⟨h1,Or.inl h2⟩
 · exact ⟨h1,Or.inr ⟨g,c,cur,e1,e2,(hk g (by rw [e1];rfl)).trans e3,e4⟩⟩
/-- A row is a slice of its length. -/
theorem ownsRow_slice {w:World} {B:Nat} {e:TypeId} {size:Nat} {v:Value} {n:Nat} {xs:List Value} (h:w.ownsRow B e size v n xs):∃ ao cap,v = .slice ao n cap:=by
 rcases h.2 with ⟨hv,hn⟩ | ⟨g,cap,cur,hv,_⟩
 · subst hn;exact ⟨_,_,hv⟩
 · exact ⟨_,_,hv⟩
theorem ownsRow_neb {w:World} {B e size:Nat} {v:Value} {n:Nat} {xs:List Value} {b T:Nat} {cs:Array Value} {fr:Nat × Nat} (h:w.ownsRow B e size v n xs) (hb:w.heap[b]? = some (.cells cs T fr)) (hne:e ≠ T):v.ownBlock ≠ some b:=by
 rcases h.2 with ⟨h2,_⟩ | ⟨g,cap,cur,e1,_,e3,_⟩
 · rw [h2];intro h;cases h
 · rw [e1];intro h
   have hg:g = b:=by injection h
   rw [hg,hb] at e3
   injection e3 with e3
   injection e3 with _ e3 _
   exact hne e3.symm

/-- Only the blocks in S are others. -/
structure FrS (S:Nat → Prop) (w w':World):Prop where
 os:w'.os = w.os
 tape:w'.tape = w.tape
 output:w'.output = w.output
 size:w.heap.size ≤ w'.heap.size
 block:∀ k,¬ S k → w'.heap[k]? = w.heap[k]?
theorem lt_of_not {S:Nat → Prop} {n k:Nat} (hS:∀ k,n ≤ k → S k) (hk:¬ S k):k < n:=by
 rcases Nat.lt_or_ge k n with h | h
 · exact h
 · exact absurd (hS k h) hk
theorem FrS.refl (S:Nat → Prop) (w:World):FrS S w w:=⟨rfl,rfl,rfl,Nat.le_refl _,fun _ _=>rfl⟩
theorem FrS.trans {S:Nat → Prop} {w w1 w2:World} (h:FrS S w w1) (h2:FrS S w1 w2):FrS S w w2 :=
 ⟨h2.os.trans h.os,h2.tape.trans h.tape,h2.output.trans h.output,Nat.le_trans h.size h2.size,fun k hk=>(h2.block k hk).trans (h.block k hk)⟩
theorem FrS.mono {S S':Nat → Prop} {w w':World} (h:FrS S w w') (hs:∀ k,S k → S' k):FrS S' w w':=⟨h.os,h.tape,h.output,h.size,fun k hk=>h.block k fun e=>hk (hs k e)⟩
theorem FrS.alloc {S:Nat → Prop} {w w1:World} (h:FrS S w w1) (hS:∀ k,w1.heap.size ≤ k → S k) (o:Obj):FrS S w (w1.alloc o) :=
 ⟨h.os,h.tape,h.output,Nat.le_trans h.size (by show _ ≤ (w1.heap.push _).size;rw [Array.size_push];omega),fun k hk=>((World.grownBy_alloc w1 o none).block k (lt_of_not hS hk) (by simp)).trans (h.block k hk)⟩
theorem FrS.grown {S:Nat → Prop} {w w1 w2:World} {row:Option Nat} (h:FrS S w w1) (hg:w1.grownBy w2 row) (hS:∀ k,w1.heap.size ≤ k → S k) (hr:∀ k,row = some k → S k):FrS S w w2 :=
 ⟨hg.os.trans h.os,hg.tape.trans h.tape,hg.output.trans h.output,Nat.le_trans h.size hg.size,fun k hk=>(hg.block k (lt_of_not hS hk) (fun e=>hk (hr k e.symm))).trans (h.block k hk)⟩
theorem FrS.drew {S:Nat → Prop} {w w':World} (h:FrS S w w'):FrS S w w'.drew:=⟨h.os,h.tape,h.output,h.size,h.block⟩
theorem OnlyB.fr {S:Nat → Prop} {b:Nat} {w w':World} (h:OnlyB b w w') (hb:S b):FrS S w w':=⟨h.os,h.tape,h.output,Nat.le_of_eq h.size.symm,fun k hk=>h.rest k fun e=>hk (by rw [e];exact hb)⟩
theorem fr_of {S:Nat → Prop} {w1 w2:World} (h:Below w1.heap.size w1 w2) (hS:∀ k,w1.heap.size ≤ k → S k):FrS S w1 w2:=⟨h.os,h.tape,h.output,h.size,fun k hk=>h.block k (lt_of_not hS hk)⟩
theorem FrS.below {S:Nat → Prop} {B0:Nat} {w w':World} (h:FrS S w w') (h1:∀ k,k < B0 → ¬ S k):Below B0 w w':={ os:=h.os,tape:=h.tape,output:=h.output,size:=h.size,block:=fun k hk=>h.block k (h1 k hk) }
theorem up_S {S:Nat → Prop} {w w':World} (hS:∀ k,w.heap.size ≤ k → S k) (h:w.heap.size ≤ w'.heap.size):∀ k,w'.heap.size ≤ k → S k:=fun k hk=>hS k (Nat.le_trans h hk)
/-- A row that grew lies in S. -/
theorem in_S {S:Nat → Prop} {w:World} {v v':Value} (hS:∀ k,w.heap.size ≤ k → S k) (hs:∀ k,v.ownBlock = some k → S k) (hw:v'.ownBlock = v.ownBlock ∨ v'.ownBlock = some w.heap.size):∀ k,v'.ownBlock = some k → S k:=by
 intro k hk
 rcases hw with e | e
 · exact hs k (by rw [← e];exact hk)
 · rw [e] at hk;injection hk with hk;exact hS k (by omega)
theorem cell_one (w:World) (t:TypeId) (v:Value):∀ j u,[v][j]? = some u → (w.alloc (.cells #[v] t)).cell? ((⟨w.heap.size,0,none⟩:Addr).add j) = some u:=by
 intro j u hj
 obtain rfl:j = 0:=by
  rcases Nat.eq_zero_or_pos j with h | h
  · exact h
  · rw [List.getElem?_eq_none (by show 1 ≤ j;exact h)] at hj;cases hj
 cases hj
 refine (cell_of (cs:=#[v]) (t:=t) (fr:=(0,0)) ?_).trans rfl
 show (w.heap.push _)[w.heap.size]? = _
 rw [Array.getElem?_push_size]
section
variable {w:World} {b:Nat}
theorem fz_of {cs:Array Value} {T:TypeId} (h:w.heap[b]? = some (.cells cs T (0,0))) (o:Nat):w.frozen? ⟨b,o,none⟩ = false:=by
 unfold World.frozen?;rw [h];simp
theorem alloc_size (w:World) (o:Obj):(w.alloc o).heap.size = w.heap.size + 1:=Array.size_push _
end
theorem ownsRow_base {w:World} {B e size:Nat} {ao:Option Addr} {n n' cap:Nat} {xs:List Value} (h:w.ownsRow B e size (.slice ao n' cap) n xs) (hn:0 < n):n ≤ cap ∧ ∃ g,ao = some ⟨g,0,none⟩:=by
 rcases h.2 with ⟨_,h2⟩ | ⟨g,cap',cur,e1,e2,e3,e4,e5⟩
 · omega
 · injection e1 with q1 q2 q3
   subst q1 q3
   exact ⟨e4,g,rfl⟩
end Go.Am.Own
