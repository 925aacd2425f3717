/-
  Rows that grow. Own work.
-/
import Derived.Test.YtlgpalokjckdcaaOwnA
namespace Go.Am.Own
open Go Go.Am Go.Am.Lib Go.Lib Go.RowKit
set_option maxRecDepth 100000

section
variable {P:Program} {w:World}
end
end Go.Am.Own

namespace Go.Am.Own
open Go Go.Am Go.Am.Lib Go.Lib Go.RowKit
set_option maxRecDepth 100000

section
variable {P:Program} {w:World}
theorem run_append_src {base:Nat} {t ty e:TypeId} {i:TypeInfo} {z:Value} {bytes:Nat} (ht:P.underlying t = some (.slice e)) (hi:P.info? e = some i) (hz:i.zero = some z)
 (hsize:i.size = 1) (hby:i.bytes = bytes) (hzs:z.cells.size = 1)
 {v:Value} {n:Nat} {xs:List Value} (hown:w.ownsRow base e 1 v n xs) {ad:Addr} {m c:Nat} {ys:List Value} (hl:ys.length = m) (hys:∀ j u,ys[j]? = some u → w.cell? (ad.add j) = some u) (h1:∀ y ∈ ys,y.oneCell' = true)
 (h63:n + m ≤ maxLen) (hbytes:(n + m) * bytes ≤ 140737488355328) (hbase:base ≤ w.heap.size) :
 ∃ v' w',(Builtin.append_ #[t,t] ty #[v,.slice (some ad) m c]).run P w = .ok v' w' ∧ w'.ownsRow base e 1 v' (n + m) (xs ++ ys) ∧ w.grownBy w' v.ownBlock ∧ (v'.ownBlock = v.ownBlock ∨ v'.ownBlock = some w.heap.size):=by
 obtain ⟨v',w',hr,h2,h3,h4⟩:=run_append_own (P:=P) w base t ty e i z 1 bytes ht hi hz hsize hby hzs (by omega) v n xs hown ad m c ys (by omega) hys h1 h63 hbytes hbase
 refine ⟨v',w',hr,h2,h3,?_⟩
 rcases Nat.eq_zero_or_pos m with h0 | h0
 · subst h0
   rcases hown.2 with ⟨rfl,rfl⟩ | ⟨g',cap',cur',rfl,_,hg',hnc',hcm',hcs',_⟩
   · exact Or.inl (by rw [h4.2 ⟨rfl,rfl⟩])
   · have hy:ys = []:=List.eq_nil_of_length_eq_zero hl
     subst hy
     have hq:=run_append_room (P:=P) w t ty e i ht hi g' n cap' cur' hg' ad 0 c [] (by simp) hys (fun u hu=>by cases hu) (by omega) (by rw [hsize,hcs'];simp;omega)
     rw [hq] at hr
     injection hr with e1 e2
     exact Or.inl (by rw [← e1];rfl)
 · exact where_row ht hi hz hsize hby hown (by omega) hys h1 h0 h63 hbytes hr
end
theorem step_append_src {P:Program} {w:World} {ops:Array Oper} {o:Oper} {a:Act} {K:Act → World → Prop} {Q:Exit → Act → World → Prop} {E:Prop} (hgd:o.guard = none) (s x:Operand) (t:TypeId)
 (ho:o.op = .call { callee:=.builtin .append,args:=#[s,x],argTypes:=#[t,t] })
 (base:Nat) (e:TypeId) (i:TypeInfo) (z:Value) (bytes:Nat) (ht:P.underlying t = some (.slice e)) (hi:P.info? e = some i) (hz:i.zero = some z)
 (hsize:i.size = 1) (hby:i.bytes = bytes) (hzs:z.cells.size = 1)
 (v:Value) (n:Nat) (xs:List Value) (hs:a.eval s = v) (hown:w.ownsRow base e 1 v n xs)
 (ad:Addr) (m c:Nat) (ys:List Value) (hx:a.eval x = .slice (some ad) m c) (hl:ys.length = m) (hys:∀ j u,ys[j]? = some u → w.cell? (ad.add j) = some u) (h1:∀ y ∈ ys,y.oneCell' = true)
 (h63:n + m ≤ maxLen) (hbytes:(n + m) * bytes ≤ 140737488355328) (hbase:base ≤ w.heap.size)
 (h:∀ v' w',w'.ownsRow base e 1 v' (n + m) (xs ++ ys) → w.grownBy w' v.ownBlock → (v'.ownBlock = v.ownBlock ∨ v'.ownBlock = some w.heap.size) → K (a.put o.dst v') w') :
 if Region.wanted o (yielded ops a.tmps) = true then Oper.wp P o a w K Q else E:=by
 have hw:Region.wanted o (yielded ops a.tmps) = true:=by simp [Region.wanted,hgd]
 rw [if_pos hw]
 obtain ⟨v',w',hr,h2,h3,hw⟩:=run_append_src (P:=P) (ty:=o.type) ht hi hz hsize hby hzs hown hl hys h1 h63 hbytes hbase
 unfold Oper.wp execOp
 simp only [ho,resolve,invoke,builtin,Sem.run_bind,Sem.run_pure,Result.andThen_ok,List.map_toArray,List.map_cons,List.map_nil,hs,hx]
 rw [hr]
 exact h v' w' h2 h3 hw
end Go.Am.Own
