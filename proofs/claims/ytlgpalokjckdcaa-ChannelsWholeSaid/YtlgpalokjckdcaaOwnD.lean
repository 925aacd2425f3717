/-
 slices of integers, strings and bools as arguments, cell by cell. Own work.
-/
import Derived.Test.YtlgpalokjckdcaaAmY
import Derived.ChangeSlices
import Derived.Deep.Strs
import Derived.Deep.Grids
namespace Go.Am.Own
open Go Go.Am Go.RowKit Go.WideShapes Go.ChangeShapes

section
variable {H:Type} {enc:TypeId × Value → H} {P:Program} {w:World} {t e:TypeId} {v:Value} {r:Reach} {b0:Nat} {d:DataW H} {p:List MemPlace}
theorem in_block {w:World} {a:Addr} {i:Nat} {u:Value} (h:w.cell? (a.add i) = some u):(a.add i).block < w.heap.size:=World.block_lt_of_cell? w _ h
theorem one_slice (ht:P.underlying t = some (.slice e)) (hv:Value.okWide P w r b0 t v) {a:Option Addr} {n c:Nat} (h:v.cells.toList = [.slice a n c]):v = .slice a n c:=by
 rcases okWide_slice ht hv with rfl | ⟨a',len,cap,rfl,_⟩
 · have h:[Value.slice none 0 0] = [Value.slice a n c]:=h
   injection h
 · have h:[Value.slice (some a') len cap] = [Value.slice a n c]:=h
   injection h
theorem bools_in (ht:P.underlying t = some (.slice e)) (he:P.underlying e = some .bool) (hc:P.cellsOf e = 1) (hv:Value.okWide P w r b0 t v) (h:DataW.Trod enc P w 0 (fun _=>true) true t v d p) :
 ∃ (ao:Option Addr) (n cap:Nat) (B:Nat → Bool),v = .slice ao n cap ∧ ∀ i,i < n → ∃ a,ao = some a ∧ w.cell? (a.add i) = some (.bool (B i)) ∧ (a.add i).block < w.heap.size:=by
 obtain ⟨n,hn⟩:=h
 rcases Deep.open_bools ht he hc hn with ⟨h0,_⟩ | ⟨a,len,cap,B,h1,_,hle,_,_,hel⟩
 · have h0:v = Value.slice none 0 0:=one_slice ht hv h0
   exact ⟨none,0,0,fun _=>false,h0,fun i hi=>absurd hi (by omega)⟩
 · have h1:v = Value.slice (some a) len cap:=one_slice ht hv h1
   exact ⟨some a,len,cap,B,h1,fun i hi=>⟨a,rfl,hel i (by omega),in_block (hel i (by omega))⟩⟩
end
end Go.Am.Own
