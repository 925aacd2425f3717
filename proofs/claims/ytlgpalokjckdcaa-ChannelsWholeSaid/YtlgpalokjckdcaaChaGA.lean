/-
  Channels: the best by a rule. Own work.
-/
import Derived.Test.YtlgpalokjckdcaaAmY
import Derived.Test.YtlgpalokjckdcaaProg
import Derived.Test.YtlgpalokjckdcaaOwnA
import Derived.Lib.Hide
import Derived.WalkKit
import Derived.WalkSpells
import Derived.StillTailTactics
import Derived.Deep.RegionLaw
import Derived.Deep.AppendLies
import Derived.Shelf.RegionOpen
import Derived.Deep.RegionWith
import Derived.BigQuiet
namespace Go.Am.Cha
open Go Go.Am Go.Am.Lib
set_option maxRecDepth 100000

/-- One more channel is looked at. -/
def bestStep (val:Nat → Nat):List Nat → Nat → List Nat
 | [],s=>[s]
 | o :: r,s=>if val o < val s then [s] else if val s = val o then o :: r ++ [s] else o :: r
def best (val:Nat → Nat) (l:List Nat):List Nat:=l.foldl (bestStep val) []
theorem best_snoc (val:Nat → Nat) (l:List Nat) (s:Nat):best val (l ++ [s]) = bestStep val (best val l) s:=by
 unfold best
 rw [List.foldl_append];rfl
theorem bestStep_ne (val:Nat → Nat) (out:List Nat) (s:Nat):bestStep val out s ≠ []:=by
 cases out with
 | nil=>exact List.cons_ne_nil _ _
 | cons o r =>
  show (if val o < val s then [s] else if val s = val o then o :: r ++ [s] else o :: r) ≠ []
  split
  · exact List.cons_ne_nil _ _
  · split <;> exact List.cons_ne_nil _ _
theorem best_ne {val:Nat → Nat} {l:List Nat} (h:l ≠ []):best val l ≠ []:=by
 rw [← List.dropLast_concat_getLast h,best_snoc]
 exact bestStep_ne _ _ _
theorem bestStep_mem {val:Nat → Nat} {out:List Nat} {s a:Nat} (h:a ∈ bestStep val out s):a ∈ out ∨ a = s:=by
 cases out with
 | nil=>exact .inr (List.mem_singleton.1 h)
 | cons o r =>
  have h:a ∈ (if val o < val s then [s] else if val s = val o then o :: r ++ [s] else o :: r):=h
  split at h
  · exact .inr (List.mem_singleton.1 h)
  · split at h
    · rcases List.mem_append.1 h with h | h
      · exact .inl h
      · exact .inr (List.mem_singleton.1 h)
    · exact .inl h
theorem foldl_mem {val:Nat → Nat} {a:Nat}:∀ (l out:List Nat),a ∈ l.foldl (bestStep val) out → a ∈ out ∨ a ∈ l
 | [],out,h=>.inl h
 | s :: l,out,h=>by
  rcases foldl_mem l _ h with h | h
  · rcases bestStep_mem h with h | h
    · exact .inl h
    · exact .inr (h ▸ List.mem_cons_self ..)
  · exact .inr (List.mem_cons_of_mem _ h)
theorem best_mem {val:Nat → Nat} {l:List Nat} {a:Nat} (h:a ∈ best val l):a ∈ l:=by
 rcases foldl_mem l [] h with h | h
 · cases h
 · exact h
theorem bestStep_len (val:Nat → Nat) (out:List Nat) (s:Nat):(bestStep val out s).length ≤ out.length + 1:=by
 cases out with
 | nil=>exact Nat.le_refl _
 | cons o r =>
  show (if val o < val s then [s] else if val s = val o then o :: r ++ [s] else o :: r).length ≤ _
  split
  · show 1 ≤ _;omega
  · split
    · rw [List.length_append];exact Nat.le_refl _
    · exact Nat.le_succ _
theorem foldl_len (val:Nat → Nat):∀ (l out:List Nat),(l.foldl (bestStep val) out).length ≤ out.length + l.length
 | [],_=>Nat.le_refl _
 | s :: l,out=>by
  have h1:=foldl_len val l (bestStep val out s)
  have h2:=bestStep_len val out s
  show (l.foldl (bestStep val) (bestStep val out s)).length ≤ out.length + (l.length + 1)
  omega
theorem best_len (val:Nat → Nat) (l:List Nat):(best val l).length ≤ l.length:=by
 have:=foldl_len val l []
 rw [List.length_nil,Nat.zero_add] at this
 exact this
end Go.Am.Cha

namespace Go.Am.Cha
open Go Go.Am Go.Am.Lib Go.Lib Go.Proofs Go.RowKit
open Go.Am.Own
set_option maxRecDepth 100000

theorem one_mem {v u:Value} (hu:u ∈ [v]) (h:v.oneCell' = true):u.oneCell' = true:=by
 simp only [List.mem_cons,List.not_mem_nil,or_false] at hu;rw [hu];exact h
theorem wp_region_class {P:Program} {C:World → Prop} {id:Nat} {Q:Exit → Act → World → Prop} {a:Act} {w:World} {l:List Oper} (hm:P.follows .mixedOrders = true) (hB:Region.lexB .any l.toArray = true) (hC:C w.drew)
 (h:wpQuiet P l.toArray C (fun a'=>∀ w',C w' → Q .normal a' w') l a):(Code.region id l.toArray true).wp P Q a w :=
 wp_region_quiet hm hB hC (by simpa using h)
def iOf:Value → Nat
 | .int _ x=>x.toNat
 | _=>0
def ptrS (g i:Nat):Value:=.pointer (some ⟨g,i * 5,none⟩)
def cellP (g:Nat) (l:List Nat):List Value:=l.map (ptrS g)
theorem cellP_snoc (g:Nat) (l:List Nat) (i:Nat):cellP g l ++ [ptrS g i] = cellP g (l ++ [i]):=by unfold cellP;rw [List.map_append];rfl
theorem cellP_get {g:Nat} {l:List Nat} {j i:Nat} (h:l[j]? = some i):(cellP g l)[j]? = some (ptrS g i):=by unfold cellP;rw [List.getElem?_map,h];rfl
theorem infoP:∃ i0,Try.prog.info? 111 = some i0 ∧ i0.zero = some (.pointer none) ∧ i0.size = 1 ∧ i0.bytes = 8:=by
 have h:(Try.prog.info? 111).map (fun i=>(i.zero,i.size,i.bytes)) = some (some (.pointer none),1,8):=by kernel_rfl
 obtain ⟨i,h1,h2⟩:=Option.map_eq_some_iff.1 h
 simp only [Prod.mk.injEq] at h2
 exact ⟨i,h1,h2.1,h2.2.1,h2.2.2⟩
/-- What best has found behind j channels; F: its rule. -/
structure Rb (w:World) (F:Nat) (fv:Value) (g:Nat) (O:List Nat) (ov:Value) (wr:World):Prop where
 row:wr.ownsRow F 111 1 ov O.length (cellP g O)
 b:Below F w wr
 box:wr.heap[F]? = some (.cells #[fv] 151 (0,0))
variable {w:World} {F:Nat} {fv:Value} {g:Nat} {O:List Nat} {ov:Value} {wr w':World}
theorem Rb.below (h:Rb w F fv g O ov wr) (hb:Below wr.heap.size wr w'):Rb w F fv g O ov w' :=
 ⟨ownsRow_keep h.row fun k hk=>hb.block k (h.row.lt k hk).2,h.b.trans (hb.mono (Nat.le_of_lt (Array.getElem?_eq_some_iff.1 h.box).1)),(hb.block F (Array.getElem?_eq_some_iff.1 h.box).1).trans h.box⟩
theorem Rb.drew (h:Rb w F fv g O ov wr):Rb w F fv g O ov wr.drew:=h.below (Below.refl _ wr).drew
theorem Rb.fn (h:Rb w F fv g O ov wr):wr.cell? ⟨F,0,none⟩ = some fv:=cell_of h.box
theorem Rb.lo (h:Rb w F fv g O ov wr):F ≤ wr.heap.size:=Nat.le_of_lt (Array.getElem?_eq_some_iff.1 h.box).1
theorem Rb.first {og n cap o:Nat} {r:List Nat} (h:Rb w F fv g (o :: r) (.slice (some ⟨og,0,none⟩) n cap) wr):wr.cell? ⟨og,0,none⟩ = some (ptrS g o):=by
 have hn:n = (o :: r).length:=by
  rcases h.row.2 with ⟨e,_⟩ | ⟨_,_,_,e,_⟩
  · cases e
  · injection e
 have e:=h.row
 rw [hn] at e
 rw [e.cellAt 0 (by show 0 < (r.length + 1) * 1;omega)]
 rfl
theorem Rb.nil (h:Rb w F fv g O ov wr):Rb w F fv g [] (.slice none 0 0) wr:=⟨World.ownsRow_nil _ _ _ _,h.b,h.box⟩
/-- A channel is put behind them. -/
theorem Rb.push {i:Nat} {v':Value} {o:Obj} (h:Rb w F fv g O ov wr) (hr:w'.ownsRow F 111 1 v' (O.length + 1) (cellP g O ++ [ptrS g i])) (hg:(wr.alloc o).grownBy w' ov.ownBlock):Rb w F fv g (O ++ [i]) v' w':=by
 have h1:=h.below ((Below.refl _ wr).alloc (Nat.le_refl _) o)
 refine ⟨by rw [List.length_append,← cellP_snoc];exact hr,⟨hg.os.trans h1.b.os,hg.tape.trans h1.b.tape,hg.output.trans h1.b.output,Nat.le_trans h1.b.size hg.size,fun k hk=>(hg.block k (Nat.lt_of_lt_of_le hk h1.lo) fun e=>?_).trans (h1.b.block k hk)⟩,(hg.block F (Array.getElem?_eq_some_iff.1 h1.box).1 fun e=>?_).trans h1.box⟩
 · have:=(h1.row.lt k e.symm).1;omega
 · exact ownsRow_neb h1.row h1.box (by decide) e.symm
end Go.Am.Cha
