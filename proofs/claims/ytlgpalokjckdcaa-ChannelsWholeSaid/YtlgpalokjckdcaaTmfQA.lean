/-
  Tmframe: the reference's filler, both fillers. Own work.
-/
import Derived.Test.YtlgpalokjckdcaaTmfAD
import Derived.Test.YtlgpalokjckdcaaOwnBC
import Derived.BigQuiet
import Derived.Deep.RegionHeld3
namespace Go.Am.Tmf
open Go Go.Am Go.Am.Lib Go.Lib Go.Proofs Go.RowKit
open Go.Am.Own
set_option maxRecDepth 100000

def strB (l:L8):ByteArray:=⟨⟨l⟩⟩
def cellS (L:List L8):List Value:=L.map fun l=>.string (strB l)
theorem cellS_len (L:List L8):(cellS L).length = L.length:=by unfold cellS;rw [List.length_map]
/-- The reference's filler: its block and its row. -/
structure RC (S:Nat → Prop) (b:Nat) (v:Value) (y:RS) (w:World):Prop where
 hS:∀ k,w.heap.size ≤ k → S k
 hb:S b
 cell:w.heap[b]? = some (.cells #[intV y.size,v,.bool y.begun,.string (strB y.rest)] 171 (0,0))
 r:w.ownsRow 0 9 1 v y.L.length (cellS y.L)
 s:∀ k,v.ownBlock = some k → S k
section
variable {S:Nat → Prop} {b:Nat} {v:Value} {y:RS} {w w':World}
end
def RAt (S:Nat → Prop) (b:Nat) (y:RS) (w:World):Prop:=∃ v,RC S b v y w
def rs0 (n:Nat):RS:=⟨n,[],false,[]⟩
end Go.Am.Tmf

namespace Go.Am.Tmf
open Go Go.Am Go.Am.Lib Go.Lib Go.Proofs Go.RowKit
open Go.Am.Own
set_option maxRecDepth 100000

end Go.Am.Tmf

namespace Go.Am.Tmf
open Go Go.Am Go.Am.Lib Go.Lib Go.Proofs Go.RowKit
open Go.Am.Own
set_option maxRecDepth 100000

theorem infoS:∃ i0,Try.prog.info? 9 = some i0 ∧ i0.zero = some (.string ⟨#[]⟩) ∧ i0.size = 1 ∧ i0.bytes = 16:=by
 have h:(Try.prog.info? 9).map (fun i=>(i.zero,i.size,i.bytes)) = some (some (.string ⟨#[]⟩),1,16):=by kernel_rfl
 obtain ⟨i,h1,h2⟩:=Option.map_eq_some_iff.1 h
 simp only [Prod.mk.injEq] at h2
 exact ⟨i,h1,h2.1,h2.2.1,h2.2.2⟩
end Go.Am.Tmf

namespace Go.Am.Tmf
open Go Go.Am Go.Am.Lib Go.Lib Go.Proofs Go.RowKit
open Go.Am.Own
set_option maxRecDepth 100000

def sLen:Value → Nat
  | .string s=>s.size
  | _=>0
end Go.Am.Tmf

namespace Go.Am.Tmf
open Go Go.Am Go.Am.Lib Go.Lib Go.Proofs Go.RowKit
open Go.Am.Own
set_option maxRecDepth 100000

end Go.Am.Tmf

namespace Go.Am.Tmf
open Go Go.Am Go.Am.Lib Go.Proofs
set_option maxRecDepth 100000

end Go.Am.Tmf

namespace Go.Am.Tmf
open Go Go.Am Go.Am.Lib Go.Lib Go.Proofs Go.RowKit
open Go.Am.Own
set_option maxRecDepth 100000

/-- What a filler in a later world needs: no more than it holds, and what is new then. -/
def ShS (S:Nat → Prop) (n m:Nat):Nat → Prop:=fun k=>(S k ∧ k < n) ∨ m ≤ k
theorem ShS.old {S:Nat → Prop} {n m k:Nat} (h:ShS S n m k) (hk:k < m):S k ∧ k < n:=by
 rcases h with h | h
 · exact h
 · omega
/-- The two fillers of the law, after N calls; B: where they begin. -/
structure Two (B b1 b2 N:Nat) (x:FS) (y:RS) (w:World):Prop where
 ex:∃ S1 S2:Nat → Prop,FAt S1 b1 x w ∧ RAt S2 b2 y w ∧ (∀ k,k < w.heap.size → S1 k → ¬ S2 k) ∧ (∀ k,k < w.heap.size → S1 k → B ≤ k) ∧ (∀ k,k < w.heap.size → S2 k → B ≤ k)
 rel:Rel x y
 ok:OkF x N
end Go.Am.Tmf

namespace Go.Am.Tmf
open Go Go.Am Go.Am.Lib Go.Lib Go.Proofs Go.RowKit
open Go.Am.Own
set_option maxRecDepth 100000

theorem OkF.zero {n:Nat} (lo:32 ≤ n) (hi:n ≤ 200):OkF (fs0 n) 0:={ lo:=lo,hi:=hi,idle:=Nat.zero_le _,q:=Nat.zero_le _,st:=Nat.zero_le _,sv:=fun a h=>(by cases h),n:=Nat.zero_le _ }
end Go.Am.Tmf
