/-
  Channels: both muxes. Own work.
-/
import Derived.Test.YtlgpalokjckdcaaChaGB
import Derived.Test.YtlgpalokjckdcaaTmfQA
import Derived.Test.YtlgpalokjckdcaaChaSX
import Derived.Deep.QuietTactic
import Derived.BigQuiet
import Derived.Deep.OwnRows
import Derived.Test.YtlgpalokjckdcaaChaGF
namespace Go.Am.Cha
open Go Go.Am Go.Am.Lib Go.Lib Go.Proofs Go.RowKit
open Go.Am.Own
open Go.Am.Tmf (FS RS RAt RC OkF idleL Rel)
set_option maxRecDepth 100000

variable {S:Nat → Prop} {rb N:Nat} {bk:Nat → Nat} {M M':MS} {ys:Nat → RS} {w w':World}
end Go.Am.Cha

namespace Go.Am.Cha
open Go Go.Am Go.Am.Lib Go.Lib Go.Proofs Go.RowKit
open Go.Am.Own
open Go.Am.Tmf (FS RS RAt RC OkF idleL Rel)
set_option maxRecDepth 100000

variable {S:Nat → Prop} {rb N:Nat} {bk:Nat → Nat} {M M':MS} {ys:Nat → RS} {w w':World}
end Go.Am.Cha

namespace Go.Am.Cha
open Go Go.Am Go.Am.Lib
open Go.Am.Tmf (FS RS Rel OkF idleL)
set_option maxRecDepth 100000

end Go.Am.Cha

namespace Go.Am.Cha
open Go Go.Am Go.Am.Lib Go.Lib Go.Proofs Go.RowKit
open Go.Am.Own
open Go.Am.Tmf (FS RS RAt RC OkF idleL Rel cellI cellI_snoc)
set_option maxRecDepth 100000

variable {w wr w':World} {L:List Nat} {v v':Value}
variable {S:Nat → Prop} {rb N:Nat} {bk:Nat → Nat} {M M':MS} {ys:Nat → RS}
end Go.Am.Cha

namespace Go.Am.Cha
open Go Go.Am Go.Am.Lib Go.Lib Go.Proofs Go.RowKit
open Go.Am.Own
open Go.Am.Tmf (FS RS RAt RC OkF idleL Rel cellI)
set_option maxRecDepth 100000

variable {S:Nat → Prop} {rb N:Nat} {bk:Nat → Nat} {M M':MS} {ys:Nat → RS} {w wr w':World} {L:List Nat} {v v':Value}
end Go.Am.Cha

namespace Go.Am.Cha
open Go Go.Am Go.Am.Lib Go.Lib Go.Proofs Go.RowKit
open Go.Am.Own
open Go.Am.Tmf (FS RS RAt RC OkF idleL Rel cellI)
set_option maxRecDepth 100000

variable {S:Nat → Prop} {rb N:Nat} {bk:Nat → Nat} {M M':MS} {ys:Nat → RS} {w wr w':World} {L:List Nat} {v v':Value}
end Go.Am.Cha

namespace Go.Am.Cha
open Go Go.Am Go.Am.Lib Go.Lib Go.Proofs Go.RowKit
open Go.Am.Own
open Go.Am.Tmf (FS RS RAt RC OkF idleL Rel putT putTE)
set_option maxRecDepth 100000

variable {S:Nat → Prop} {rb N F:Nat} {bk:Nat → Nat} {M M':MS} {ys ys':Nat → RS} {w wr w':World} {fc:Array Value}
end Go.Am.Cha

namespace Go.Am.Cha
open Go Go.Am Go.Am.Lib Go.Lib Go.Proofs Go.RowKit
open Go.Am.Own
open Go.Am.Tmf (FS RS RAt RC OkF idleL Rel putT putTE)
set_option maxRecDepth 100000

variable {S:Nat → Prop} {rb N F:Nat} {bk:Nat → Nat} {M M':MS} {ys ys':Nat → RS} {w wr w':World} {fc:Array Value}
end Go.Am.Cha

namespace Go.Am.Cha
open Go Go.Am Go.Am.Lib Go.Lib Go.Proofs Go.RowKit
open Go.Am.Own
open Go.Am.Tmf (FS RS RAt RC OkF idleL Rel rs0)
set_option maxRecDepth 100000

variable {w wr w' w1:World} {mb crf sz n:Nat} {bk bk':Nat → Nat} {P Q:Nat → Int}
end Go.Am.Cha

namespace Go.Am.Cha
open Go Go.Am Go.Am.Lib Go.Lib Go.Proofs Go.RowKit
open Go.Am.Own
open Go.Am.Tmf (FS FAt RS RAt RC OkF idleL Rel rs0 fs0)
set_option maxRecDepth 100000

variable {S:Nat → Prop} {mb g cap rb N:Nat} {bk rk:Nat → Nat} {M M' R R':MS} {ys ys':Nat → RS} {w wr w':World}
end Go.Am.Cha

namespace Go.Am.Cha
open Go Go.Am Go.Am.Lib Go.Lib Go.Proofs Go.RowKit
open Go.Am.Own
open Go.Am.Tmf (FS FAt RS RAt RC OkF idleL Rel rs0 fs0 putT putTE)
set_option maxRecDepth 100000

variable {H:Nat → Prop} {W w w':World} {S:Nat → Prop} {mb g cap rb N:Nat} {bk rk:Nat → Nat} {M M' R R':MS} {ys ys':Nat → RS}
theorem MC.shrink (h:MC S mb g cap bk M w) (hk:∀ k,S k → k < w.heap.size → w'.heap[k]? = w.heap[k]?):MC (ShS S w.heap.size w'.heap.size) mb g cap bk M w' :=
 h.keep hk (fun _ hk=>.inr hk) fun _ hk hs=>.inl ⟨hs,hk⟩

/-! ### the calls -/
/-- A mux behind Next. -/
def nextM (M:MS):MS:=if waitJ M 8 = [] then tickM M 7 else tickM (fieldM (chooseM M) (chosen M)) (chosen M)
/-- The frame and its error. -/
def nextS (M:MS) (wd:Nat):ByteArray:=if waitJ M 8 = [] then putT ((M.craft:Nat):Int) 7 ((M.master:Nat):Int) (((M.f 7).ct:Nat):Int) 2046 (uuu M.size) ((wd:Nat):Int) else putT ((M.craft:Nat):Int) ((chosen M:Nat):Int) ((M.master:Nat):Int) ((((fieldM (chooseM M) (chosen M)).f (chosen M)).ct:Nat):Int) ((((chooseM M).f (chosen M)).x.first idleL:Nat):Int) ⟨⟨((chooseM M).f (chosen M)).x.data idleL⟩⟩ ((wd:Nat):Int)
def nextE (M:MS):Int:=if waitJ M 8 = [] then putTE ((M.craft:Nat):Int) 7 ((M.master:Nat):Int) (((M.f 7).ct:Nat):Int) 2046 (uuu M.size) else putTE ((M.craft:Nat):Int) ((chosen M:Nat):Int) ((M.master:Nat):Int) ((((fieldM (chooseM M) (chosen M)).f (chosen M)).ct:Nat):Int) ((((chooseM M).f (chosen M)).x.first idleL:Nat):Int) ⟨⟨((chooseM M).f (chosen M)).x.data idleL⟩⟩
theorem data_le {x:FS} (h:OkF x N):(⟨⟨x.data idleL⟩⟩:ByteArray).size ≤ 1000:=by
 have h1:=h.hi
 show (((x.pad idleL).q.take x.size).length) ≤ 1000
 rw [List.length_take];omega
theorem firstOf_le (n:Nat):∀ st:List Nat,Tmf.firstOf n st ≤ max n 2047
 | []=>by show 2047 ≤ _;omega
 | a :: l=>by
  rw [Tmf.firstOf_cons]
  split
  · omega
  · omega
theorem first_le {x:FS} (h:OkF x N):x.first idleL ≤ 100000:=by
 have h1:=h.hi
 have h2:=firstOf_le x.size (x.pad idleL).st
 show Tmf.firstOf x.size (x.pad idleL).st ≤ 100000
 omega
end Go.Am.Cha

namespace Go.Am.Cha
open Go Go.Am Go.Am.Lib
open Go.Am.Tmf (FS RS Rel OkF idleL addE fs0 rs0)
set_option maxRecDepth 100000

variable {N:Nat} {M:MS} {ys:Nat → RS}
theorem okI_up {N':Nat} (h:OkI N M) (hN:N ≤ N') (h2:N' ≤ 2 ^ 20):OkI N' M :=
 ⟨⟨h.ok.craft,h.ok.lo,h.ok.hi,h.ok.master,fun k hk=>OkF.up2 (h.ok.x k hk) hN h2,h.ok.sz,h.ok.pr,h.ok.sh,h.ok.cr,h.ok.ct⟩,h.i⟩
theorem okI_tick (h:OkI N M) {k:Nat} (hk:k < 8):OkI N (tickM M k):=by
 have hu:∀ j,(tickM M k).f j = if j = k then { M.f k with ct:=((M.f k).ct + 1) % 256 } else M.f j:=fun j=>rfl
 refine ⟨⟨h.ok.craft,h.ok.lo,h.ok.hi,Nat.mod_lt _ (by decide),?_,?_,?_,?_,?_,?_⟩,?_⟩
 all_goals
  intro j hj
  rw [hu j]
  split
  · first
    | exact h.ok.x k hk
    | exact h.ok.sz k hk
    | exact h.ok.pr k hk
    | exact h.ok.sh k hk
    | exact h.ok.cr k hk
    | exact Nat.mod_lt _ (by decide)
    | exact h.i k hk
  · first
    | exact h.ok.x j hj
    | exact h.ok.sz j hj
    | exact h.ok.pr j hj
    | exact h.ok.sh j hj
    | exact h.ok.cr j hj
    | exact h.ok.ct j hj
    | exact h.i j hj
theorem okI_next (h:OkI N M) (hN:N + 1 ≤ 2 ^ 20):OkI (N + 1) (nextM M):=by
 unfold nextM
 by_cases hw:waitJ M 8 = []
 · rw [if_pos hw]
   exact okI_up (okI_tick h (by decide)) (Nat.le_succ N) hN
 · rw [if_neg hw]
   exact h.next hN hw (bests_lt (topS_mem (bests_ne hw)))
theorem okI_made {crf sz:Nat} {P Q:Nat → Int} (h0:crf ≤ 255) (h1:32 ≤ sz) (h2:sz ≤ 200) (h:∀ k,k < 8 → okPQ P Q k):OkI 0 ⟨crf,sz,0,sr0 sz P Q⟩:=by
 refine ⟨⟨h0,h1,h2,(by decide:0 < 256),fun _ _=>Tmf.OkF.zero h1 h2,fun _ _=>rfl,fun k hk=>?_,fun k hk=>?_,fun _ _=>Nat.zero_le _,fun _ _=>by show 0 < 256;decide⟩,fun _ _=>Nat.zero_le _⟩
 · have:=h k hk
   unfold okPQ at this
   show (P k).toNat ≤ 7
   omega
 · have:=h k hk
   unfold okPQ at this
   show 1 ≤ (Q k).toNat ∧ (Q k).toNat ≤ 100
   omega
end Go.Am.Cha
