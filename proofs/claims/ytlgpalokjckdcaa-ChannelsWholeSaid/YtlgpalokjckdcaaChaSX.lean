/-
  Channels: the best by a rule; a mux's numbers. Own work.
-/
import Derived.Test.YtlgpalokjckdcaaChaGC
namespace Go.Am.Cha
open Go Go.Am Go.Am.Lib
set_option maxRecDepth 100000

/-! ### a run: all eight channels are full and of one priority -/
end Go.Am.Cha

namespace Go.Am.Cha
open Go Go.Am Go.Am.Lib
open Go.Am.Tmf (FS OkF idleL addE fs0)
set_option maxRecDepth 100000

theorem OkF.up2 {x:FS} {N N':Nat} (h:OkF x N) (hN:N ≤ N') (h2:N' ≤ 2 ^ 20):OkF x N':={ lo:=h.lo,hi:=h.hi,idle:=h.idle,q:=h.q,st:=Nat.le_trans h.st hN,sv:=h.sv,n:=h2 }
/-- A mux after N calls. -/
structure OkI (N:Nat) (M:MS):Prop where
 ok:OkM N M
 i:∀ k,k < 8 → (M.f k).x.idle ≤ 6
theorem addE_le {x:FS} {p:ByteArray} (h:addE x p = 0):¬ 65536 < x.wait + p.size:=by
 unfold Tmf.addE at h
 split at h
 · exact absurd h (by decide)
 · split at h
   · exact absurd h (by decide)
   · assumption
theorem okm_one {N:Nat} {M:MS} (h:OkM N M) (hN:N + 1 ≤ 2 ^ 20) {k:Nat} {s:Sr} (hx:OkF s.x (N + 1)) (h1:s.x.size = M.size) (h2:s.pr ≤ 7) (h3:1 ≤ s.sh ∧ s.sh ≤ 100) (h4:s.cr ≤ 100) (h5:s.ct < 256):OkM (N + 1) { M with f:=upd M.f k s }:=by
 have hu:∀ j,upd M.f k s j = if j = k then s else M.f j:=fun j=>rfl
 refine ⟨h.craft,h.lo,h.hi,h.master,?_,?_,?_,?_,?_,?_⟩
 all_goals
  intro j hj
  show _
  simp only [hu]
  split
  · assumption
  · first
    | exact OkF.up2 (h.x j hj) (Nat.le_succ N) hN
    | exact h.sz j hj
    | exact h.pr j hj
    | exact h.sh j hj
    | exact h.cr j hj
    | exact h.ct j hj
theorem OkI.add {N:Nat} {M:MS} (h:OkI N M) (hN:N + 1 ≤ 2 ^ 20) {k:Nat} (hk:k < 8) (p:ByteArray):OkI (N + 1) (addM M k p):=by
 have hx:=h.ok.x k hk
 have hi:=h.i k hk
 have hnew:OkF (if addE (M.f k).x p = 0 then (M.f k).x.add p.data.toList else (M.f k).x) (N + 1) ∧ (if addE (M.f k).x p = 0 then (M.f k).x.add p.data.toList else (M.f k).x).size = (M.f k).x.size ∧ (if addE (M.f k).x p = 0 then (M.f k).x.add p.data.toList else (M.f k).x).idle = (M.f k).x.idle:=by
  split
  · rename_i h0
    exact ⟨hx.add hN (by omega) (addE_le h0),rfl,rfl⟩
  · exact ⟨OkF.up2 hx (Nat.le_succ N) hN,rfl,rfl⟩
 refine ⟨okm_one h.ok hN hnew.1 (hnew.2.1.trans (h.ok.sz k hk)) (h.ok.pr k hk) (h.ok.sh k hk) (h.ok.cr k hk) (h.ok.ct k hk),fun j hj=>?_⟩
 show (upd M.f k _ j).x.idle ≤ 6
 unfold upd
 split
 · rw [hnew.2.2];exact hi
 · exact h.i j hj
theorem next_idle6 (x:FS):(x.next idleL).idle ≤ 6:=by
 show (x.pad idleL).idle ≤ 6
 unfold Tmf.FS.pad
 split
 · show max (x.size - x.q.length) 7 - (x.size - x.q.length) ≤ 6
   omega
 · exact Nat.zero_le _
theorem next_size (x:FS):(x.next idleL).size = x.size:=by
 show (x.pad idleL).size = x.size
 unfold Tmf.FS.pad
 split <;> rfl
theorem OkI.next {N:Nat} {M:MS} (h:OkI N M) (hN:N + 1 ≤ 2 ^ 20) (hw:waitJ M 8 ≠ []) {k:Nat} (hk:k < 8):OkI (N + 1) (tickM (fieldM (chooseM M) k) k):=by
 have hc:=h.ok.choose hw
 have h1:OkM (N + 1) (fieldM (chooseM M) k):=okm_one hc hN ((hc.x k hk).next hN) ((next_size _).trans (hc.sz k hk)) (hc.pr k hk) (hc.sh k hk) (hc.cr k hk) (hc.ct k hk)
 have hi:∀ j,j < 8 → ((fieldM (chooseM M) k).f j).x.idle ≤ 6:=by
  intro j hj
  show (upd (chooseM M).f k _ j).x.idle ≤ 6
  unfold upd
  split
  · exact next_idle6 _
  · rw [chooseM_x];exact h.i j hj
 have hu:∀ j,(tickM (fieldM (chooseM M) k) k).f j = if j = k then { (fieldM (chooseM M) k).f k with ct:=(((fieldM (chooseM M) k).f k).ct + 1) % 256 } else (fieldM (chooseM M) k).f j:=fun j=>rfl
 refine ⟨⟨h1.craft,h1.lo,h1.hi,Nat.mod_lt _ (by decide),?_,?_,?_,?_,?_,?_⟩,?_⟩
 all_goals
  intro j hj
  rw [hu j]
  split
  · first
    | exact h1.x k hk
    | exact h1.sz k hk
    | exact h1.pr k hk
    | exact h1.sh k hk
    | exact h1.cr k hk
    | exact Nat.mod_lt _ (by decide)
    | exact hi k hk
  · first
    | exact h1.x j hj
    | exact h1.sz j hj
    | exact h1.pr j hj
    | exact h1.sh j hj
    | exact h1.cr j hj
    | exact h1.ct j hj
    | exact hi j hj
end Go.Am.Cha
