/-
  Channels: the law of shares: what holds while it runs. Own work.
-/
import Derived.Test.YtlgpalokjckdcaaChaSg
namespace Go.Am.Cha
open Go Go.Am Go.Am.Lib Go.Lib Go.Proofs Go.RowKit
open Go.Am.Own
set_option maxRecDepth 100000

/-- While the law of shares runs: N calls of the mux, Nd frames fed; bs: the block of the shares. -/
structure Rn (S : Nat → Prop) (w0 : World) (sb mb g cap : Nat) (bk : Nat → Nat) (P : Nat → Int) (bs N Nd : Nat) (M : MS) (D : Dm) (w : World) : Prop where
  dx : Dx S w0 sb mb g cap bk M D w
  ok : OkI N M
  od : OkD Nd D
  cr : M.craft = 7
  sz : M.size = 32
  pr : ∀ k, k < 8 → (M.f k).pr = 0
  sh : ∀ k, k < 8 → (M.f k).sh = (drawQ P k).toNat
  dc : D.craft = 7
  ds : D.size = 32
  b : w.heap[bs]? = some (.cells (arr8 (drawQ P)) 38 (0, 0))
  nS : ¬ S bs
  nb : bs ≠ sb
variable {S : Nat → Prop} {w0 w w' : World} {sb mb g cap bs N Nd : Nat} {bk : Nat → Nat} {P : Nat → Int} {M : MS} {D : Dm}
theorem Rn.below (h : Rn S w0 sb mb g cap bk P bs N Nd M D w) (hb : Below w.heap.size w w') : Rn S w0 sb mb g cap bk P bs N Nd M D w' :=
  ⟨h.dx.below hb, h.ok, h.od, h.cr, h.sz, h.pr, h.sh, h.dc, h.ds, (hb.block bs (Array.getElem?_eq_some_iff.1 h.b).1).trans h.b, h.nS, h.nb⟩
theorem Rn.add (h : Rn S w0 sb mb g cap bk P bs N Nd M D w) (hN : N + 1 ≤ 2 ^ 20) {k : Nat} (hk : k < 8) (p : ByteArray) (hp : p.size ≤ 2 ^ 40) :
    Calls Try.prog 19 #[.pointer (some ⟨mb, 0, none⟩), .int .i64 ((k : Nat) : Int), .string p] w fun e w' => e = .returned (.int .i64 (Tmf.addE (M.f k).x p)) ∧ Rn S w0 sb mb g cap bk P bs (N + 1) Nd (addM M k p) D w' ∧ (∀ k, k < w.heap.size → ¬ S k → k ≠ sb → w'.heap[k]? = w.heap[k]?) := by
  have hf : ∀ j, ((addM M k p).f j).pr = (M.f j).pr ∧ ((addM M k p).f j).sh = (M.f j).sh := by
    intro j
    show (upd M.f k _ j).pr = _ ∧ (upd M.f k _ j).sh = _
    unfold upd
    split
    · rename_i e; subst e; exact ⟨rfl, rfl⟩
    · exact ⟨rfl, rfl⟩
  refine (h.dx.addF h.ok.ok hk p hp).mono fun e w' hh => ⟨hh.1, ⟨hh.2.1, h.ok.add hN hk p, h.od, h.cr, h.sz, fun j hj => (hf j).1.trans (h.pr j hj), fun j hj => (hf j).2.trans (h.sh j hj), h.dc, h.ds, (hh.2.2 bs (Array.getElem?_eq_some_iff.1 h.b).1 h.nS).trans h.b, h.nS, h.nb⟩, fun k hl hs _ => hh.2.2 k hl hs⟩
theorem Rn.next (h : Rn S w0 sb mb g cap bk P bs N Nd M D w) (hN : N + 1 ≤ 2 ^ 20) (hw : waitJ M 8 ≠ []) :
    Calls Try.prog 21 #[.pointer (some ⟨mb, 0, none⟩), .int .u32 0] w fun e w' => e = .returned (.tuple #[.string (frameK M (chosen M) 0), .int .i64 0]) ∧ Rn S w0 sb mb g cap bk P bs (N + 1) Nd (afterK M (chosen M)) D w' ∧ (∀ k, k < w.heap.size → ¬ S k → k ≠ sb → w'.heap[k]? = w.heap[k]?) := by
  have hk : chosen M < 8 := bests_lt (topS_mem (bests_ne hw))
  have h1 := h.dx.nextF h.ok.ok hw (wd := 0) (by decide)
  refine h1.mono fun e w' hh => ⟨hh.1, ⟨hh.2.1, h.ok.next hN hw hk, h.od, (show (chooseM M).craft = 7 from (chooseM_same M).2.1.trans h.cr), (show (chooseM M).size = 32 from (chooseM_same M).1.trans h.sz), fun j hj => (after_f M (chosen M) j).2.1.trans (h.pr j hj), fun j hj => (after_f M (chosen M) j).2.2.trans (h.sh j hj), h.dc, h.ds, (hh.2.2 bs (Array.getElem?_eq_some_iff.1 h.b).1 h.nS).trans h.b, h.nS, h.nb⟩, fun k hl hs _ => hh.2.2 k hl hs⟩
theorem Rn.feed (hNd : Nd ≤ 400) (h : Rn S w0 sb mb g cap bk P bs N Nd M D w) {s : ByteArray} (hs : s.size ≤ 212) (hE : feedE D s = 0) {k : Nat} (hc : (feedG D s).2.ch = k) (hcr : (feedG D s).1.craft = D.craft) (hsz : (feedG D s).1.size = D.size) :
    Calls Try.prog 11 #[.pointer (some ⟨sb, 0, none⟩), .string s] w fun e w' => (∃ (db : Bool) (lo mi : Int) (oo : Option Addr) (n oc : Nat) (br wd : Int), e = .returned (.tuple #[.agg #[.int .i64 ((k : Nat) : Int), .bool db, .int .i64 lo, .int .i64 mi, .slice oo n oc, .int .i64 br, .int .u32 wd], .int .i64 0])) ∧ Rn S w0 sb mb g cap bk P bs N (Nd + 1) M (feedG D s).1 w' ∧ (∀ k, k < w.heap.size → ¬ S k → k ≠ sb → w'.heap[k]? = w.heap[k]?) := by
  refine (h.dx.feedF hNd h.od (s := s) (by omega)).mono fun e w' hh => ?_
  obtain ⟨⟨v, h1, h2⟩, h3, h4⟩ := hh
  obtain ⟨oo, oc, rfl⟩ := ownsRow_slice h2
  rw [hE] at h1
  unfold arrC at h1
  rw [hc] at h1
  exact ⟨⟨_, _, _, oo, _, oc, _, _, h1⟩, ⟨h3, h.ok, h.od.feed s, h.cr, h.sz, h.pr, h.sh, hcr.trans h.dc, hsz.trans h.ds, (h4 bs (Array.getElem?_eq_some_iff.1 h.b).1 h.nb).trans h.b, h.nS, h.nb⟩, fun k hl _ hn => h4 k hl hn⟩
/-- A new block that the mux does not touch: the numbers of frames. -/
theorem Rn.fresh (h : Rn S w0 sb mb g cap bk P bs N Nd M D w) (o : Obj) : Rn (ShS S w.heap.size (w.heap.size + 1)) w0 sb mb g cap bk P bs N Nd M D (w.alloc o) ∧ ¬ ShS S w.heap.size (w.heap.size + 1) w.heap.size ∧ w.heap.size ≠ sb ∧ w.heap.size ≠ bs := by
  have lb := (Array.getElem?_eq_some_iff.1 h.b).1
  have ls := (Array.getElem?_eq_some_iff.1 h.dx.dm).1
  have hb : Below w.heap.size w (w.alloc o) := (Below.refl _ w).alloc (Nat.le_refl _) o
  refine ⟨⟨h.dx.fresh o, h.ok, h.od, h.cr, h.sz, h.pr, h.sh, h.dc, h.ds, (hb.block bs lb).trans h.b, ?_, h.nb⟩, ?_, by omega, by omega⟩
  · rintro (⟨a, -⟩ | a)
    · exact h.nS a
    · omega
  · rintro (⟨-, a⟩ | a) <;> omega
/-- A block that is none of all these is written. -/
theorem Rn.only {b : Nat} (h : Rn S w0 sb mb g cap bk P bs N Nd M D w) (ho : OnlyB b w w') (hS : ¬ S b) (h1 : b ≠ sb) (h2 : b ≠ bs) (h3 : w0.heap.size ≤ b) (h4 : b < w.heap.size) : Rn S w0 sb mb g cap bk P bs N Nd M D w' := by
  refine ⟨⟨h.dx.mc.keep (fun k hk _ => ho.rest k fun e => hS (by rw [← e]; exact hk)) (fun k hk => h.dx.mc.hS k (by rw [ho.size] at hk; exact hk)) (fun k _ hk => hk), (ho.rest sb h1.symm).trans h.dx.dm, h.dx.ns, h.dx.n0, h.dx.l0, h.dx.fr.trans ((ho.fr (S := fun k => w0.heap.size ≤ k) h3).below fun k hk => by show ¬ w0.heap.size ≤ k; omega)⟩, h.ok, h.od, h.cr, h.sz, h.pr, h.sh, h.dc, h.ds, (ho.rest bs h2.symm).trans h.b, h.nS, h.nb⟩
def mS (P : Nat → Int) : MS := ⟨7, 32, 0, sr0 32 (fun _ => 0) (drawQ P)⟩
theorem okI_new (P : Nat → Int) : OkI 0 (mS P) := by
  have hf : Tmf.OkF (Tmf.fs0 32) 0 := okfB_ok (by decide)
  refine ⟨⟨(by decide : 7 ≤ 255), (by decide : 32 ≤ 32), (by decide : 32 ≤ 200), (by decide : 0 < 256), fun _ _ => hf, fun _ _ => rfl, fun _ _ => by show (0 : Int).toNat ≤ 7; decide, fun k _ => ?_, fun _ _ => Nat.zero_le _, fun _ _ => by show 0 < 256; decide⟩, fun _ _ => Nat.zero_le _⟩
  have := drawQ_le P k
  show 1 ≤ (drawQ P k).toNat ∧ (drawQ P k).toNat ≤ 100
  omega
/-- Where the law's frames begin. -/
theorem Rn.start {w2 : World} (hx : Dx S w0 sb mb g cap bk (mS P) (dm0 7 32) w2) (hb : w2.heap[bs]? = some (.cells (arr8 (drawQ P)) 38 (0, 0))) (hS : ¬ S bs) (hn : bs ≠ sb) : Rn S w0 sb mb g cap bk P bs 0 0 (mS P) (dm0 7 32) w2 :=
  ⟨hx, okI_new P, OkD.zero (by decide) (by decide) (by decide), rfl, rfl, fun _ _ => rfl, fun _ _ => rfl, rfl, rfl, hb, hS, hn⟩
theorem arr8_part (P : Nat → Int) : arr8 (partQ P 8) = arr8 (drawQ P) := rfl
end Go.Am.Cha
