/-
  Channels: the reference's frames. Own work.
-/
import Derived.Test.YtlgpalokjckdcaaChaMf
import Derived.Deep.OwnRows
namespace Go.Am.Cha
open Go Go.Am Go.Am.Lib Go.Lib Go.Proofs Go.RowKit
open Go.Am.Own
open Go.Am.Tmf (FS RS RAt RC OkF idleL Rel putT putTE)
set_option maxRecDepth 100000

theorem rput_calls (cr ch ma co fi : Int) (d : ByteArray) (wd : Int) (hd : d.size < 2 ^ 62) (h0 : 0 ≤ wd) (h1 : wd < 2 ^ 32) (w : World) :
 Calls Try.prog 51 #[.agg #[.int .i64 cr, .int .i64 ch, .int .i64 ma, .int .i64 co, .int .i64 fi, .string d, .int .u32 wd]] w fun e w' => e = .returned (.tuple #[.string (putT cr ch ma co fi d wd), .int .i64 (putTE cr ch ma co fi d)]) ∧ Below w.heap.size w w' :=
 Tmf.flat_calls Tmf.okRPutT w (args := [.agg ⟨[.int .i64 cr, .int .i64 ch, .int .i64 ma, .int .i64 co, .int .i64 fi, .string d, .int .u32 wd]⟩]) rfl (v := .tuple ⟨[.string (putT cr ch ma co fi d wd), .int .i64 (putTE cr ch ma co fi d)]⟩) rfl ⟨hd, h0, h1, rfl, rfl⟩
variable {S : Nat → Prop} {rb N F : Nat} {bk : Nat → Nat} {M M' : MS} {ys ys' : Nat → RS} {w wr w' : World} {fc : Array Value}
/-- The reference's mux while Next runs: the frame F that it makes. -/
structure Nr (S : Nat → Prop) (w : World) (F rb : Nat) (bk : Nat → Nat) (M : MS) (ys : Nat → RS) (fc : Array Value) (wr : World) : Prop where
 ex : ∃ S', RM S' rb bk M ys wr ∧ ¬ S' F ∧ ∀ k, S' k → S k
 fr : FrS S w wr
 fb : wr.heap[F]? = some (.cells fc 85 (0, 0))
 hS : ∀ k, w.heap.size ≤ k → S k
 hF : w.heap.size ≤ F
theorem Nr.Flt (h : Nr S w F rb bk M ys fc wr) : F < wr.heap.size := (Array.getElem?_eq_some_iff.1 h.fb).1
theorem Nr.up (h : Nr S w F rb bk M ys fc wr) : ∀ k, wr.heap.size ≤ k → S k := fun k hk => h.hS k (Nat.le_trans h.fr.size hk)
theorem Nr.below (h : Nr S w F rb bk M ys fc wr) (hb : Below wr.heap.size wr w') : Nr S w F rb bk M ys fc w' := by
 obtain ⟨S', h1, h2, h3⟩ := h.ex
 exact ⟨⟨S', h1.below hb, h2, h3⟩, h.fr.trans (fr_of hb h.up), (hb.block F h.Flt).trans h.fb, h.hS, h.hF⟩
theorem Nr.drew (h : Nr S w F rb bk M ys fc wr) : Nr S w F rb bk M ys fc wr.drew := h.below (Below.refl _ wr).drew
theorem Nr.stop (h : Nr S w F rb bk M ys fc wr) : RM S rb bk M ys wr ∧ FrS S w wr := by
 obtain ⟨S', h1, h2, h3⟩ := h.ex
 exact ⟨h1.keep (fun k _ _ => rfl) h.up fun k _ e => h3 k e, h.fr⟩
theorem Nr.call {f : FuncId} {args : Array Value} {E : Ending → Prop} (h : Nr S w F rb bk M ys fc wr) (c : ∀ S', RM S' rb bk M ys wr → Calls Try.prog f args wr fun e w' => E e ∧ RM S' rb bk M' ys' w' ∧ FrS S' wr w') :
 Calls Try.prog f args wr fun e w' => E e ∧ Nr S w F rb bk M' ys' fc w' := by
 obtain ⟨S', h1, h2, h3⟩ := h.ex
 exact (c S' h1).mono fun e w' ⟨he, g1, g2⟩ => ⟨he, ⟨S', g1, h2, h3⟩, h.fr.trans (g2.mono h3), (g2.block F h2).trans h.fb, h.hS, h.hF⟩
theorem Nr.setF (h : Nr S w F rb bk M ys fc wr) (o : Nat) (v : Value) : Nr S w F rb bk M ys (fc.setIfInBounds o v) (wr.setCell ⟨F, o, none⟩ v) := by
 obtain ⟨S', h1, h2, h3⟩ := h.ex
 have ho : OnlyB F wr (wr.setCell ⟨F, o, none⟩ v) := (OnlyB.refl F wr).setCell o v
 exact ⟨⟨S', h1.keep (fun k e _ => ho.rest k fun e' => h2 (by rw [← e']; exact e)) (fun k hk => h1.hS k (by rw [ho.size] at hk; exact hk)) fun k _ e => e, h2, h3⟩, h.fr.trans (ho.fr (h.hS F h.hF)), set_at h.fb, h.hS, h.hF⟩
theorem Nr.put (h : Nr S w F rb bk M ys fc wr) {p : Nat} {v : Value} (e : (rmC bk M).setIfInBounds p v = rmC bk M') : Nr S w F rb bk M' ys fc (wr.setCell ⟨rb, p, none⟩ v) := by
 obtain ⟨S', h1, h2, h3⟩ := h.ex
 obtain ⟨g1, g2⟩ := h1.put e
 exact ⟨⟨S', g1, h2, h3⟩, h.fr.trans (g2.mono h3), (g2.block F h2).trans h.fb, h.hS, h.hF⟩
theorem Nr.start (h : RM S rb bk M ys w) (fc : Array Value) : Nr S w w.heap.size rb bk M ys fc (w.alloc (.cells fc 85)) := by
 have hb := (Below.refl w.heap.size w).alloc (Nat.le_refl _) (.cells fc 85)
 have hsz := alloc_size w (.cells fc 85)
 refine ⟨⟨ShS S w.heap.size (w.alloc (.cells fc 85)).heap.size, h.keep (fun k _ hk => hb.block k hk) (fun k hk => .inr hk) fun k hk e => .inl ⟨e, hk⟩, fun e => ?_, fun k e => ?_⟩, fr_of hb h.hS, heap_alloc_new w _, h.hS, Nat.le_refl _⟩
 · have := (ShS.old e (by omega)).2; omega
 · rcases e with e | e
   · exact e.1
   · exact h.hS k (by omega)
theorem Nr.rcell (h : Nr S w F rb bk M ys fc wr) (o : Nat) : wr.cell? ⟨rb, o, none⟩ = (rmC bk M)[o]? := by
 obtain ⟨S', h1, h2, h3⟩ := h.ex
 exact cell_of h1.cell
theorem Nr.rz (h : Nr S w F rb bk M ys fc wr) : (∀ o, wr.frozen? ⟨rb, o, none⟩ = false) ∧ (∀ o, wr.frozen? ⟨F, o, none⟩ = false) ∧ rb ≠ F := by
 obtain ⟨S', h1, h2, h3⟩ := h.ex
 exact ⟨fz_of h1.cell, fz_of h.fb, fun e => h2 (by rw [← e]; exact h1.Sm)⟩
theorem Nr.fcell (h : Nr S w F rb bk M ys fc wr) (o : Nat) : wr.cell? ⟨F, o, none⟩ = fc[o]? := cell_of h.fb
/-- The fillers behind a frame. -/
def nextY (ys : Nat → RS) (k : Nat) : Nat → RS := updY ys k (ys k).nx
set_option maxHeartbeats 6400000 in
theorem rnext_full (h : RM S rb bk M ys w) (ho : OkM N M) (hN : N + 1 ≤ 2 ^ 20) (hr : Alike M ys) (hw : waitJ M 8 ≠ []) (wd : Nat) (hwd : wd < 2 ^ 32) {k fi ct : Nat} {D : ByteArray} (hk : chosen M = k) (hfi : ((chooseM M).f k).x.first idleL = fi) (hD : (⟨⟨((chooseM M).f k).x.data idleL⟩⟩ : ByteArray) = D) (hDl : D.size ≤ 1000) (_ : fi ≤ 100000) (hct : ((fieldM (chooseM M) k).f k).ct = ct) :
 Calls Try.prog 26 #[.pointer (some ⟨rb, 0, none⟩), .int .u32 ((wd : Nat) : Int)] w fun e w' => e = .returned (.tuple #[.string (putT ((M.craft : Nat) : Int) ((k : Nat) : Int) ((M.master : Nat) : Int) ((ct : Nat) : Int) ((fi : Nat) : Int) D ((wd : Nat) : Int)), .int .i64 (putTE ((M.craft : Nat) : Int) ((k : Nat) : Int) ((M.master : Nat) : Int) ((ct : Nat) : Int) ((fi : Nat) : Int) D)]) ∧ RM S rb bk (tickM (fieldM (chooseM M) k) k) (nextY ys k) w' ∧ FrS S w w' := by
 have k0 : w.cell? ⟨rb, 0, none⟩ = some (.int .i64 ((M.craft : Nat) : Int)) := h.c0
 have k2 : w.cell? ⟨rb, 26, none⟩ = some (.int .i64 ((M.master : Nat) : Int)) := h.cm
 have kz0 : (w.alloc (.cells #[.int .i64 0, .int .i64 0, .int .i64 0, .int .i64 0, .int .i64 0, .string ⟨#[]⟩, .int .u32 0] 85)).cell? ⟨rb, 0, none⟩ = some (.int .i64 ((M.craft : Nat) : Int)) := (h.alloc _).c0
 have kz2 : (w.alloc (.cells #[.int .i64 0, .int .i64 0, .int .i64 0, .int .i64 0, .int .i64 0, .string ⟨#[]⟩, .int .u32 0] 85)).cell? ⟨rb, 26, none⟩ = some (.int .i64 ((M.master : Nat) : Int)) := (h.alloc _).cm
 have hk8 : k < 8 := by rw [← hk]; exact bests_lt (topS_mem (bests_ne hw))
 have hk8' : ((k : Nat) : Int) < 8 := by omega
 have hkn : ¬ ((k : Nat) : Int) < 0 := by omega
 have hNr := Nr.start h (fc0 M.craft M.master wd)
 obtain ⟨F, hF⟩ : ∃ F, w.heap.size = F := ⟨_, rfl⟩
 rw [hF] at hNr
 have cC := hNr.drew.call (E := fun e => e = .returned (.int .i64 ((k : Nat) : Int))) (M' := chooseM M) (ys' := ys) (f := 49) (args := #[.pointer (some ⟨rb, 0, none⟩)]) fun S' hm => (rchoose_some hm ho hN hr hw).mono fun _ _ hh => by rw [hk] at hh; exact hh
 have hO1 : OkM N (chooseM M) := ho.choose hw
 have hrk : Rel ((chooseM M).f k).x (ys k) := by rw [chooseM_x]; exact hr k hk8
 have hcr1 : (chooseM M).craft = M.craft := by unfold chooseM payS filled; split <;> rfl
 have hms1 : (chooseM M).master = M.master := by unfold chooseM payS filled; split <;> rfl
 have hw1 : ((chooseM M).f k).x.wait ≠ 0 := by
  rw [chooseM_x, ← hk]
  have := bests_wait (topS_mem (M := filled M (bests M)) (bests_ne hw))
  have e : topS (filled M (bests M)) (bests M) = chosen M := rfl
  rw [e] at this
  omega
 obtain ⟨M1, hM1⟩ : ∃ M1, chooseM M = M1 := ⟨_, rfl⟩
 rw [hM1] at hfi hD hct cC hO1 hrk hcr1 hms1 hw1 ⊢
 have hct1 : (M1.f k).ct = ct := by
  rw [← hct]
  show _ = (upd M1.f k _ k).ct
  rw [upd_same]
 have cX : ∀ W fc, Nr S w F rb bk M1 ys fc W → Calls Try.prog 50 #[.pointer (some ⟨bk k, 0, none⟩)] W fun e w' => e = .returned (.tuple #[.string D, .int .i64 ((fi : Nat) : Int), .bool true]) ∧ Nr S w F rb bk (fieldM M1 k) (nextY ys k) fc w' := fun W fc hW =>
  hW.call (E := fun e => e = .returned (.tuple #[.string D, .int .i64 ((fi : Nat) : Int), .bool true])) (M' := fieldM M1 k) (ys' := nextY ys k) fun S' hm => (hm.turn hk8 (y' := (ys k).nx) (E := fun e => e = .returned (.tuple #[.string D, .int .i64 ((fi : Nat) : Int), .bool true])) fun S2 hf => (Tmf.rnext_at hf hrk (hO1.x k hk8) hN).mono fun e w' hh => by
   obtain ⟨q1, q2, q3⟩ := hh
   unfold Tmf.nxE at q1
   rw [if_neg hw1, hD, hfi] at q1
   exact ⟨q1, q2, q3⟩).mono fun e w' hh => ⟨hh.1, hh.2.1.as (rm_turn bk M1 k _), hh.2.2⟩
 obtain ⟨M2, hM2⟩ : ∃ M2, fieldM M1 k = M2 := ⟨_, rfl⟩
 have hms2 : M2.master = M.master := by rw [← hM2, ← hms1]; rfl
 have hcr2 : M2.craft = M.craft := by rw [← hM2, ← hcr1]; rfl
 rw [hM2] at hct cX ⊢
 obtain ⟨Y, hY⟩ : ∃ Y, nextY ys k = Y := ⟨_, rfl⟩
 rw [hY] at cX ⊢
 obtain ⟨cr, hcr⟩ : ∃ c, M.craft = c := ⟨_, rfl⟩
 obtain ⟨ms, hms⟩ : ∃ c, M.master = c := ⟨_, rfl⟩
 have hm1 := mod256 ms
 have hm2 := tmod256 ms
 have ht1 := mod256 ct
 have ht2 := tmod256 ct
 have hmsl : ms < 256 := by rw [← hms]; exact ho.master
 have hctl : ct < 256 := by rw [← hct1]; exact hO1.ct k hk8
 have htick : tickM M2 k = { M2 with master := (ms + 1) % 256, f := upd M2.f k { M2.f k with ct := (ct + 1) % 256 } } := by unfold tickM; rw [hms2, hms, hct]
 obtain ⟨m', hm'⟩ : ∃ c, (ms + 1) % 256 = c := ⟨_, rfl⟩
 obtain ⟨t', ht'⟩ : ∃ c, (ct + 1) % 256 = c := ⟨_, rfl⟩
 rw [hm', ht'] at htick
 rw [hm'] at hm1 hm2
 rw [ht'] at ht1 ht2
 obtain ⟨b, hb⟩ : ∃ b, bk k = b := ⟨_, rfl⟩
 rw [hcr, hms]
 rw [hcr, hms] at hNr cC
 rw [hcr] at k0 kz0
 rw [hms] at k2 kz2
 rw [hb] at cX
 have HCX := Lib.hid cX
 have HT := Lib.hid htick
 have HX := Lib.hid (And.intro (hms2.trans hms) (And.intro hct (And.intro hb (And.intro hct1 (hcr2.trans hcr)))))
 clear hNr h htick hcr hms hct cX ho hw hm' ht' hM1 hM2 hO1 hcr1 hms1 hw1 hms2 hcr2 hk hfi hD hb hr hrk hct1 hY
 go_enter Try.func26, Try.ntmps26
 go_wp2
 go_region
 go_wp2_with (first
  | (go_at_call 49; refine cC.mono ?_; clear cC; rintro e V1 ⟨rfl, hV1⟩; have y1 : V1.cell? ⟨rb, 18 + k, none⟩ = some (.pointer (some ⟨b, 0, none⟩)) := (by rw [← HX.out.2.2.1]; exact (hV1.rcell (18 + k)).trans (rm_fl bk M1 hk8)); have cX := HCX.out V1 _ hV1)
  | (go_at_call 50; refine cX.mono ?_; clear cX; rintro e V2 ⟨rfl, hV2⟩; clear y1; have y1 : V2.cell? ⟨F, 1, none⟩ = some (.int .i64 7) := hV2.fcell 1; have y3 : V2.cell? ⟨F, 3, none⟩ = some (.int .i64 0) := hV2.fcell 3; have y4 : V2.cell? ⟨F, 4, none⟩ = some (.int .i64 2046) := hV2.fcell 4; have y5 : V2.cell? ⟨F, 5, none⟩ = some (.string ⟨#[]⟩) := hV2.fcell 5; obtain ⟨z1, z2, n1⟩ := hV2.rz; have y0 : V2.cell? ⟨F, 0, none⟩ = some (.int .i64 ((cr : Nat) : Int)) := hV2.fcell 0; have y2 : V2.cell? ⟨F, 2, none⟩ = some (.int .i64 ((ms : Nat) : Int)) := hV2.fcell 2; have y6 : V2.cell? ⟨F, 6, none⟩ = some (.int .u32 ((wd : Nat) : Int)) := hV2.fcell 6; have x27 : V2.cell? ⟨rb, 27 + k, none⟩ = some (.int .i64 ((ct : Nat) : Int)) := (by rw [← HX.out.2.1]; exact (hV2.rcell (27 + k)).trans (rm_ct bk M2 hk8)); have x26 : V2.cell? ⟨rb, 26, none⟩ = some (.int .i64 ((ms : Nat) : Int)) := (by rw [← HX.out.1]; exact hV2.rcell 26); have HV := Lib.hid hV2; clear hV2))
 go_region
 go_wp2_with (go_at_call 51; refine (rput_calls _ _ _ _ _ _ _ (by omega) (by omega) (by omega) _).mono ?_; rintro e V3 ⟨rfl, b3⟩)
 go_ret2
 have hE := ((((((HV.out.setF 1 (.int .i64 ((k : Nat) : Int))).setF 5 (.string D)).setF 4 (.int .i64 ((fi : Nat) : Int))).setF 3 (.int .i64 ((ct : Nat) : Int))).put (rm_set_ma bk M2 m')).put (rm_set_ct bk { M2 with master := m' } hk8 t')).drew
 have hE2 := (hE.below b3).stop
 exact ⟨rfl, by rw [HT.out]; exact hE2.1, hE2.2⟩
end Go.Am.Cha

namespace Go.Am.Cha
open Go Go.Am Go.Am.Lib Go.Lib Go.Proofs Go.RowKit
open Go.Am.Own
open Go.Am.Tmf (FS RS RAt RC OkF idleL Rel putT putTE)
set_option maxRecDepth 100000

variable {S : Nat → Prop} {rb N F : Nat} {bk : Nat → Nat} {M M' : MS} {ys ys' : Nat → RS} {w wr w' : World} {fc : Array Value}
theorem uuu_eq (n : Nat) : uuu n = ⟨(List.replicate n 85).toArray⟩ := by
 unfold uuu
 congr 2
 induction n with
 | zero => rfl
 | succ n ih =>
  rw [List.replicate_succ, ← ih]; rfl
/-- The bytes of an idle field while they are written. -/
def fillU (i : Nat) : Nat → Value := fun j => if j < i then .int .u8 85 else .int .u8 0
theorem fillU_set (i : Nat) (j : Nat) : (if j = i then Value.int .u8 85 else fillU i j) = fillU (i + 1) j := by
 unfold fillU
 by_cases h : j = i
 · rw [if_pos h, if_pos (by omega)]
 · rw [if_neg h]
   by_cases h2 : j < i
   · rw [if_pos h2, if_pos (by omega)]
   · rw [if_neg h2, if_neg (by omega)]
theorem conv_u {n : Nat} {B : Nat} (h : w.rowIs B 5 n (fillU n)) : (convert 107 9 (.slice (some ⟨B, 0, none⟩) n n)).run Try.prog w = .ok (.string (uuu n)) w := by
 have hq := run_convert_bytes_back (P := Try.prog) w 107 9 5 ⟨B, 0, none⟩ n (List.replicate n 85) Try.underlying107 rfl rfl fun j hj => by
  rw [List.length_replicate] at hj
  rw [Addr.add_lit, Nat.zero_add, h.cell hj]
  unfold fillU
  rw [if_pos hj, List.getElem_replicate]; rfl
 rw [List.length_replicate] at hq
 rw [hq, uuu_eq]
set_option maxHeartbeats 6400000 in
theorem rnext_idle (h : RM S rb bk M ys w) (ho : OkM N M) (hN : N + 1 ≤ 2 ^ 20) (hr : Alike M ys) (hw : waitJ M 8 = []) (wd : Nat) (hwd : wd < 2 ^ 32) :
 Calls Try.prog 26 #[.pointer (some ⟨rb, 0, none⟩), .int .u32 ((wd : Nat) : Int)] w fun e w' => e = .returned (.tuple #[.string (putT ((M.craft : Nat) : Int) 7 ((M.master : Nat) : Int) (((M.f 7).ct : Nat) : Int) 2046 (uuu M.size) ((wd : Nat) : Int)), .int .i64 (putTE ((M.craft : Nat) : Int) 7 ((M.master : Nat) : Int) (((M.f 7).ct : Nat) : Int) 2046 (uuu M.size))]) ∧ RM S rb bk (tickM M 7) ys w' ∧ FrS S w w' := by
 have k0 : w.cell? ⟨rb, 0, none⟩ = some (.int .i64 ((M.craft : Nat) : Int)) := h.c0
 have k2 : w.cell? ⟨rb, 26, none⟩ = some (.int .i64 ((M.master : Nat) : Int)) := h.cm
 have kz0 : (w.alloc (.cells #[.int .i64 0, .int .i64 0, .int .i64 0, .int .i64 0, .int .i64 0, .string ⟨#[]⟩, .int .u32 0] 85)).cell? ⟨rb, 0, none⟩ = some (.int .i64 ((M.craft : Nat) : Int)) := (h.alloc _).c0
 have kz2 : (w.alloc (.cells #[.int .i64 0, .int .i64 0, .int .i64 0, .int .i64 0, .int .i64 0, .string ⟨#[]⟩, .int .u32 0] 85)).cell? ⟨rb, 26, none⟩ = some (.int .i64 ((M.master : Nat) : Int)) := (h.alloc _).cm
 have hNr := Nr.start h (fc0 M.craft M.master wd)
 obtain ⟨F, hF⟩ : ∃ F, w.heap.size = F := ⟨_, rfl⟩
 rw [hF] at hNr
 have cC := hNr.drew.call (E := fun e => e = .returned (.int .i64 (-1))) (M' := M) (ys' := ys) (f := 49) (args := #[.pointer (some ⟨rb, 0, none⟩)]) fun S' hm => rchoose_none hm ho hN hr hw
 have hszl := ho.hi
 obtain ⟨cr, hcr⟩ : ∃ c, M.craft = c := ⟨_, rfl⟩
 obtain ⟨ms, hms⟩ : ∃ c, M.master = c := ⟨_, rfl⟩
 obtain ⟨sz, hsz⟩ : ∃ c, M.size = c := ⟨_, rfl⟩
 obtain ⟨ct, hct⟩ : ∃ c, (M.f 7).ct = c := ⟨_, rfl⟩
 have hm1 := mod256 ms
 have hm2 := tmod256 ms
 have ht1 := mod256 ct
 have ht2 := tmod256 ct
 have hmsl : ms < 256 := by rw [← hms]; exact ho.master
 have hctl : ct < 256 := by rw [← hct]; exact ho.ct 7 (by decide)
 have htick : tickM M 7 = { M with master := (ms + 1) % 256, f := upd M.f 7 { M.f 7 with ct := (ct + 1) % 256 } } := by unfold tickM; rw [hms, hct]
 obtain ⟨m', hm'⟩ : ∃ c, (ms + 1) % 256 = c := ⟨_, rfl⟩
 obtain ⟨t', ht'⟩ : ∃ c, (ct + 1) % 256 = c := ⟨_, rfl⟩
 rw [hm', ht'] at htick
 rw [hm'] at hm1 hm2
 rw [ht'] at ht1 ht2
 rw [hcr, hms, hsz, hct]
 rw [hcr, hms] at hNr cC
 rw [hcr] at k0 kz0
 rw [hms] at k2 kz2
 rw [hsz] at hszl
 have hul : (uuu sz).size ≤ 1000 := by
  rw [uuu_eq]
  show (List.replicate sz _).length ≤ 1000
  rw [List.length_replicate]; omega
 obtain ⟨U, hU⟩ : ∃ U, uuu sz = U := ⟨_, rfl⟩
 rw [hU] at hul
 rw [hU]
 have HU := Lib.hid hU
 clear hU
 obtain ⟨i5, i51, i52, i53, i54⟩ := Tmf.info5
 have hmk := fun w => run_make_row (P := Try.prog) 107 5 i5 (.int .u8 0) Try.underlying107 i51 i52 i53 rfl .i64 .i64 sz (by rw [i54]; omega) (by omega) w
 have HT := Lib.hid htick
 have HX := Lib.hid (And.intro hcr (And.intro hms (And.intro hsz hct)))
 clear hNr h htick hcr hms hsz hct ho hw hm' ht' hr i51 i52 i53 i54
 go_enter Try.func26, Try.ntmps26
 go_wp2
 go_region
 go_wp2_with (go_at_call 49; refine cC.mono ?_; clear cC; rintro e V1 ⟨rfl, hV1⟩; have y1 : V1.cell? ⟨rb, 1, none⟩ = some (.int .i64 ((sz : Nat) : Int)) := (by rw [← HX.out.2.2.1]; exact hV1.rcell 1))
 have hA0 : Below V1.heap.size V1 (V1.alloc (.cells (madeCells #[.int .u8 0] sz) 5)) := (Below.refl _ V1).alloc (Nat.le_refl _) _
 have hB0 : (V1.alloc (.cells (madeCells #[.int .u8 0] sz) 5)).rowIs V1.heap.size 5 sz (fillU 0) := (World.rowIs_made V1 (.int .u8 0) sz 5).congr fun i _ => (if_neg (Nat.not_lt_zero i)).symm
 have HV := Lib.hid hV1
 clear hV1 hmk
 go_loopw [9] (fun iv wr => ∃ i : Nat, iv = .int .i64 (i : Nat) ∧ i ≤ sz ∧ Below V1.heap.size V1 wr ∧ wr.rowIs V1.heap.size 5 sz (fillU i)) (fun iv _ => sz - iOf iv)
 case atStart => exact ⟨0, rfl, Nat.zero_le _, hA0, hB0⟩
 case round =>
  clear hA0 hB0 y1
  obtain ⟨i, rfl, hi, hA, hB⟩ := hrel
  have hVr := HV.out.below hA
  have y1 : wr.cell? ⟨rb, 1, none⟩ = some (.int .i64 ((sz : Nat) : Int)) := (by rw [← HX.out.2.2.1]; exact hVr.rcell 1)
  rcases Nat.lt_or_ge i sz with hlt | hge
  · have hlt' : ((i : Nat) : Int) < ((sz : Nat) : Int) := by omega
    have hmeas : sz - (i + 1) < sz - i := by omega
    have c1 := hB.cell hlt
    have f1 := hB.frozen i
    have hB2 : (wr.setCell ⟨V1.heap.size, i, none⟩ (.int .u8 85)).rowIs V1.heap.size 5 sz (fillU (i + 1)) := (hB.set i (.int .u8 85)).congr fun j _ => fillU_set i j
    have hA2 := hA.setCell (p := ⟨V1.heap.size, i, none⟩) (Nat.le_refl _) (.int .u8 85)
    have HB := Lib.hid (And.intro hA2 hB2)
    clear hVr hB2 hA2 hA hB
    go_wp2
    exact ⟨⟨i + 1, by push_cast; rfl, hlt, HB.out.1, HB.out.2⟩, hmeas⟩
  · have hge' : ¬ ((i : Nat) : Int) < ((sz : Nat) : Int) := by omega
    obtain rfl : i = sz := by omega
    have hcv := conv_u hB
    rw [HU.out] at hcv
    have y3 : wr.cell? ⟨F, 3, none⟩ = some (.int .i64 0) := hVr.fcell 3
    have y5 : wr.cell? ⟨F, 5, none⟩ = some (.string ⟨#[]⟩) := hVr.fcell 5
    obtain ⟨z1, z2, n1⟩ := hVr.rz
    have y0 : wr.cell? ⟨F, 0, none⟩ = some (.int .i64 ((cr : Nat) : Int)) := hVr.fcell 0
    have y11 : wr.cell? ⟨F, 1, none⟩ = some (.int .i64 7) := hVr.fcell 1
    have y2 : wr.cell? ⟨F, 2, none⟩ = some (.int .i64 ((ms : Nat) : Int)) := hVr.fcell 2
    have y4 : wr.cell? ⟨F, 4, none⟩ = some (.int .i64 2046) := hVr.fcell 4
    have y6 : wr.cell? ⟨F, 6, none⟩ = some (.int .u32 ((wd : Nat) : Int)) := hVr.fcell 6
    have x34 : wr.cell? ⟨rb, 34, none⟩ = some (.int .i64 ((ct : Nat) : Int)) := (by rw [← HX.out.2.2.2]; exact hVr.rcell 34)
    have x26 : wr.cell? ⟨rb, 26, none⟩ = some (.int .i64 ((ms : Nat) : Int)) := (by rw [← HX.out.2.1]; exact hVr.rcell 26)
    have HVr := Lib.hid hVr
    clear hVr hA hB
    go_wp2
    go_region
    go_wp2_with (go_at_call 51; refine (rput_calls _ _ _ _ _ _ _ (by omega) (by omega) (by omega) _).mono ?_; rintro e V3 ⟨rfl, b3⟩)
    go_ret2
    have hE := ((((HVr.out.setF 5 (.string U)).setF 3 (.int .i64 ((ct : Nat) : Int))).put (rm_set_ma bk M m')).put (rm_set_ct bk { M with master := m' } (k := 7) (by decide) t')).drew
    have hE2 := (hE.below b3).stop
    exact ⟨rfl, by rw [HT.out]; exact hE2.1, hE2.2⟩
end Go.Am.Cha
