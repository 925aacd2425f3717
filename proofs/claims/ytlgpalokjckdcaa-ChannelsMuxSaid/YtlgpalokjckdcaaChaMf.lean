/-
 Channels: the reference's choice, walked: something waits. Own work.
-/
import Derived.Test.YtlgpalokjckdcaaChaMY
import Derived.Deep.QuietTactic
import Derived.BigQuiet
namespace Go.Am.Cha
open Go Go.Am Go.Am.Lib Go.Lib Go.Proofs Go.RowKit
open Go.Am.Own
open Go.Am.Tmf (FS RS RAt RC OkF idleL Rel cellI)
set_option maxRecDepth 100000

variable {S : Nat → Prop} {rb N : Nat} {bk : Nat → Nat} {M M' : MS} {ys : Nat → RS} {w wr w' : World} {L : List Nat} {v v' : Value}
theorem Rq.drewN (h : Rq S w rb bk M ys L v wr) (n : Nat) : Rq S w rb bk M ys L v (wr.drewN n) := h.below ⟨rfl, rfl, rfl, Nat.le_refl _, fun _ _ => rfl⟩
theorem topV_take {val : Nat → Nat} {L : List Nat} {j k : Nat} (h : L[j]? = some k) : topV val (L.take (j + 1)) = max (topV val (L.take j)) (val k) := by
 rw [take_next h, topV_snoc]
theorem spentJ_next {M : MS} {j k : Nat} (h : (rl M)[j]? = some k) : spentJ M (j + 1) = (spentJ M j && !(decide ((M.f k).pr = rgr M) && decide (0 < (M.f k).cr))) := by
 unfold spentJ
 rw [take_next h, List.all_append]
 simp
theorem rfill_pr (M : MS) (k : Nat) : ((rfill M).f k).pr = (M.f k).pr := by
 unfold rfill
 split
 · exact refillJ_pr M _ 8 k
 · rfl
theorem rfill_cr {M : MS} (ho : OkM N M) {k : Nat} (hk : k < 8) : ((rfill M).f k).cr ≤ 100 := by
 unfold rfill
 split
 · exact (ho.refill _ 8).cr k hk
 · exact ho.cr k hk
/-- The credits while they are filled. -/
def fillI (M : MS) (sp : Bool) (i : Nat) : MS := if sp = true then refillJ M (rgr M) i else M
theorem fillI_zero (M : MS) (sp : Bool) : fillI M sp 0 = M := by
 unfold fillI
 split
 · exact refillJ_zero M _
 · rfl
set_option maxHeartbeats 6400000 in
theorem rchoose_some (h : RM S rb bk M ys w) (ho : OkM N M) (hN : N + 1 ≤ 2 ^ 20) (hr : Alike M ys) (hw : waitJ M 8 ≠ []) :
 Calls Try.prog 49 #[.pointer (some ⟨rb, 0, none⟩)] w fun e w' => e = .returned (.int .i64 ((chosen M : Nat) : Int)) ∧ RM S rb bk (chooseM M) ys w' ∧ FrS S w w' := by
 have k1 := h.c1
 have hsz := ho.hi
 have hs0 : 0 < M.size := by have := ho.lo; omega
 have hne := rl_ne hw
 have hlen := rl_len M
 have c1 := ratl_at h ho hN hr M.size (by omega)
 have c2 := fun (W : World) (hb : Below w.heap.size w W) => ratl_at (h.below hb) ho hN hr 1 (by decide)
 have hsp : (atJ M M.size 8 = [] ∧ rl M = atJ M 1 8) ∨ (atJ M M.size 8 ≠ [] ∧ rl M = atJ M M.size 8) := by
  unfold rl
  by_cases e : atJ M M.size 8 = []
  · exact .inl ⟨e, if_pos e⟩
  · exact .inr ⟨e, if_neg e⟩
 obtain ⟨sz, hsz⟩ : ∃ s, M.size = s := ⟨_, rfl⟩
 rw [hsz] at k1 c1 hsp
 have H := Lib.hid h
 have HO := Lib.hid ho
 have HW := Lib.hid (And.intro hw hs0)
 have C2 := Lib.hid c2
 clear h ho hr hw c2 hsz hs0
 obtain ⟨n, hn⟩ : ∃ n, (rl M).length = n := ⟨_, rfl⟩
 have hnp : 0 < n := by rw [← hn]; exact List.length_pos_iff.2 hne
 rw [hn] at hlen
 have hn0 : (((n : Nat) : Int) == 0) = false := by simp; omega
 go_enter Try.func49, Try.ntmps49
 rcases hsp with ⟨he, hrl⟩ | ⟨he, hrl⟩
 case' inl =>
  rw [he] at c1
  rw [← hrl] at C2
  have HRL := Lib.hid hrl
  have HN := Lib.hid hn
  clear he hrl hn
  go_wp2_with (go_at_call 85; refine c1.mono ?_; clear c1; rintro e W1 ⟨v1, rfl, hA1⟩; obtain ⟨o1, q1, rfl⟩ := ownsRow_slice hA1.row; have b1 := hA1.b; clear hA1; have c2 := C2.out W1 b1)
  refine c2.mono ?_
  clear c2
  rintro e W2 ⟨v2, rfl, hA2⟩
  have hQ := Rq.start H.out (w := w) (wr := W2) ⟨ownsRow_up hA2.row b1.size, b1.trans (hA2.b.mono b1.size)⟩
  obtain ⟨oo, oc, rfl⟩ := ownsRow_slice hA2.row
  rw [HN.out] at hQ ⊢
  clear hA2 b1
  go_wp2_with fail
 case' inr =>
  rw [← hrl] at c1
  have HRL := Lib.hid hrl
  have HN := Lib.hid hn
  clear he hrl C2 hn
  go_wp2_with (go_at_call 85; refine c1.mono ?_; clear c1; rintro e W2 ⟨v2, rfl, hA2⟩; have hQ := Rq.start H.out (w := w) (wr := W2) hA2; obtain ⟨oo, oc, rfl⟩ := ownsRow_slice hA2.row; clear hA2; rw [HN.out] at hQ ⊢)
 all_goals
  go_loopw [4, 5] (fun gv iv wr => ∃ j : Nat, gv = .int .i64 ((topV (fun k => (M.f k).pr) ((rl M).take j) : Nat) : Int) ∧ iv = .int .i64 (j : Nat) ∧ j ≤ n ∧ Rq S w rb bk M ys (rl M) (.slice oo n oc) wr) (fun _ iv _ => n - iOf iv)
  case atStart => exact ⟨0, rfl, rfl, Nat.zero_le _, hQ⟩
  case round =>
   clear hQ
   obtain ⟨j, rfl, rfl, hj, hQ⟩ := hrel
   rcases Nat.lt_or_ge j n with hlt | hge
   · have hlt' : ((j : Nat) : Int) < ((n : Nat) : Int) := by omega
     have hmeas : n - (j + 1) < n - j := by omega
     obtain ⟨k, hk⟩ : ∃ k, (rl M)[j]? = some k := ⟨_, List.getElem?_eq_getElem (by rw [HN.out]; exact hlt)⟩
     have hk8 : k < 8 := rl_lt (List.mem_of_getElem? hk)
     have hk8' : ((k : Nat) : Int) < 8 := by omega
     obtain ⟨og, rfl, hnum⟩ := hQ.num HN.out hk
     have x1 := hnum _ _ hQ
     have x2 := hQ.rm.pr hk8
     have hst := topV_take (val := fun k => (M.f k).pr) hk
     obtain ⟨g, hg⟩ : ∃ g, topV (fun k => (M.f k).pr) ((rl M).take j) = g := ⟨_, rfl⟩
     obtain ⟨p, hp⟩ : ∃ p, (M.f k).pr = p := ⟨_, rfl⟩
     rw [hg] at hst ⊢
     rw [hp] at hst x2
     unfold intN at x2
     have HS := Lib.hid hst
     have HQ := Lib.hid hQ
     clear hnum hQ hst hg hp hk
     go_wp2
     go_region
     go_wp2
     exact ⟨⟨j + 1, by rw [HS.out]; congr 1; omega, by push_cast; rfl, hlt, HQ.out.drew⟩, hmeas⟩
   · have hge' : ¬ ((j : Nat) : Int) < ((n : Nat) : Int) := by omega
     obtain rfl : j = n := by omega
     have htk : topV (fun k => (M.f k).pr) ((rl M).take j) = rgr M := by rw [← HN.out, List.take_length]; rfl
     rw [htk]
     clear htk
     go_wp2_with fail
     go_loopw [7, 8] (fun sv iv wr => ∃ i : Nat, sv = .bool (spentJ M i) ∧ iv = .int .i64 (i : Nat) ∧ i ≤ j ∧ Rq S w rb bk M ys (rl M) (.slice oo j oc) wr) (fun _ iv _ => j - iOf iv)
     case atStart => exact ⟨0, rfl, rfl, Nat.zero_le _, hQ⟩
     case round =>
      clear hQ
      obtain ⟨i, rfl, rfl, hi, hQ⟩ := hrel
      rcases Nat.lt_or_ge i j with hlt | hge
      · have hlt' : ((i : Nat) : Int) < ((j : Nat) : Int) := by omega
        have hmeas : j - (i + 1) < j - i := by omega
        obtain ⟨k, hk⟩ : ∃ k, (rl M)[i]? = some k := ⟨_, List.getElem?_eq_getElem (by rw [HN.out]; exact hlt)⟩
        have hk8 : k < 8 := rl_lt (List.mem_of_getElem? hk)
        have hk8' : ((k : Nat) : Int) < 8 := by omega
        obtain ⟨og, rfl, hnum⟩ := hQ.num HN.out hk
        have x1 := hnum _ _ hQ
        have x2 := hQ.rm.pr hk8
        have x3 := hQ.rm.cr hk8
        have hst := spentJ_next hk
        obtain ⟨sp, hsp⟩ : ∃ b, spentJ M i = b := ⟨_, rfl⟩
        obtain ⟨p, hp⟩ : ∃ p, (M.f k).pr = p := ⟨_, rfl⟩
        obtain ⟨c, hc⟩ : ∃ p, (M.f k).cr = p := ⟨_, rfl⟩
        obtain ⟨g, hg⟩ : ∃ g, rgr M = g := ⟨_, rfl⟩
        rw [hsp] at hst ⊢
        rw [hp, hc, hg] at hst
        rw [hp] at x2
        rw [hc] at x3
        rw [hg]
        unfold intN at x2 x3
        have HQ := Lib.hid hQ
        clear hnum hQ hsp hp hc hk
        by_cases hpg : p = g
        · subst hpg
          have hb1 : (((p : Nat) : Int) == ((p : Nat) : Int)) = true := by simp
          rcases Nat.eq_zero_or_pos c with h0 | h0
          · have hb2 : ¬ (0 : Int) < ((c : Nat) : Int) := by omega
            have HS := Lib.hid (show spentJ M (i + 1) = sp by rw [hst, h0]; cases sp <;> simp)
            clear hst
            go_wp2
            go_quiet (fail)
            go_wp2
            exact ⟨⟨i + 1, by rw [HS.out], by push_cast; rfl, hlt, HQ.out.drewN _⟩, hmeas⟩
          · have hb2 : (0 : Int) < ((c : Nat) : Int) := by omega
            have HS := Lib.hid (show spentJ M (i + 1) = false by rw [hst, decide_eq_true h0]; cases sp <;> simp)
            clear hst
            go_wp2
            go_quiet (fail)
            go_wp2
            exact ⟨⟨i + 1, by rw [HS.out], by push_cast; rfl, hlt, HQ.out.drewN _⟩, hmeas⟩
        · have hb1 : (((p : Nat) : Int) == ((g : Nat) : Int)) = false := by simp; omega
          have HS := Lib.hid (show spentJ M (i + 1) = sp by rw [hst, decide_eq_false hpg]; cases sp <;> simp)
          clear hst
          go_wp2
          go_quiet (fail)
          go_wp2
          exact ⟨⟨i + 1, by rw [HS.out], by push_cast; rfl, hlt, HQ.out.drewN _⟩, hmeas⟩
      · have hge' : ¬ ((i : Nat) : Int) < ((j : Nat) : Int) := by omega
        obtain rfl : i = j := by omega
        have hcs : ∀ t : Nat, 35 + t = 35 + t := fun _ => rfl
        clear hcs
        obtain ⟨sp, hsp⟩ : ∃ b, spentJ M i = b := ⟨_, rfl⟩
        have hfe : fillI M sp 8 = rfill M := by rw [← hsp, ← HN.out]; rfl
        rw [hsp]
        have HFE := Lib.hid hfe
        have hQ0 : Rq S w rb bk (fillI M sp 0) ys (rl M) (.slice oo i oc) wr := by rw [fillI_zero]; exact hQ
        clear hQ hsp hfe
        go_wp2_with fail
        go_loopw [9] (fun iv wr => ∃ t : Nat, iv = .int .i64 (t : Nat) ∧ t ≤ 8 ∧ Rq S w rb bk (fillI M sp t) ys (rl M) (.slice oo i oc) wr) (fun iv _ => 8 - iOf iv)
        case atStart => exact ⟨0, rfl, Nat.zero_le _, hQ0⟩
        case round =>
         clear hQ0
         obtain ⟨t, rfl, ht, hQ⟩ := hrel
         have hcase : (t < 8 ∧ sp = true) ∨ ((¬ t < 8 ∨ sp = false) ∧ fillI M sp t = rfill M) := by
          by_cases h1 : t < 8
          · cases sp with
            | true => exact .inl ⟨h1, rfl⟩
            | false => exact .inr ⟨.inr rfl, HFE.out⟩
          · have : t = 8 := by omega
            subst this
            exact .inr ⟨.inl h1, HFE.out⟩
         rcases hcase with ⟨h1, rfl⟩ | ⟨h1, hfin⟩
         · have h1' : ((t : Nat) : Int) < 8 := by omega
           have hmeas : 8 - (t + 1) < 8 - t := by omega
           have x1 := hQ.rm.pr h1
           have x2 := hQ.rm.sh h1
           have x3 := hQ.rm.cr h1
           have f1 := fz_of hQ.rm.cell (35 + t)
           have e1 : ((fillI M true t).f t).pr = (M.f t).pr := refillJ_pr M _ t t
           have e2 : ((fillI M true t).f t).sh = (M.f t).sh := refillJ_sh M _ t t
           rw [e1] at x1
           rw [e2] at x2
           by_cases hpr : (M.f t).pr = rgr M
           · have hP : Rq S w rb bk (fillI M true (t + 1)) ys (rl M) (.slice oo i oc) (wr.setCell ⟨rb, 35 + t, none⟩ (intN (M.f t).sh)) := by
              have e3 : fillI M true (t + 1) = { fillI M true t with f := upd (fillI M true t).f t { (fillI M true t).f t with cr := (M.f t).sh } } := refillJ_yes hpr
              rw [e3]
              exact hQ.put (rm_set_cr bk (fillI M true t) h1 (M.f t).sh)
             have HP := Lib.hid hP
             obtain ⟨sh, hsh⟩ : ∃ s, (M.f t).sh = s := ⟨_, rfl⟩
             obtain ⟨c0, hc0⟩ : ∃ s, ((fillI M true t).f t).cr = s := ⟨_, rfl⟩
             obtain ⟨g, hg⟩ : ∃ s, rgr M = s := ⟨_, rfl⟩
             rw [hpr, hg] at x1
             rw [hsh] at x2 HP
             rw [hc0] at x3
             rw [hg]
             unfold intN at x1 x2 x3
             have hpe : (((g : Nat) : Int) == ((g : Nat) : Int)) = true := by simp
             clear hQ hP hsh hc0 e1 e2 hpr hg
             go_wp2
             go_region
             go_wp2
             exact ⟨⟨t + 1, by push_cast; rfl, h1, HP.out.drew⟩, hmeas⟩
           · have e3 : fillI M true (t + 1) = fillI M true t := refillJ_no hpr
             obtain ⟨p, hp⟩ : ∃ s, (M.f t).pr = s := ⟨_, rfl⟩
             obtain ⟨g, hg⟩ : ∃ s, rgr M = s := ⟨_, rfl⟩
             rw [hp] at x1 hpr
             rw [hg] at hpr ⊢
             unfold intN at x1
             have hpe : (((p : Nat) : Int) == ((g : Nat) : Int)) = false := by simp; omega
             have HS := Lib.hid e3
             have HQ := Lib.hid hQ
             clear hQ e1 e2 e3 hp x2 x3 f1
             go_wp2
             exact ⟨⟨t + 1, by push_cast; rfl, h1, by rw [HS.out]; exact HQ.out⟩, hmeas⟩
         · rw [hfin] at hQ
           clear hfin
           have h3 : (¬ t < 8) ∨ (t < 8 ∧ sp = false) := by
            by_cases h : t < 8
            · exact .inr ⟨h, h1.resolve_left fun h' => h' h⟩
            · exact .inl h
           clear h1
           have HE := Lib.hid (And.intro (rfill_eq HW.out.2 HW.out.1) (bestJ_end HW.out.2 HW.out.1))
           rcases h3 with h1 | ⟨h1, rfl⟩
           case' inl => have h1' : ¬ ((t : Nat) : Int) < 8 := by omega
           case' inr => have h1' : ((t : Nat) : Int) < 8 := by omega
           all_goals
            go_wp2_with fail
            go_loopw [6, 10] (fun bv iv wr => ∃ q : Nat, bv = .int .i64 (idxV (bestJ M (rfill M) q)) ∧ iv = .int .i64 (q : Nat) ∧ q ≤ i ∧ Rq S w rb bk (rfill M) ys (rl M) (.slice oo i oc) wr) (fun _ iv _ => i - iOf iv)
            case atStart => exact ⟨0, rfl, rfl, Nat.zero_le _, hQ⟩
            case round =>
             clear hQ
             obtain ⟨q, rfl, rfl, hq, hQ⟩ := hrel
             rcases Nat.lt_or_ge q i with hlt | hge
             · have hlt' : ((q : Nat) : Int) < ((i : Nat) : Int) := by omega
               have hmeas : i - (q + 1) < i - q := by omega
               obtain ⟨k, hk⟩ : ∃ k, (rl M)[q]? = some k := ⟨_, List.getElem?_eq_getElem (by rw [HN.out]; exact hlt)⟩
               have hk8 : k < 8 := rl_lt (List.mem_of_getElem? hk)
               have hk8' : ((k : Nat) : Int) < 8 := by omega
               obtain ⟨og, rfl, hnum⟩ := hQ.num HN.out hk
               have x1 := hnum _ _ hQ
               have x2 := hQ.rm.pr hk8
               have x3 := hQ.rm.cr hk8
               rw [rfill_pr] at x2
               obtain ⟨ck, hck⟩ : ∃ c, ((rfill M).f k).cr = c := ⟨_, rfl⟩
               rw [hck] at x3
               have HQ := Lib.hid hQ
               clear hnum
               by_cases hpg : (M.f k).pr = rgr M
               · rw [hpg] at x2
                 cases hb : bestJ M (rfill M) q with
                 | nil =>
                  have HS := Lib.hid (idx_first hk hpg hb)
                  obtain ⟨g, hg⟩ : ∃ s, rgr M = s := ⟨_, rfl⟩
                  rw [hg] at x2 ⊢
                  have hpe : (((g : Nat) : Int) == ((g : Nat) : Int)) = true := by simp
                  rw [show idxV [] = -1 from rfl]
                  unfold intN at x2 x3
                  clear hQ hk hpg hg hb hck
                  go_wp2
                  go_quiet (fail)
                  go_wp2
                  exact ⟨⟨q + 1, by rw [HS.out], by push_cast; rfl, hlt, HQ.out.drewN _⟩, hmeas⟩
                 | cons o r =>
                  have ho8 : o < 8 := bestJ_mem (by rw [hb]; exact List.mem_cons_self ..)
                  have ho8' : ((o : Nat) : Int) < 8 := by omega
                  have x4 := hQ.rm.cr ho8
                  obtain ⟨co, hco⟩ : ∃ c, ((rfill M).f o).cr = c := ⟨_, rfl⟩
                  rw [hco] at x4
                  have hneg : decide (((o : Nat) : Int) < 0) = false := by simp
                  rw [show idxV (o :: r) = ((o : Nat) : Int) from rfl]
                  by_cases hcc : co < ck
                  · have HS := Lib.hid (idx_more hk hpg hb (by rw [hco, hck]; exact hcc))
                    obtain ⟨g, hg⟩ : ∃ s, rgr M = s := ⟨_, rfl⟩
                    rw [hg] at x2 ⊢
                    have hpe : (((g : Nat) : Int) == ((g : Nat) : Int)) = true := by simp
                    have hcc' : ((co : Nat) : Int) < ((ck : Nat) : Int) := by omega
                    unfold intN at x2 x3 x4
                    clear hQ hk hpg hg hb hck hco hcc
                    go_wp2
                    go_quiet (fail)
                    go_wp2
                    exact ⟨⟨q + 1, by rw [HS.out], by push_cast; rfl, hlt, HQ.out.drewN _⟩, hmeas⟩
                  · have HS := Lib.hid (idx_less hk hpg hb (by rw [hco, hck]; exact hcc))
                    obtain ⟨g, hg⟩ : ∃ s, rgr M = s := ⟨_, rfl⟩
                    rw [hg] at x2 ⊢
                    have hpe : (((g : Nat) : Int) == ((g : Nat) : Int)) = true := by simp
                    have hcc' : decide (((co : Nat) : Int) < ((ck : Nat) : Int)) = false := by simp; omega
                    unfold intN at x2 x3 x4
                    clear hQ hk hpg hg hb hck hco
                    go_wp2
                    go_quiet (fail)
                    go_wp2
                    exact ⟨⟨q + 1, by rw [HS.out], by push_cast; rfl, hlt, HQ.out.drewN _⟩, hmeas⟩
               · have HS := Lib.hid (congrArg idxV (bestJ_no (C := rfill M) hk hpg))
                 obtain ⟨B, hB⟩ : ∃ B, idxV (bestJ M (rfill M) q) = B := ⟨_, rfl⟩
                 obtain ⟨p, hp⟩ : ∃ s, (M.f k).pr = s := ⟨_, rfl⟩
                 obtain ⟨g, hg⟩ : ∃ s, rgr M = s := ⟨_, rfl⟩
                 rw [hB] at HS ⊢
                 rw [hp] at x2 hpg
                 rw [hg] at hpg ⊢
                 have hpe : (((p : Nat) : Int) == ((g : Nat) : Int)) = false := by simp; omega
                 unfold intN at x2 x3
                 clear hQ hk hpg hg hp hB hck
                 go_wp2
                 go_quiet (fail)
                 go_wp2
                 exact ⟨⟨q + 1, by rw [HS.out], by push_cast; rfl, hlt, HQ.out.drewN _⟩, hmeas⟩
             · have hge' : ¬ ((q : Nat) : Int) < ((i : Nat) : Int) := by omega
               obtain rfl : q = i := by omega
               have hidx := HE.out.2
               rw [HN.out] at hidx
               rw [hidx]
               have hx8 : chosen M < 8 := bests_lt (topS_mem (bests_ne HW.out.1))
               have hcr1 := chosen_credit HO.out HW.out.1
               rw [← HE.out.1] at hcr1
               obtain ⟨x, hx⟩ : ∃ x, chosen M = x := ⟨_, rfl⟩
               rw [hx] at hx8 hcr1
               rw [hx]
               have hx8' : ((x : Nat) : Int) < 8 := by omega
               obtain ⟨c', hc'⟩ : ∃ c', ((rfill M).f x).cr = c' + 1 := ⟨_, (Nat.succ_pred_eq_of_pos hcr1).symm⟩
               have hc1 : (((c' + 1 : Nat) : Nat) : Int) - 1 = ((c' : Nat) : Int) := by omega
               have hcb : c' ≤ 100 := by
                have e := rfill_cr HO.out hx8
                rw [hc'] at e
                omega
               have hcw : IntKind.i64.wrap ((c' : Nat) : Int) = ((c' : Nat) : Int) := by rw [IntKind.wrap_i64]; omega
               have x3 := hQ.rm.cr hx8
               rw [hc'] at x3
               unfold intN at x3
               have f1 := fz_of hQ.rm.cell (35 + x)
               have hP := hQ.put (rm_set_cr bk (rfill M) hx8 c')
               have hcm : chooseM M = { rfill M with f := upd (rfill M).f x { (rfill M).f x with cr := c' } } := by
                unfold chooseM payS
                rw [← HE.out.1, hx, hc']; rfl
               rw [← hcm] at hP
               have HP := Lib.hid hP
               have HX := Lib.hid hx
               clear hQ hP hcm hidx hcr1 hc' hx
               go_wp2
               go_region
               go_wp2
               go_ret
               exact ⟨by rw [HX.out]; rfl, HP.out.drew.rm, HP.out.drew.fr⟩
end Go.Am.Cha
