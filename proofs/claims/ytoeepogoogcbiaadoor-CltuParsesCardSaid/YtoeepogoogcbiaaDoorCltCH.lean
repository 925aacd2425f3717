/-
  Cltu: CltuParses, walked. Own work.
-/
import Derived.Test.YtoeepogoogcbiaaDoorCltCG
import Derived.Deep.RegionHeld3
namespace Go.Am.Clt
open Go Go.Am Go.Am.Lib Go.Lib Go.Proofs Go.RowKit
set_option maxRecDepth 100000

theorem wpAnyH_mono {P : Program} {ops : Array Oper} {Q : Exit → Act → World → Prop} {md : Region.Mode} {S S' : World → Prop} (hs : ∀ w, S' w → S w) : ∀ (fuel : Nat) (listed : Array Bool) (a : Act) (w : World), wpAnyH P md ops Q S' fuel listed a w → wpAnyH P md ops Q S fuel listed a w
  | 0, _, _, _, h => h
  | fuel + 1, _, _, _, h => ⟨h.1, fun i hi => wpOp_mono (fun a' w' h' => ⟨hs w' h'.1, wpAnyH_mono hs fuel _ a' w' h'.2⟩) (h.2 i hi)⟩
set_option linter.unusedSimpArgs false in
set_option maxHeartbeats 6400000 in
theorem parses_walk {W0 : World} (hG : GOk G0 W0) (ao : Option Addr) (n cap : Nat) (F : Nat → ByteArray) (bo : Option Addr) (nb bcap : Nat) (Bv : Nat → Bool)
    (hcs : ∀ i, i < n → ∃ a, ao = some a ∧ W0.cell? (a.add i) = some (.string (F i)) ∧ (a.add i).block < W0.heap.size ∧ (F i).size ≤ maxLen)
    (hbs : ∀ i, i < nb → ∃ a, bo = some a ∧ W0.cell? (a.add i) = some (.bool (Bv i)) ∧ (a.add i).block < W0.heap.size) :
    Calls Tryd.prog 8 #[.slice ao n cap, .slice bo nb bcap] W0 fun e w' => e = .returned (.bool true) ∧ Below W0.heap.size W0 w' := by
  have cS := shown_from hG (w := W0) (fun _ _ => rfl) (Nat.le_refl _)
  go_enter Tryd.func8, Tryd.ntmps8
  go_wp2_with (go_at_call 9; refine (cS _ (Below.refl _ _)).mono ?_)
  first | rintro e W1 rfl g1 | rintro e W1 ⟨rfl, g1⟩
  have cL := long_walk (w := W1) ao n cap F (fun i hi => by
    obtain ⟨a, h1, h2, h3, h4⟩ := hcs i hi
    exact ⟨a, h1, (World.cell?_of_block (g1.block _ h3)).trans h2, h4⟩)
  go_wp2_with (go_at_call 22; refine cL.mono ?_)
  rintro e W2 ⟨t, rfl, hH, ht⟩
  have g2 := g1.trans (hH.below _)
  cases t with
  | true =>
    go_wp2
    go_ret
    exact ⟨rfl, g2⟩
  | false =>
    obtain ⟨hn, hF5⟩ := ht rfl
    clear cL cS hH g1
    have HF5 : Hid (∀ i, i < n → (F i).size < 5000) := hF5
    clear hF5 ht
    go_wp2_with (go_at_call 18; refine (new_at W2).mono ?_)
    rintro e W3 ⟨b, rfl, z1, g3, z2, c1⟩
    obtain ⟨R, hRe⟩ : ∃ R, W3.heap.size = R := ⟨_, rfl⟩
    have hPa0 := pa_new (cs := #[.nilFunc, .bool false, .int .u8 0, .slice none 0 0, .slice none 0 0, .bool false, .slice none 0 0]) g2 z1.out g3 z2.out c1 rfl
    rw [hRe] at hPa0
    obtain ⟨z, hz⟩ : ∃ z, R + 1 = z := ⟨_, rfl⟩
    rw [hz] at hPa0
    clear z1 z2 g3 c1 g2
    go_wp2
    go_loopw [9] (fun iv wr => ∃ (i : Nat) (p : PS) (r : RS), iv = .int .i64 (i : Nat) ∧ i ≤ n ∧ Pa W0 b R z p r wr)
      (fun iv _ => n - iOf iv)
    case atStart => exact ⟨0, ps0, rs0, rfl, Nat.zero_le _, hPa0⟩
    case round =>
      obtain ⟨i, p, r, rfl, hi, hPa⟩ := hrel
      rcases Nat.lt_or_ge i n with hlt | hge
      · have hlt' : ((i : Nat) : Int) < ((n : Nat) : Int) := by omega
        obtain ⟨a, rfl, ha1, ha2, _⟩ := hcs i hlt
        have hca : wr.cell? (a.add i) = some (.string (F i)) := (World.cell?_of_block (hPa.fr.block _ ha2)).trans ha1
        have hf5 := HF5.out i hlt
        obtain ⟨f, hf⟩ : ∃ f, F i = f := ⟨_, rfl⟩
        rw [hf] at hca hf5 ha1
        have HA : Hid (∀ w', Below W0.heap.size W0 w' → w'.cell? (a.add i) = some (.string f)) := fun w' hb => (World.cell?_of_block (hb.block _ ha2)).trans ha1
        clear ha1 hf hPa0
        go_wp2
        have hw0 : IntKind.i64.wrap 0 = 0 := by decide
        have hca0 : (fun w' : World => w'.cell? (a.add i) = some (.string f)) wr.drew := HA.out _ (drewA hPa.fr)
        refine wp_region_held_drew (S := fun w' => w'.cell? (a.add i) = some (.string f)) (by kernel_rfl) ?_ (fun hHeld => ?_)
        focus ((try dsimp only); exact hca0)
        refine wpAnyH_take (i := 0) (oi := ({ dst := some 25, op := Op.move (Operand.tmp 5), type := 35, pos := "law.go:68", after := #[], guard := none } : Oper)) (v := ?_) rfl (by kernel_rfl) (by kernel_rfl) (by kernel_rfl) (fun _ _ _ h => h) (Or.inl ⟨by rfl, ?_⟩) (by assumption) ?_
        rotate_left
        focus (intro w hSw; (try dsimp only at hSw); go_simp; (try with_reducible rfl))
        (try simp only [Act.put, List.setIfInBounds_toArray, List.set_cons_zero, List.set_cons_succ])
        refine wpAnyH_take (i := 1) (oi := ({ dst := some 26, op := Op.move (Operand.tmp 0), type := 33, pos := "law.go:68", after := #[], guard := none } : Oper)) (v := ?_) rfl (by kernel_rfl) (by kernel_rfl) (by kernel_rfl) (fun _ _ _ h => h) (Or.inl ⟨by rfl, ?_⟩) (by assumption) ?_
        rotate_left
        focus (intro w hSw; (try dsimp only at hSw); go_simp; (try with_reducible rfl))
        (try simp only [Act.put, List.setIfInBounds_toArray, List.set_cons_zero, List.set_cons_succ])
        refine wpAnyH_take (i := 2) (oi := ({ dst := some 27, op := Op.move (Operand.tmp 9), type := 3, pos := "law.go:68", after := #[], guard := none } : Oper)) (v := ?_) rfl (by kernel_rfl) (by kernel_rfl) (by kernel_rfl) (fun _ _ _ h => h) (Or.inl ⟨by rfl, ?_⟩) (by assumption) ?_
        rotate_left
        focus (intro w hSw; (try dsimp only at hSw); go_simp; (try with_reducible rfl))
        (try simp only [Act.put, List.setIfInBounds_toArray, List.set_cons_zero, List.set_cons_succ])
        refine wpAnyH_take (i := 3) (oi := ({ dst := some 28, op := Op.indexAddr 33 (Operand.tmp 26) (Operand.tmp 27), type := 0, pos := "law.go:68", after := #[{ on := 1, ground := Ground.data }, { on := 2, ground := Ground.data }], guard := none } : Oper)) (v := ?_) rfl (by kernel_rfl) (by kernel_rfl) (by kernel_rfl) (fun _ _ _ h => h) (Or.inl ⟨by rfl, ?_⟩) (by assumption) ?_
        rotate_left
        focus (intro w hSw; (try dsimp only at hSw); go_simp; (try with_reducible rfl))
        (try simp only [Act.put, List.setIfInBounds_toArray, List.set_cons_zero, List.set_cons_succ])
        refine wpAnyH_take (i := 4) (oi := ({ dst := some 29, op := Op.load 9 (Operand.tmp 28), type := 9, pos := "law.go:68", after := #[{ on := 3, ground := Ground.data }], guard := none } : Oper)) (v := ?_) rfl (by kernel_rfl) (by kernel_rfl) (by kernel_rfl) (fun _ _ _ h => h) (Or.inl ⟨by rfl, ?_⟩) (by assumption) ?_
        rotate_left
        focus (intro w hSw; (try dsimp only at hSw); go_simp; (try with_reducible rfl))
        (try simp only [Act.put, List.setIfInBounds_toArray, List.set_cons_zero, List.set_cons_succ])
        refine wpAnyH_take (i := 6) (oi := ({ dst := some 31, op := Op.move (Operand.tmp 6), type := 43, pos := "law.go:68", after := #[], guard := none } : Oper)) (v := ?_) rfl (by kernel_rfl) (by kernel_rfl) (by kernel_rfl) (fun _ _ _ h => h) (Or.inl ⟨by rfl, ?_⟩) (by assumption) ?_
        rotate_left
        focus (intro w hSw; (try dsimp only at hSw); go_simp; (try with_reducible rfl))
        (try simp only [Act.put, List.setIfInBounds_toArray, List.set_cons_zero, List.set_cons_succ])
        refine wpAnyH_take (i := 7) (oi := ({ dst := some 32, op := Op.move (Operand.tmp 0), type := 33, pos := "law.go:68", after := #[], guard := none } : Oper)) (v := ?_) rfl (by kernel_rfl) (by kernel_rfl) (by kernel_rfl) (fun _ _ _ h => h) (Or.inl ⟨by rfl, ?_⟩) (by assumption) ?_
        rotate_left
        focus (intro w hSw; (try dsimp only at hSw); go_simp; (try with_reducible rfl))
        (try simp only [Act.put, List.setIfInBounds_toArray, List.set_cons_zero, List.set_cons_succ])
        refine wpAnyH_take (i := 8) (oi := ({ dst := some 33, op := Op.move (Operand.tmp 9), type := 3, pos := "law.go:68", after := #[], guard := none } : Oper)) (v := ?_) rfl (by kernel_rfl) (by kernel_rfl) (by kernel_rfl) (fun _ _ _ h => h) (Or.inl ⟨by rfl, ?_⟩) (by assumption) ?_
        rotate_left
        focus (intro w hSw; (try dsimp only at hSw); go_simp; (try with_reducible rfl))
        (try simp only [Act.put, List.setIfInBounds_toArray, List.set_cons_zero, List.set_cons_succ])
        refine wpAnyH_take (i := 9) (oi := ({ dst := some 34, op := Op.indexAddr 33 (Operand.tmp 32) (Operand.tmp 33), type := 0, pos := "law.go:68", after := #[{ on := 7, ground := Ground.data }, { on := 8, ground := Ground.data }], guard := none } : Oper)) (v := ?_) rfl (by kernel_rfl) (by kernel_rfl) (by kernel_rfl) (fun _ _ _ h => h) (Or.inl ⟨by rfl, ?_⟩) (by assumption) ?_
        rotate_left
        focus (intro w hSw; (try dsimp only at hSw); go_simp; (try with_reducible rfl))
        (try simp only [Act.put, List.setIfInBounds_toArray, List.set_cons_zero, List.set_cons_succ])
        refine wpAnyH_take (i := 10) (oi := ({ dst := some 35, op := Op.load 9 (Operand.tmp 34), type := 9, pos := "law.go:68", after := #[{ on := 9, ground := Ground.data }], guard := none } : Oper)) (v := ?_) rfl (by kernel_rfl) (by kernel_rfl) (by kernel_rfl) (fun _ _ _ h => h) (Or.inl ⟨by rfl, ?_⟩) (by assumption) ?_
        rotate_left
        focus (intro w hSw; (try dsimp only at hSw); go_simp; (try with_reducible rfl))
        (try simp only [Act.put, List.setIfInBounds_toArray, List.set_cons_zero, List.set_cons_succ])
        refine wpAnyH_ready (rs := [5]) (by kernel_rfl) (by simp) ?_
        refine AllReadyH.cons (o := ({ dst := some 30, op := Op.call { callee := Callee.value (Operand.func 19), args := #[Operand.tmp 25, Operand.tmp 29], argTypes := #[35, 9] }, type := 33, pos := "law.go:68", after := #[{ on := 0, ground := Ground.data }, { on := 4, ground := Ground.data }], guard := none } : Oper)) rfl (fun K hK => ?_) AllReadyH.nil
        go_simp
        go_at_call 19
        refine (pa_feed hG (hPa.only (by exact ⟨rfl, rfl, rfl, rfl⟩)) f hf5).mono ?_
        rintro e W4 ⟨v1, rfl, h1⟩
        have k1 := HA.out _ h1.fr
        (try go_wp2_with fail)
        clear hHeld
        refine hK.out _ _ ?_ (fun hHeld => ?_)
        focus ((try dsimp only); exact k1)
        clear hK K
        (try simp only [Act.put, List.setIfInBounds_toArray, List.set_cons_zero, List.set_cons_succ])
        refine wpAnyH_ready (rs := [11]) (by kernel_rfl) (by simp) ?_
        refine AllReadyH.cons (o := ({ dst := some 36, op := Op.call { callee := Callee.value (Operand.func 23), args := #[Operand.tmp 31, Operand.tmp 35], argTypes := #[43, 9] }, type := 33, pos := "law.go:68", after := #[{ on := 6, ground := Ground.data }, { on := 10, ground := Ground.data }, { on := 5, ground := Ground.chain }], guard := none } : Oper)) rfl (fun K hK => ?_) AllReadyH.nil
        go_simp
        go_at_call 23
        refine (pa_rfeed hG (h1.only (by exact ⟨rfl, rfl, rfl, rfl⟩)) hf5).mono ?_
        rintro e W5 ⟨v2, rfl, h2⟩
        have k2 := HA.out _ h2.pa.choose_spec.fr
        (try go_wp2_with fail)
        clear hHeld
        refine hK.out _ _ ?_ (fun hHeld => ?_)
        focus ((try dsimp only); exact k2)
        clear hK K
        (try simp only [Act.put, List.setIfInBounds_toArray, List.set_cons_zero, List.set_cons_succ])
        refine wpAnyH_ready (rs := [12]) (by kernel_rfl) (by simp) ?_
        refine AllReadyH.cons (o := ({ dst := some 37, op := Op.call { callee := Callee.value (Operand.func 21), args := #[Operand.tmp 30, Operand.tmp 36], argTypes := #[33, 33] }, type := 4, pos := "law.go:68", after := #[{ on := 5, ground := Ground.data }, { on := 11, ground := Ground.data }, { on := 11, ground := Ground.chain }], guard := none } : Oper)) rfl (fun K hK => ?_) AllReadyH.nil
        go_simp
        go_at_call 21
        refine (pa_same (h2.only (by exact ⟨rfl, rfl, rfl, rfl⟩))).mono ?_
        rintro e W6 ⟨rfl, r3, h3⟩
        have k3 := HA.out _ h3.fr
        have kb := pa_begun h3
        have k4 : W6.cell? (a.add i) = some (.string f) ∧ W6.cell? ⟨R, 0, none⟩ = some (.bool (clr (feedP p f.data.toList)).begun) := ⟨k3, kb⟩
        (try go_wp2_with fail)
        clear hHeld
        refine hK.out _ _ ?_ (fun hHeld => ?_)
        focus ((try dsimp only); exact k3)
        clear hK K
        (try simp only [Act.put, List.setIfInBounds_toArray, List.set_cons_zero, List.set_cons_succ])
        refine wpAnyH_mono (S' := fun w' => w'.cell? (a.add i) = some (.string f) ∧ w'.cell? ⟨R, 0, none⟩ = some (.bool (clr (feedP p f.data.toList)).begun)) (fun _ h => h.1) _ _ _ _ ?_
        clear h1 h2 k1 k2 k3 kb hPa hca hca0 HA
        have hS4 : (fun w' : World => w'.cell? (a.add i) = some (.string f) ∧ w'.cell? ⟨R, 0, none⟩ = some (.bool (clr (feedP p f.data.toList)).begun)) W6 := k4
        refine wpAnyH_take (i := 13) (oi := ({ dst := some 38, op := Op.unOp UnOp.not 4 (Operand.tmp 37), type := 4, pos := "law.go:68", after := #[{ on := 12, ground := Ground.data }], guard := none } : Oper)) (v := ?_) rfl (by kernel_rfl) (by kernel_rfl) (by kernel_rfl) (fun _ _ _ h => h) (Or.inl ⟨by rfl, ?_⟩) (by assumption) ?_
        rotate_left
        focus (intro w hSw; (try dsimp only at hSw); go_simp; (try with_reducible rfl))
        (try simp only [Act.put, List.setIfInBounds_toArray, List.set_cons_zero, List.set_cons_succ])
        refine wpAnyH_take (i := 14) (oi := ({ dst := some 39, op := Op.move (Operand.tmp 38), type := 4, pos := "law.go:68", after := #[{ on := 13, ground := Ground.data }, { on := 12, ground := Ground.chain }], guard := none } : Oper)) (v := ?_) rfl (by kernel_rfl) (by kernel_rfl) (by kernel_rfl) (fun _ _ _ h => h) (Or.inl ⟨by rfl, ?_⟩) (by assumption) ?_
        rotate_left
        focus (intro w hSw; (try dsimp only at hSw); go_simp; (try with_reducible rfl))
        (try simp only [Act.put, List.setIfInBounds_toArray, List.set_cons_zero, List.set_cons_succ])
        refine wpAnyH_take (i := 15) (oi := ({ dst := some 40, op := Op.move (Operand.tmp 5), type := 35, pos := "law.go:68", after := #[{ on := 14, ground := Ground.guard }], guard := some (14, false) } : Oper)) (v := ?_) rfl (by kernel_rfl) (by kernel_rfl) (by kernel_rfl) (fun _ _ _ h => h) (Or.inl ⟨by rfl, ?_⟩) (by assumption) ?_
        rotate_left
        focus (intro w hSw; (try dsimp only at hSw); go_simp; (try with_reducible rfl))
        (try simp only [Act.put, List.setIfInBounds_toArray, List.set_cons_zero, List.set_cons_succ])
        refine wpAnyH_take (i := 17) (oi := ({ dst := some 42, op := Op.move (Operand.tmp 6), type := 43, pos := "law.go:68", after := #[{ on := 14, ground := Ground.guard }], guard := some (14, false) } : Oper)) (v := ?_) rfl (by kernel_rfl) (by kernel_rfl) (by kernel_rfl) (fun _ _ _ h => h) (Or.inl ⟨by rfl, ?_⟩) (by assumption) ?_
        rotate_left
        focus (intro w hSw; (try dsimp only at hSw); go_simp; (try with_reducible rfl))
        (try simp only [Act.put, List.setIfInBounds_toArray, List.set_cons_zero, List.set_cons_succ])
        refine wpAnyH_take (i := 18) (oi := ({ dst := some 43, op := Op.nilCheck (Operand.tmp 42), type := 0, pos := "law.go:68", after := #[{ on := 17, ground := Ground.data }, { on := 14, ground := Ground.guard }], guard := some (14, false) } : Oper)) (v := ?_) rfl (by kernel_rfl) (by kernel_rfl) (by kernel_rfl) (fun _ _ _ h => h) (Or.inl ⟨by rfl, ?_⟩) (by assumption) ?_
        rotate_left
        focus (intro w hSw; (try dsimp only at hSw); go_simp; (try with_reducible rfl))
        (try simp only [Act.put, List.setIfInBounds_toArray, List.set_cons_zero, List.set_cons_succ])
        refine wpAnyH_take (i := 19) (oi := ({ dst := some 44, op := Op.fieldAddr 45 (Operand.tmp 43) 0, type := 0, pos := "law.go:68", after := #[{ on := 18, ground := Ground.data }, { on := 14, ground := Ground.guard }], guard := some (14, false) } : Oper)) (v := ?_) rfl (by kernel_rfl) (by kernel_rfl) (by kernel_rfl) (fun _ _ _ h => h) (Or.inl ⟨by rfl, ?_⟩) (by assumption) ?_
        rotate_left
        focus (intro w hSw; (try dsimp only at hSw); go_simp; (try with_reducible rfl))
        (try simp only [Act.put, List.setIfInBounds_toArray, List.set_cons_zero, List.set_cons_succ])
        refine wpAnyH_take (i := 20) (oi := ({ dst := some 45, op := Op.load 4 (Operand.tmp 44), type := 4, pos := "law.go:68", after := #[{ on := 19, ground := Ground.data }, { on := 14, ground := Ground.guard }], guard := some (14, false) } : Oper)) (v := ?_) rfl (by kernel_rfl) (by kernel_rfl) (by kernel_rfl) (fun _ _ _ h => h) (Or.inl ⟨by rfl, ?_⟩) (by assumption) ?_
        rotate_left
        focus (intro w hSw; (try dsimp only at hSw); go_simp; (try with_reducible rfl))
        (try simp only [Act.put, List.setIfInBounds_toArray, List.set_cons_zero, List.set_cons_succ])
        refine wpAnyH_ready (rs := [16]) (by kernel_rfl) (by simp) ?_
        refine AllReadyH.cons (o := ({ dst := some 41, op := Op.call { callee := Callee.value (Operand.func 20), args := #[Operand.tmp 40], argTypes := #[35] }, type := 4, pos := "law.go:68", after := #[{ on := 15, ground := Ground.data }, { on := 14, ground := Ground.chain }, { on := 14, ground := Ground.guard }], guard := some (14, false) } : Oper)) rfl (fun K hK => ?_) AllReadyH.nil
        go_simp
        go_at_call 20
        refine (pa_lock (h3.only (by exact ⟨rfl, rfl, rfl, rfl⟩))).mono ?_
        rintro e W7 ⟨rfl, rfl⟩
        (try go_wp2_with fail)
        clear hHeld
        clear hS4
        refine hK.out _ _ ?_ (fun hHeld => ?_)
        focus ((try dsimp only); exact k4)
        clear hK K
        (try simp only [Act.put, List.setIfInBounds_toArray, List.set_cons_zero, List.set_cons_succ])
        refine wpAnyH_take (i := 21) (oi := ({ dst := some 46, op := Op.binOp BinOp.neq 4 (Operand.tmp 41) (Operand.tmp 45) 4, type := 4, pos := "law.go:68", after := #[{ on := 16, ground := Ground.data }, { on := 20, ground := Ground.data }, { on := 14, ground := Ground.guard }], guard := some (14, false) } : Oper)) (v := ?_) rfl (by kernel_rfl) (by kernel_rfl) (by kernel_rfl) (fun _ _ _ h => h) (Or.inl ⟨by rfl, ?_⟩) (by assumption) ?_
        rotate_left
        focus (intro w hSw; (try dsimp only at hSw); go_simp; (try with_reducible rfl))
        (try simp only [Act.put, List.setIfInBounds_toArray, List.set_cons_zero, List.set_cons_succ])
        refine wpAnyH_take (i := 22) (oi := ({ dst := some 47, op := Op.pick (Operand.tmp 39) (Operand.const (Value.bool true)) (Operand.tmp 46), type := 4, pos := "law.go:68", after := #[{ on := 14, ground := Ground.data }, { on := 21, ground := Ground.data }], guard := none } : Oper)) (v := ?_) rfl (by kernel_rfl) (by kernel_rfl) (by kernel_rfl) (fun _ _ _ h => h) (Or.inl ⟨by rfl, ?_⟩) (by assumption) ?_
        rotate_left
        focus (intro w hSw; (try dsimp only at hSw); go_simp; (try with_reducible rfl))
        (try simp only [Act.put, List.setIfInBounds_toArray, List.set_cons_zero, List.set_cons_succ])
        refine wpAnyH_take (i := 23) (oi := ({ dst := some 48, op := Op.move (Operand.tmp 47), type := 4, pos := "law.go:68", after := #[{ on := 22, ground := Ground.data }, { on := 16, ground := Ground.chain }], guard := none } : Oper)) (v := ?_) rfl (by kernel_rfl) (by kernel_rfl) (by kernel_rfl) (fun _ _ _ h => h) (Or.inl ⟨by rfl, ?_⟩) (by assumption) ?_
        rotate_left
        focus (intro w hSw; (try dsimp only at hSw); go_simp; (try with_reducible rfl))
        (try simp only [Act.put, List.setIfInBounds_toArray, List.set_cons_zero, List.set_cons_succ])
        refine wpAnyH_take (i := 24) (oi := ({ dst := some 49, op := Op.move (Operand.tmp 7), type := 35, pos := "law.go:68", after := #[{ on := 23, ground := Ground.guard }], guard := some (23, false) } : Oper)) (v := ?_) rfl (by kernel_rfl) (by kernel_rfl) (by kernel_rfl) (fun _ _ _ h => h) (Or.inl ⟨by rfl, ?_⟩) (by assumption) ?_
        rotate_left
        focus (intro w hSw; (try dsimp only at hSw); go_simp; (try with_reducible rfl))
        (try simp only [Act.put, List.setIfInBounds_toArray, List.set_cons_zero, List.set_cons_succ])
        refine wpAnyH_take (i := 25) (oi := ({ dst := some 50, op := Op.move (Operand.tmp 0), type := 33, pos := "law.go:68", after := #[{ on := 23, ground := Ground.guard }], guard := some (23, false) } : Oper)) (v := ?_) rfl (by kernel_rfl) (by kernel_rfl) (by kernel_rfl) (fun _ _ _ h => h) (Or.inl ⟨by rfl, ?_⟩) (by assumption) ?_
        rotate_left
        focus (intro w hSw; (try dsimp only at hSw); go_simp; (try with_reducible rfl))
        (try simp only [Act.put, List.setIfInBounds_toArray, List.set_cons_zero, List.set_cons_succ])
        refine wpAnyH_take (i := 26) (oi := ({ dst := some 51, op := Op.move (Operand.tmp 9), type := 3, pos := "law.go:68", after := #[{ on := 23, ground := Ground.guard }], guard := some (23, false) } : Oper)) (v := ?_) rfl (by kernel_rfl) (by kernel_rfl) (by kernel_rfl) (fun _ _ _ h => h) (Or.inl ⟨by rfl, ?_⟩) (by assumption) ?_
        rotate_left
        focus (intro w hSw; (try dsimp only at hSw); go_simp; (try with_reducible rfl))
        (try simp only [Act.put, List.setIfInBounds_toArray, List.set_cons_zero, List.set_cons_succ])
        refine wpAnyH_take (i := 27) (oi := ({ dst := some 52, op := Op.indexAddr 33 (Operand.tmp 50) (Operand.tmp 51), type := 0, pos := "law.go:68", after := #[{ on := 25, ground := Ground.data }, { on := 26, ground := Ground.data }, { on := 23, ground := Ground.guard }], guard := some (23, false) } : Oper)) (v := ?_) rfl (by kernel_rfl) (by kernel_rfl) (by kernel_rfl) (fun _ _ _ h => h) (Or.inl ⟨by rfl, ?_⟩) (by assumption) ?_
        rotate_left
        focus (intro w hSw; (try dsimp only at hSw); go_simp; (try with_reducible rfl))
        (try simp only [Act.put, List.setIfInBounds_toArray, List.set_cons_zero, List.set_cons_succ])
        refine wpAnyH_take (i := 28) (oi := ({ dst := some 53, op := Op.load 9 (Operand.tmp 52), type := 9, pos := "law.go:68", after := #[{ on := 27, ground := Ground.data }, { on := 23, ground := Ground.guard }], guard := some (23, false) } : Oper)) (v := ?_) rfl (by kernel_rfl) (by kernel_rfl) (by kernel_rfl) (fun _ _ _ h => h) (Or.inl ⟨by rfl, ?_⟩) (by assumption) ?_
        rotate_left
        focus (intro w hSw; (try dsimp only at hSw); go_simp; (try with_reducible rfl))
        (try simp only [Act.put, List.setIfInBounds_toArray, List.set_cons_zero, List.set_cons_succ])
        refine wpAnyH_take (i := 31) (oi := ({ dst := some 56, op := Op.move (Operand.tmp 8), type := 35, pos := "law.go:68", after := #[{ on := 23, ground := Ground.guard }], guard := some (23, false) } : Oper)) (v := ?_) rfl (by kernel_rfl) (by kernel_rfl) (by kernel_rfl) (fun _ _ _ h => h) (Or.inl ⟨by rfl, ?_⟩) (by assumption) ?_
        rotate_left
        focus (intro w hSw; (try dsimp only at hSw); go_simp; (try with_reducible rfl))
        (try simp only [Act.put, List.setIfInBounds_toArray, List.set_cons_zero, List.set_cons_succ])
        refine wpAnyH_take (i := 32) (oi := ({ dst := some 57, op := Op.move (Operand.tmp 0), type := 33, pos := "law.go:68", after := #[{ on := 23, ground := Ground.guard }], guard := some (23, false) } : Oper)) (v := ?_) rfl (by kernel_rfl) (by kernel_rfl) (by kernel_rfl) (fun _ _ _ h => h) (Or.inl ⟨by rfl, ?_⟩) (by assumption) ?_
        rotate_left
        focus (intro w hSw; (try dsimp only at hSw); go_simp; (try with_reducible rfl))
        (try simp only [Act.put, List.setIfInBounds_toArray, List.set_cons_zero, List.set_cons_succ])
        refine wpAnyH_take (i := 33) (oi := ({ dst := some 58, op := Op.move (Operand.tmp 9), type := 3, pos := "law.go:68", after := #[{ on := 23, ground := Ground.guard }], guard := some (23, false) } : Oper)) (v := ?_) rfl (by kernel_rfl) (by kernel_rfl) (by kernel_rfl) (fun _ _ _ h => h) (Or.inl ⟨by rfl, ?_⟩) (by assumption) ?_
        rotate_left
        focus (intro w hSw; (try dsimp only at hSw); go_simp; (try with_reducible rfl))
        (try simp only [Act.put, List.setIfInBounds_toArray, List.set_cons_zero, List.set_cons_succ])
        refine wpAnyH_take (i := 34) (oi := ({ dst := some 59, op := Op.indexAddr 33 (Operand.tmp 57) (Operand.tmp 58), type := 0, pos := "law.go:68", after := #[{ on := 32, ground := Ground.data }, { on := 33, ground := Ground.data }, { on := 23, ground := Ground.guard }], guard := some (23, false) } : Oper)) (v := ?_) rfl (by kernel_rfl) (by kernel_rfl) (by kernel_rfl) (fun _ _ _ h => h) (Or.inl ⟨by rfl, ?_⟩) (by assumption) ?_
        rotate_left
        focus (intro w hSw; (try dsimp only at hSw); go_simp; (try with_reducible rfl))
        (try simp only [Act.put, List.setIfInBounds_toArray, List.set_cons_zero, List.set_cons_succ])
        refine wpAnyH_take (i := 35) (oi := ({ dst := some 60, op := Op.load 9 (Operand.tmp 59), type := 9, pos := "law.go:68", after := #[{ on := 34, ground := Ground.data }, { on := 23, ground := Ground.guard }], guard := some (23, false) } : Oper)) (v := ?_) rfl (by kernel_rfl) (by kernel_rfl) (by kernel_rfl) (fun _ _ _ h => h) (Or.inl ⟨by rfl, ?_⟩) (by assumption) ?_
        rotate_left
        focus (intro w hSw; (try dsimp only at hSw); go_simp; (try with_reducible rfl))
        (try simp only [Act.put, List.setIfInBounds_toArray, List.set_cons_zero, List.set_cons_succ])
        refine wpAnyH_ready (rs := [29]) (by kernel_rfl) (by simp) ?_
        refine AllReadyH.cons (o := ({ dst := some 54, op := Op.call { callee := Callee.value (Operand.func 19), args := #[Operand.tmp 49, Operand.tmp 53], argTypes := #[35, 9] }, type := 33, pos := "law.go:68", after := #[{ on := 24, ground := Ground.data }, { on := 28, ground := Ground.data }, { on := 23, ground := Ground.chain }, { on := 23, ground := Ground.guard }], guard := some (23, false) } : Oper)) rfl (fun K hK => ?_) AllReadyH.nil
        go_simp
        go_at_call 19
        refine (feed_nil f _).mono ?_
        rintro e W7 ⟨rfl, rfl⟩
        (try go_wp2_with fail)
        clear hHeld
        refine hK.out _ _ ?_ (fun hHeld => ?_)
        focus ((try dsimp only); exact k4)
        clear hK K
        (try simp only [Act.put, List.setIfInBounds_toArray, List.set_cons_zero, List.set_cons_succ])
        refine wpAnyH_take (i := 30) (oi := ({ dst := some 55, op := Op.call { callee := Callee.builtin Builtin.len, args := #[Operand.tmp 54], argTypes := #[33] }, type := 3, pos := "law.go:68", after := #[{ on := 29, ground := Ground.data }, { on := 23, ground := Ground.guard }], guard := some (23, false) } : Oper)) (v := ?_) rfl (by kernel_rfl) (by kernel_rfl) (by kernel_rfl) (fun _ _ _ h => h) (Or.inl ⟨by rfl, ?_⟩) (by assumption) ?_
        rotate_left
        focus (intro w hSw; (try dsimp only at hSw); go_simp; (try with_reducible rfl))
        (try simp only [Act.put, List.setIfInBounds_toArray, List.set_cons_zero, List.set_cons_succ])
        refine wpAnyH_ready (rs := [36]) (by kernel_rfl) (by simp) ?_
        refine AllReadyH.cons (o := ({ dst := some 61, op := Op.call { callee := Callee.value (Operand.func 19), args := #[Operand.tmp 56, Operand.tmp 60], argTypes := #[35, 9] }, type := 33, pos := "law.go:68", after := #[{ on := 31, ground := Ground.data }, { on := 35, ground := Ground.data }, { on := 29, ground := Ground.chain }, { on := 23, ground := Ground.guard }], guard := some (23, false) } : Oper)) rfl (fun K hK => ?_) AllReadyH.nil
        go_simp
        go_at_call 19
        refine (feed_zero z f _ (h3.only (by exact ⟨rfl, rfl, rfl, rfl⟩)).zero.cell).mono ?_
        rintro e W7 ⟨rfl, rfl⟩
        (try go_wp2_with fail)
        clear hHeld
        refine hK.out _ _ ?_ (fun hHeld => ?_)
        focus ((try dsimp only); exact k4)
        clear hK K
        (try simp only [Act.put, List.setIfInBounds_toArray, List.set_cons_zero, List.set_cons_succ])
        refine wpAnyH_take (i := 37) (oi := ({ dst := some 62, op := Op.call { callee := Callee.builtin Builtin.len, args := #[Operand.tmp 61], argTypes := #[33] }, type := 3, pos := "law.go:68", after := #[{ on := 36, ground := Ground.data }, { on := 23, ground := Ground.guard }], guard := some (23, false) } : Oper)) (v := ?_) rfl (by kernel_rfl) (by kernel_rfl) (by kernel_rfl) (fun _ _ _ h => h) (Or.inl ⟨by rfl, ?_⟩) (by assumption) ?_
        rotate_left
        focus (intro w hSw; (try dsimp only at hSw); go_simp; (try with_reducible rfl))
        (try simp only [Act.put, List.setIfInBounds_toArray, List.set_cons_zero, List.set_cons_succ])
        refine wpAnyH_take (i := 38) (oi := ({ dst := some 63, op := Op.binOp BinOp.add 3 (Operand.tmp 55) (Operand.tmp 62) 3, type := 3, pos := "law.go:68", after := #[{ on := 30, ground := Ground.data }, { on := 37, ground := Ground.data }, { on := 23, ground := Ground.guard }], guard := some (23, false) } : Oper)) (v := ?_) rfl (by kernel_rfl) (by kernel_rfl) (by kernel_rfl) (fun _ _ _ h => h) (Or.inl ⟨by rfl, ?_⟩) (by assumption) ?_
        rotate_left
        focus (intro w hSw; (try dsimp only at hSw); go_simp; (try with_reducible rfl))
        (try simp only [Act.put, List.setIfInBounds_toArray, List.set_cons_zero, List.set_cons_succ])
        refine wpAnyH_take (i := 39) (oi := ({ dst := some 64, op := Op.binOp BinOp.neq 3 (Operand.tmp 63) (Operand.const (Value.int IntKind.i64 0)) 3, type := 4, pos := "law.go:68", after := #[{ on := 38, ground := Ground.data }, { on := 23, ground := Ground.guard }], guard := some (23, false) } : Oper)) (v := ?_) rfl (by kernel_rfl) (by kernel_rfl) (by kernel_rfl) (fun _ _ _ h => h) (Or.inl ⟨by rfl, ?_⟩) (by assumption) ?_
        rotate_left
        focus (intro w hSw; (try dsimp only at hSw); go_simp; (try with_reducible rfl))
        (try simp only [Act.put, List.setIfInBounds_toArray, List.set_cons_zero, List.set_cons_succ])
        refine wpAnyH_take (i := 40) (oi := ({ dst := some 65, op := Op.pick (Operand.tmp 48) (Operand.const (Value.bool true)) (Operand.tmp 64), type := 4, pos := "law.go:68", after := #[{ on := 23, ground := Ground.data }, { on := 39, ground := Ground.data }], guard := none } : Oper)) (v := ?_) rfl (by kernel_rfl) (by kernel_rfl) (by kernel_rfl) (fun _ _ _ h => h) (Or.inl ⟨by rfl, ?_⟩) (by assumption) ?_
        rotate_left
        focus (intro w hSw; (try dsimp only at hSw); go_simp; (try with_reducible rfl))
        (try simp only [Act.put, List.setIfInBounds_toArray, List.set_cons_zero, List.set_cons_succ])
        refine wpAnyH_take (i := 41) (oi := ({ dst := some 66, op := Op.move (Operand.tmp 65), type := 4, pos := "law.go:68", after := #[{ on := 40, ground := Ground.data }, { on := 36, ground := Ground.chain }], guard := none } : Oper)) (v := ?_) rfl (by kernel_rfl) (by kernel_rfl) (by kernel_rfl) (fun _ _ _ h => h) (Or.inl ⟨by rfl, ?_⟩) (by assumption) ?_
        rotate_left
        focus (intro w hSw; (try dsimp only at hSw); go_simp; (try with_reducible rfl))
        (try simp only [Act.put, List.setIfInBounds_toArray, List.set_cons_zero, List.set_cons_succ])
        refine wpAnyH_take (i := 42) (oi := ({ dst := some 67, op := Op.move (Operand.tmp 7), type := 35, pos := "law.go:68", after := #[{ on := 41, ground := Ground.guard }], guard := some (41, false) } : Oper)) (v := ?_) rfl (by kernel_rfl) (by kernel_rfl) (by kernel_rfl) (fun _ _ _ h => h) (Or.inl ⟨by rfl, ?_⟩) (by assumption) ?_
        rotate_left
        focus (intro w hSw; (try dsimp only at hSw); go_simp; (try with_reducible rfl))
        (try simp only [Act.put, List.setIfInBounds_toArray, List.set_cons_zero, List.set_cons_succ])
        refine wpAnyH_ready (rs := [43]) (by kernel_rfl) (by simp) ?_
        refine AllReadyH.cons (o := ({ dst := some 68, op := Op.call { callee := Callee.value (Operand.func 20), args := #[Operand.tmp 67], argTypes := #[35] }, type := 4, pos := "law.go:68", after := #[{ on := 42, ground := Ground.data }, { on := 41, ground := Ground.chain }, { on := 41, ground := Ground.guard }], guard := some (41, false) } : Oper)) rfl (fun K hK => ?_) AllReadyH.nil
        go_simp
        go_at_call 20
        refine (lock_nil _).mono ?_
        rintro e W7 ⟨rfl, rfl⟩
        (try go_wp2_with fail)
        clear hHeld
        refine hK.out _ _ ?_ (fun hHeld => ?_)
        focus ((try dsimp only); exact k4)
        clear hK K
        (try simp only [Act.put, List.setIfInBounds_toArray, List.set_cons_zero, List.set_cons_succ])
        refine wpAnyH_take (i := 44) (oi := ({ dst := some 69, op := Op.pick (Operand.tmp 66) (Operand.const (Value.bool true)) (Operand.tmp 68), type := 4, pos := "law.go:68", after := #[{ on := 41, ground := Ground.data }, { on := 43, ground := Ground.data }], guard := none } : Oper)) (v := ?_) rfl (by kernel_rfl) (by kernel_rfl) (by kernel_rfl) (fun _ _ _ h => h) (Or.inl ⟨by rfl, ?_⟩) (by assumption) ?_
        rotate_left
        focus (intro w hSw; (try dsimp only at hSw); go_simp; (try with_reducible rfl))
        (try simp only [Act.put, List.setIfInBounds_toArray, List.set_cons_zero, List.set_cons_succ])
        refine wpAnyH_take (i := 45) (oi := ({ dst := some 70, op := Op.move (Operand.tmp 69), type := 4, pos := "law.go:68", after := #[{ on := 44, ground := Ground.data }, { on := 43, ground := Ground.chain }], guard := none } : Oper)) (v := ?_) rfl (by kernel_rfl) (by kernel_rfl) (by kernel_rfl) (fun _ _ _ h => h) (Or.inl ⟨by rfl, ?_⟩) (by assumption) ?_
        rotate_left
        focus (intro w hSw; (try dsimp only at hSw); go_simp; (try with_reducible rfl))
        (try simp only [Act.put, List.setIfInBounds_toArray, List.set_cons_zero, List.set_cons_succ])
        refine wpAnyH_take (i := 46) (oi := ({ dst := some 71, op := Op.move (Operand.tmp 8), type := 35, pos := "law.go:68", after := #[{ on := 45, ground := Ground.guard }], guard := some (45, false) } : Oper)) (v := ?_) rfl (by kernel_rfl) (by kernel_rfl) (by kernel_rfl) (fun _ _ _ h => h) (Or.inl ⟨by rfl, ?_⟩) (by assumption) ?_
        rotate_left
        focus (intro w hSw; (try dsimp only at hSw); go_simp; (try with_reducible rfl))
        (try simp only [Act.put, List.setIfInBounds_toArray, List.set_cons_zero, List.set_cons_succ])
        refine wpAnyH_ready (rs := [47]) (by kernel_rfl) (by simp) ?_
        refine AllReadyH.cons (o := ({ dst := some 72, op := Op.call { callee := Callee.value (Operand.func 20), args := #[Operand.tmp 71], argTypes := #[35] }, type := 4, pos := "law.go:68", after := #[{ on := 46, ground := Ground.data }, { on := 45, ground := Ground.chain }, { on := 45, ground := Ground.guard }], guard := some (45, false) } : Oper)) rfl (fun K hK => ?_) AllReadyH.nil
        go_simp
        go_at_call 20
        refine (lock_zero z _ (h3.only (by exact ⟨rfl, rfl, rfl, rfl⟩)).zero.cell).mono ?_
        rintro e W7 ⟨rfl, rfl⟩
        (try go_wp2_with fail)
        clear hHeld
        refine hK.out _ _ ?_ (fun hHeld => ?_)
        focus ((try dsimp only); exact k4)
        clear hK K
        (try simp only [Act.put, List.setIfInBounds_toArray, List.set_cons_zero, List.set_cons_succ])
        refine wpAnyH_take (i := 48) (oi := (_ : Oper)) (v := ?_) rfl (by kernel_rfl) (by kernel_rfl) (by kernel_rfl) (fun _ _ _ h => h) (Or.inl ⟨by rfl, ?_⟩) (by assumption) ?_
        rotate_left
        focus (intro w hSw; (try dsimp only at hSw); go_simp; (try with_reducible rfl))
        (try simp only [Act.put, List.setIfInBounds_toArray, List.set_cons_zero, List.set_cons_succ])
        refine wpAnyH_done (by kernel_rfl) ?_ _
        all_goals (
          have hmeas : n - (i + 1) < n - i := by omega
          obtain ⟨P2, hP2⟩ : ∃ P2, clr (feedP p f.data.toList) = P2 := ⟨_, rfl⟩
          rw [hP2] at h3
          clear hHeld k4 hf5
          rcases Nat.lt_or_ge i nb with hbn | hbn
          · have hbn' : ((i : Nat) : Int) < ((nb : Nat) : Int) := by omega
            obtain ⟨a4, ha4, hb1, hb2⟩ := hbs i hbn
            subst ha4
            have hcb := (World.cell?_of_block (h3.fr.block _ hb2)).trans hb1
            cases hBv : Bv i with
            | false =>
              rw [hBv] at hcb
              clear hb1 hBv hP2
              go_wp2
              exact ⟨⟨i + 1, _, _, by push_cast; rfl, hlt, h3⟩, hmeas⟩
            | true =>
              rw [hBv] at hcb
              clear hb1 hBv hP2
              go_wp2_with (go_at_call 24; refine (pa_reset h3).mono ?_)
              first | rintro e W8 rfl p8 hb8 hp8 hr8 hf8 | rintro e W8 ⟨rfl, p8, hb8, hp8, hr8, hf8⟩
              obtain ⟨xb, xd, xl, xh, xa⟩ := r3
              have hR8 := rcells hr8
              have m0 : W8.cell? ⟨R, 0, none⟩ = some (.bool xb) := cell_of hR8
              have m1 : W8.cell? ⟨R, 1, none⟩ = some (.string xd) := cell_of hR8
              have m2 : W8.cell? ⟨R, 2, none⟩ = some (.string xl) := cell_of hR8
              have m3 : W8.cell? ⟨R, 3, none⟩ = some (.bool xh) := cell_of hR8
              have m4 : W8.cell? ⟨R, 4, none⟩ = some (.int .u8 (xa.toNat : Int)) := cell_of hR8
              have mz := fz_of hR8
              have hP9 := hp8 _ (((((((OnlyB.refl R W8).setCell 0 (.bool false)).setCell 1 (.string ⟨#[]⟩)).setCell 2 (.string ⟨#[]⟩)).setCell 3 (.bool false)).setCell 4 (.int .u8 0))) (set_at (set_at (set_at (set_at (set_at hR8)))))
              have cK := pa_lock hP9
              rw [hb8] at cK
              clear hp8 hr8 h3 hcb
              go_wp2_with (go_at_call 20; refine cK.mono ?_)
              rintro e W9 ⟨rfl, rfl⟩
              go_wp2
              exact ⟨⟨i + 1, p8, rs0, by push_cast; rfl, hlt, hP9⟩, hmeas⟩
          · have hbn' : ¬ ((i : Nat) : Int) < ((nb : Nat) : Int) := by omega
            clear hP2
            go_wp2
            exact ⟨⟨i + 1, _, _, by push_cast; rfl, hlt, h3⟩, hmeas⟩
          )
      · have hge' : ¬ ((i : Nat) : Int) < ((n : Nat) : Int) := by omega
        have hfr := hPa.fr
        go_wp2
        first | go_end0 | refine bodyPost_ret (results_none rfl _ _ _) rfl ?_
        go_wp2
        go_ret
        exact ⟨rfl, hfr⟩
end Go.Am.Clt
