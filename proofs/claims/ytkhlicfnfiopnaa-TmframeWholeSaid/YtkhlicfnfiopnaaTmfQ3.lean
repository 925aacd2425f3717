/-
  Tmframe: the reference's Add. Own work.
-/
import Derived.Test.YtkhlicfnfiopnaaTmfQ2
namespace Go.Am.Tmf
open Go Go.Am Go.Am.Lib Go.Lib Go.Proofs Go.RowKit
open Go.Am.Own
set_option maxRecDepth 100000

theorem infoS : ∃ i0, Try.prog.info? 9 = some i0 ∧ i0.zero = some (.string ⟨#[]⟩) ∧ i0.size = 1 ∧ i0.bytes = 16 := by
  have h : (Try.prog.info? 9).map (fun i => (i.zero, i.size, i.bytes)) = some (some (.string ⟨#[]⟩), 1, 16) := by kernel_rfl
  obtain ⟨i, h1, h2⟩ := Option.map_eq_some_iff.1 h
  simp only [Prod.mk.injEq] at h2
  exact ⟨i, h1, h2.1, h2.2.1, h2.2.2⟩
theorem rget_e {p : ByteArray} {e : Int} (h : Pkt.getE p = e) (w : World) : Calls Try.prog 49 #[.string p] w fun r w' => r = .returned (.tuple #[.agg #[.bool (Pkt.gC p), .int .i64 ((Pkt.gA p : Nat) : Int), .int .i64 ((Pkt.gF p : Nat) : Int), .int .i64 ((Pkt.gN p : Nat) : Int), .string (Pkt.gD p)], .int .i64 e]) ∧ Below w.heap.size w w' := by
  have := flat_calls Pkt.okRGet w (args := [.string p]) rfl (v := .tuple ⟨[.agg ⟨[.bool (Pkt.gC p), .int .i64 ((Pkt.gA p : Nat) : Int), .int .i64 ((Pkt.gF p : Nat) : Int), .int .i64 ((Pkt.gN p : Nat) : Int), .string (Pkt.gD p)]⟩, .int .i64 (Pkt.getE p)]⟩) rfl ⟨rfl, rfl⟩
  rw [h] at this
  exact this
def raddE (y : RS) (p : ByteArray) : Int := if Pkt.getE p ≠ 0 ∨ Pkt.gA p = 2047 then 6 else if 65536 < y.wait + p.size then 5 else 0
theorem RAt.below {S : Nat → Prop} {b : Nat} {y : RS} {w w' : World} (h : RAt S b y w) (hb : Below w.heap.size w w') : RAt S b y w' := by
  obtain ⟨v, h⟩ := h; exact ⟨v, h.below hb⟩
theorem RAt.hS {S : Nat → Prop} {b : Nat} {y : RS} {w : World} (h : RAt S b y w) : ∀ k, w.heap.size ≤ k → S k := by
  obtain ⟨v, h⟩ := h; exact h.hS
theorem rfr_below {S : Nat → Prop} {b : Nat} {y : RS} {w w' : World} (h : RAt S b y w) (hb : Below w.heap.size w w') : FrS S w w' := fr_of hb h.hS
set_option maxHeartbeats 1600000 in
theorem radd_bad {S : Nat → Prop} {b : Nat} {y : RS} {w : World} (h : RAt S b y w) (p : ByteArray) (hE : Pkt.getE p = 6) :
    Calls Try.prog 27 #[.pointer (some ⟨b, 0, none⟩), .string p] w fun e w' => e = .returned (.int .i64 6) ∧ RAt S b y w' ∧ FrS S w w' := by
  go_enter Try.func27, Try.ntmps27
  go_wp2_with (go_at_call 49; refine (rget_e hE _).mono ?_; rintro e W2 ⟨rfl, b2⟩)
  obtain ⟨A, hA⟩ : ∃ A, Pkt.gA p = A := ⟨_, rfl⟩
  rw [hA]
  go_wp2
  go_ret
  have b3 := b2.alloc b2.size (.cells #[.bool (Pkt.gC p), .int .i64 ((A : Nat) : Int), .int .i64 ((Pkt.gF p : Nat) : Int), .int .i64 ((Pkt.gN p : Nat) : Int), .string (Pkt.gD p)] 51)
  exact ⟨rfl, h.below b3, rfr_below h b3⟩
set_option maxHeartbeats 1600000 in
theorem radd_idle {S : Nat → Prop} {b : Nat} {y : RS} {w : World} (h : RAt S b y w) (p : ByteArray) (hE : Pkt.getE p = 0) (hA : Pkt.gA p = 2047) :
    Calls Try.prog 27 #[.pointer (some ⟨b, 0, none⟩), .string p] w fun e w' => e = .returned (.int .i64 6) ∧ RAt S b y w' ∧ FrS S w w' := by
  go_enter Try.func27, Try.ntmps27
  go_wp2_with (go_at_call 49; refine (rget_e hE _).mono ?_; rintro e W2 ⟨rfl, b2⟩)
  go_ret
  have b3 := b2.alloc b2.size (.cells #[.bool (Pkt.gC p), .int .i64 ((2047 : Nat) : Int), .int .i64 ((Pkt.gF p : Nat) : Int), .int .i64 ((Pkt.gN p : Nat) : Int), .string (Pkt.gD p)] 51)
  exact ⟨rfl, h.below b3, rfr_below h b3⟩
set_option maxHeartbeats 1600000 in
theorem radd_full {S : Nat → Prop} {b N : Nat} {y : RS} {w : World} (h : RAt S b y w) (hl : y.L.length ≤ N) (hn : N ≤ 2 ^ 20) (hq : y.wait ≤ 2 ^ 30) (p : ByteArray) (hE : Pkt.getE p = 0) (hA : Pkt.gA p ≠ 2047) (hf : 65536 < y.wait + p.size) (hp : p.size ≤ 2 ^ 40) :
    Calls Try.prog 27 #[.pointer (some ⟨b, 0, none⟩), .string p] w fun e w' => e = .returned (.int .i64 5) ∧ RAt S b y w' ∧ FrS S w w' := by
  obtain ⟨A, hAA⟩ : ∃ A, Pkt.gA p = A := ⟨_, rfl⟩
  have hw := fun w' (h : RAt S b y w') => rwaits h hl hn hq
  obtain ⟨wt, hwt⟩ : ∃ n, y.wait = n := ⟨_, rfl⟩
  rw [hwt] at hf hq
  have hA' : (((A : Nat) : Int) == 2047) = false := by rw [← hAA]; simp; omega
  have hf' : (65536 : Int) < ((wt : Nat) : Int) + ((p.size : Nat) : Int) := by omega
  simp only [hwt] at hw
  have HW := Lib.hid hw
  clear hw hwt
  go_enter Try.func27, Try.ntmps27
  go_wp2_with (go_at_call 49; refine (rget_e hE _).mono ?_; rintro e W2 ⟨rfl, b2⟩; rw [hAA])
  have b3 := b2.alloc b2.size (.cells #[.bool (Pkt.gC p), .int .i64 ((A : Nat) : Int), .int .i64 ((Pkt.gF p : Nat) : Int), .int .i64 ((Pkt.gN p : Nat) : Int), .string (Pkt.gD p)] 51)
  go_wp2_with (go_at_call 28; refine (HW.out _ (h.below b3)).mono ?_; rintro e W4 ⟨rfl, rfl⟩)
  go_wp2
  go_ret
  exact ⟨rfl, h.below b3, rfr_below h b3⟩
set_option maxHeartbeats 3200000 in
theorem radd_ok {S : Nat → Prop} {b N : Nat} {y : RS} {w : World} (h : RAt S b y w) (hl : y.L.length ≤ N) (hn : N ≤ 2 ^ 20) (hq : y.wait ≤ 2 ^ 30) (p : ByteArray) (hE : Pkt.getE p = 0) (hA : Pkt.gA p ≠ 2047) (hf : ¬ 65536 < y.wait + p.size) :
    Calls Try.prog 27 #[.pointer (some ⟨b, 0, none⟩), .string p] w fun e w' => e = .returned (.int .i64 0) ∧ RAt S b (y.add p.data.toList) w' ∧ FrS S w w' := by
  obtain ⟨i0, hi, hz0, hz1, hz2⟩ := infoS
  have HL := Lib.hid (And.intro hl hn)
  obtain ⟨A, hAA⟩ : ∃ A, Pkt.gA p = A := ⟨_, rfl⟩
  have hw := fun w' (h : RAt S b y w') => rwaits h hl hn hq
  obtain ⟨wt, hwt⟩ : ∃ n, y.wait = n := ⟨_, rfl⟩
  rw [hwt] at hf hq
  have hA' : (((A : Nat) : Int) == 2047) = false := by rw [← hAA]; simp; omega
  have hf' : ¬ (65536 : Int) < ((wt : Nat) : Int) + ((p.size : Nat) : Int) := by omega
  have hpz : p.size ≤ 65536 := by omega
  simp only [hwt] at hw
  have HW := Lib.hid hw
  clear hw hwt hl hn
  go_enter Try.func27, Try.ntmps27
  go_wp2_with (go_at_call 49; refine (rget_e hE _).mono ?_; rintro e W2 ⟨rfl, b2⟩; rw [hAA])
  have b3 := b2.alloc b2.size (.cells #[.bool (Pkt.gC p), .int .i64 ((A : Nat) : Int), .int .i64 ((Pkt.gF p : Nat) : Int), .int .i64 ((Pkt.gN p : Nat) : Int), .string (Pkt.gD p)] 51)
  obtain ⟨v, h3⟩ := h.below b3
  have b4 := rfr_below h b3
  obtain ⟨W3, hW3⟩ : ∃ W3, W2.alloc (.cells #[.bool (Pkt.gC p), .int .i64 ((A : Nat) : Int), .int .i64 ((Pkt.gF p : Nat) : Int), .int .i64 ((Pkt.gN p : Nat) : Int), .string (Pkt.gD p)] 51) = W3 := ⟨_, rfl⟩
  rw [hW3] at h3 b4 ⊢
  clear hW3 b3 b2 h
  obtain ⟨ao, cap, rfl⟩ := ownsRow_slice h3.r
  have h5 := h3.below ((Below.refl _ W3).alloc (Nat.le_refl _) (.cells #[] 9))
  have b5 : FrS S w (W3.alloc (.cells #[] 9)) := b4.alloc h3.hS _
  have hown : (W3.alloc (.cells #[] 9)).ownsRow 0 9 1 (.slice (some ⟨W3.heap.size, 0, none⟩) 0 0) 0 [] := ⟨rfl, .inr ⟨W3.heap.size, 0, #[], rfl, Nat.zero_le _, heap_alloc_new W3 _, Nat.le_refl _, by unfold maxLen; omega, rfl, rfl⟩⟩
  have hone : ∀ u ∈ cellS y.L, u.oneCell' = true := fun u hu => by
    obtain ⟨l, _, rfl⟩ := List.mem_map.1 hu; rfl
  have hbH : b ≠ W3.heap.size := by have := h3.lt; omega
  have hk3 := h3.bne
  have hlt := h3.lt
  go_wp2_with (first
    | (go_at_call 28; refine (HW.out _ ⟨_, h3⟩).mono ?_; rintro e W4 ⟨rfl, rfl⟩; have c1 := h3.c1; have d1 := h5.c1; clear HW hAA)
    | (at_builtin; refine wpList_append_rows rfl _ _ 44 rfl 0 0 9 i0 (.string ⟨#[]⟩) 16 Try.underlying44 hi hz0 hz1 hz2 rfl _ 0 [] rfl hown _ y.L.length (cellS y.L) rfl h5.r hone ?_ (by have := HL.out; omega) (Nat.zero_le _) ?_))
  · have := HL.out; unfold maxLen; omega
  intro v6 W6 hr6 hg6 hw6
  have hr7 : (W6.alloc (.cells #[.string p] 9)).ownsRow 0 9 1 v6 y.L.length (cellS y.L) := ownsRow_keep hr6 fun k hk => (World.grownBy_alloc W6 (.cells #[.string p] 9) none).block k (hr6.lt k hk).2 (by simp)
  have hn6 : v6.ownBlock ≠ some b := fun e => by
    rcases hw6 with e1 | e1
    · rw [e1] at e; injection e with e; exact hbH e.symm
    · rw [e1] at e; injection e with e; omega
  have hb6 : W6.heap[b]? = W3.heap[b]? := (hg6.block b (by rw [alloc_size]; omega) (fun e => hbH (by injection e))).trans ((World.grownBy_alloc W3 (.cells #[] 9) none).block b hlt (by simp))
  have s6 : W3.heap.size + 1 ≤ W6.heap.size := by have := hg6.size; rw [alloc_size] at this; exact this
  go_wp2_with (at_builtin; refine wpList_append_at rfl _ _ 44 rfl 0 9 i0 (.string ⟨#[]⟩) 1 16 Try.underlying44 hi hz0 hz1 hz2 rfl (by decide) _ y.L.length (cellS y.L) rfl hr7 ⟨W6.heap.size, 0, none⟩ 1 1 [.string p] rfl rfl (cell_one W6 9 _) (by intro u hu; exact one_mem hu rfl) (by decide) ?_ (by have := HL.out; omega) (Nat.zero_le _) ?_)
  · have := HL.out; unfold maxLen; omega
  intro v8 W8 hr8 hg8 hw8
  have hb8 : W8.heap[b]? = W3.heap[b]? := ((hg8.block b (by rw [alloc_size]; omega) (fun e => hn6 e.symm)).trans ((World.grownBy_alloc W6 (.cells #[.string p] 9) none).block b (by omega) (by simp))).trans hb6
  have d8 : W8.cell? ⟨b, 1, none⟩ = some (.slice ao y.L.length cap) := cell_of (hb8.trans h3.cell)
  have f8 := fz_of (hb8.trans h3.cell) 1
  have hr8' : W8.ownsRow 0 9 1 v8 (y.L ++ [p.data.toList]).length (cellS (y.L ++ [p.data.toList])) := by
    have e : cellS (y.L ++ [p.data.toList]) = cellS y.L ++ [.string p] := by unfold cellS; rw [List.map_append]; rfl
    rw [e, List.length_append]
    exact hr8
  have hv6 : ∀ k, v6.ownBlock = some k → S k := fun k hk => by
    rcases hw6 with e1 | e1
    · rw [e1] at hk
      have hk : W3.heap.size = k := by injection hk
      exact h3.hS k (by omega)
    · rw [e1] at hk
      have hk : W3.heap.size + 1 = k := by injection hk
      exact h3.hS k (by omega)
  have hS6 : ∀ k, W6.heap.size ≤ k → S k := fun k hk => h3.hS k (by omega)
  have hv8 : ∀ k, v8.ownBlock = some k → S k := fun k hk => by
    rcases hw8 with e1 | e1
    · exact hv6 k (by rw [← e1]; exact hk)
    · rw [e1] at hk; injection hk with hk; exact hS6 k (by omega)
  have b6 : FrS S w W6 := b5.grown hg6 (fun k hk => h3.hS k (by rw [alloc_size] at hk; omega)) (fun k e => by
    have e : W3.heap.size = k := by injection e
    exact h3.hS k (by omega))
  have b8 : FrS S w W8 := (b6.alloc hS6 _).grown hg8 (fun k hk => hS6 k (by rw [alloc_size] at hk; omega)) hv6
  have h9 := h3.setL (w' := W8) hr8' (by have := hg8.size; rw [alloc_size] at this; omega) hb8 hv8
  have b9 : FrS S w (W8.setCell ⟨b, 1, none⟩ v8) := b8.trans (((OnlyB.refl b W8).setCell 1 v8).fr h3.hb)
  obtain ⟨ao8, cap8, rfl⟩ := ownsRow_slice hr8'
  obtain ⟨n8, hn8⟩ : ∃ n, (y.L ++ [p.data.toList]).length = n := ⟨_, rfl⟩
  rw [hn8] at h9 b9 ⊢
  clear hn8 hr8 hr8' hg8 hw8 hr7 hr6 hg6 hw6 hb6 hb8 b6 b8 hv6 hv8 h5 hown
  go_wp2
  go_ret
  exact ⟨rfl, ⟨_, h9⟩, b9⟩
theorem radd_at {S : Nat → Prop} {b N : Nat} {y : RS} {w : World} (h : RAt S b y w) (hl : y.L.length ≤ N) (hn : N ≤ 2 ^ 20) (hq : y.wait ≤ 2 ^ 30) (p : ByteArray) (hp : p.size ≤ 2 ^ 40) :
    Calls Try.prog 27 #[.pointer (some ⟨b, 0, none⟩), .string p] w fun e w' => e = .returned (.int .i64 (raddE y p)) ∧ RAt S b (if raddE y p = 0 then y.add p.data.toList else y) w' ∧ FrS S w w' := by
  unfold raddE
  rcases getE_cases p with hE | hE
  · by_cases hA : Pkt.gA p = 2047
    · rw [if_pos (.inr hA), if_neg (by decide)]
      exact radd_idle h p hE hA
    · rw [if_neg (by rw [hE]; simp; exact hA)]
      by_cases hf : 65536 < y.wait + p.size
      · rw [if_pos hf, if_neg (by decide)]
        exact radd_full h hl hn hq p hE hA hf hp
      · rw [if_neg hf, if_pos rfl]
        exact radd_ok h hl hn hq p hE hA hf
  · rw [if_pos (.inl (by rw [hE]; decide)), if_neg (by decide)]
    exact radd_bad h p hE
end Go.Am.Tmf
