/-
  Joiner: the reference's at. Own work.
-/
import Derived.Test.YtbpfhjmiaaaoiaaJoiS2
namespace Go.Am.Joi
open Go Go.Am Go.Am.Lib Go.Lib Go.Proofs Go.RowKit
open Go.Am.Own
set_option maxRecDepth 100000

variable {S : Nat → Prop} {b a i : Nat} {v : Value} {L : List Rn} {w w' : World}
def zR : Value := .agg #[.int .i64 0, .int .i64 0, .bool false, .string ⟨#[]⟩]
theorem infoR : ∃ i0, Try.prog.info? 74 = some i0 ∧ i0.zero = some zR ∧ i0.size = 4 ∧ i0.bytes = 40 := by
  have h : (Try.prog.info? 74).map (fun i => (i.zero, i.size, i.bytes)) = some (some zR, 4, 40) := by kernel_rfl
  obtain ⟨i, h1, h2⟩ := Option.map_eq_some_iff.1 h
  simp only [Prod.mk.injEq] at h2
  exact ⟨i, h1, h2.1, h2.2.1, h2.2.2⟩
theorem cell_many (w : World) (t : TypeId) (vs : List Value) : ∀ j u, vs[j]? = some u → (w.alloc (.cells ⟨vs⟩ t)).cell? ((⟨w.heap.size, 0, none⟩ : Addr).add j) = some u := by
  intro j u hj
  have ha : ((⟨w.heap.size, 0, none⟩ : Addr).add j) = ⟨w.heap.size, j, none⟩ := by simp [Addr.add]; intro h; exact h.symm
  rw [ha, cell_of (heap_alloc_new w _)]
  simpa using hj
set_option maxHeartbeats 1600000 in
theorem at_old (h : RAt S b L w) (hn : L.length ≤ 1000000) {x : Rn} (hx : L[i]? = some x) (hxa : x.ap = a) (hf : ∀ (j : Nat) (y : Rn), j < i → L[j]? = some y → y.ap ≠ a) :
    Calls Try.prog 35 #[.pointer (some ⟨b, 0, none⟩), .int .i64 ((a : Nat) : Int)] w fun e w' => e = .returned (.tuple #[.int .i64 ((i : Nat) : Int), .bool false]) ∧ w = w' := by
  obtain ⟨v, h⟩ := h
  have hil := (List.getElem?_eq_some_iff.1 hx).1
  obtain ⟨ao, cap, rfl⟩ := ownsRow_slice h.row
  have hc : w.cell? ⟨b, 0, none⟩ = some (.slice ao L.length cap) := cell_of h.cell
  have hrow := h.row
  obtain ⟨_, g, rfl⟩ := ownsRow_base h.row (by omega)
  have hcl : ∀ j y, L[j]? = some y → w.cell? ⟨g, j * 4, none⟩ = some (.int .i64 ((y.ap : Nat) : Int)) := fun j y hy => by
    have hjl := (List.getElem?_eq_some_iff.1 hy).1
    rw [hrow.cellAt (j * 4) (by omega), ← Nat.add_zero (j * 4), flR_get hy (by decide)]; rfl
  obtain ⟨n, hnn⟩ : ∃ n, L.length = n := ⟨_, rfl⟩
  rw [hnn] at hc hn hil
  have HL := Lib.hid hnn
  have HC := Lib.hid hcl
  clear h hrow hcl hnn
  go_enter Try.func35, Try.ntmps35
  go_wp2
  go_loopw [6] (fun iv wr => ∃ (j : Nat), iv = .int .i64 (j : Nat) ∧ j ≤ i ∧ wr = w)
    (fun iv _ => n - iOf iv)
  case atStart => exact ⟨0, rfl, Nat.zero_le _, rfl⟩
  case round =>
    obtain ⟨j, rfl, hj, rfl⟩ := hrel
    have hlt : j < n := by omega
    have hlt' : ((j : Nat) : Int) < ((n : Nat) : Int) := by omega
    obtain ⟨y, hy⟩ : ∃ y, L[j]? = some y := ⟨_, List.getElem?_eq_getElem (by have := HL.out; omega)⟩
    have hcy := HC.out j y hy
    have hm : n - (j + 1) < n - j := by omega
    rcases Nat.lt_or_ge j i with hji | hji
    · have hne : (((y.ap : Nat) : Int) == ((a : Nat) : Int)) = false := by
        have := hf j y hji hy
        simp; omega
      clear hf hx hy
      go_wp2
      exact ⟨⟨j + 1, by push_cast; rfl, hji, trivial⟩, hm⟩
    · have e : j = i := by omega
      subst e
      rw [hx] at hy
      injection hy with hy
      subst hy
      rw [hxa] at hcy
      clear hf hx
      go_wp2
      go_ret2
      exact ⟨rfl, rfl⟩
set_option maxHeartbeats 1600000 in
theorem at_new (h : RAt S b L w) (hn : L.length ≤ 1000000) (ha : a < 2047) (hf : ∀ (j : Nat) (y : Rn), L[j]? = some y → y.ap ≠ a) :
    Calls Try.prog 35 #[.pointer (some ⟨b, 0, none⟩), .int .i64 ((a : Nat) : Int)] w fun e w' => e = .returned (.tuple #[.int .i64 ((L.length : Nat) : Int), .bool true]) ∧ RAt S b (L ++ [⟨a, 0, false, ⟨#[]⟩⟩]) w' ∧ FrS S w w' := by
  obtain ⟨iK, iK1, iK2, iK3, iK4⟩ := infoR
  obtain ⟨v, h⟩ := h
  obtain ⟨ao, cap, rfl⟩ := ownsRow_slice h.row
  have hc : w.cell? ⟨b, 0, none⟩ = some (.slice ao L.length cap) := cell_of h.cell
  have HH := Lib.hid h
  have hcl : ∀ g, ao = some ⟨g, 0, none⟩ → ∀ j y, L[j]? = some y → w.cell? ⟨g, j * 4, none⟩ = some (.int .i64 ((y.ap : Nat) : Int)) := fun g hg j y hy => by
    subst hg
    have hjl := (List.getElem?_eq_some_iff.1 hy).1
    rw [h.row.cellAt (j * 4) (by omega), ← Nat.add_zero (j * 4), flR_get hy (by decide)]; rfl
  obtain ⟨n, hnn⟩ : ∃ n, L.length = n := ⟨_, rfl⟩
  obtain ⟨W1, hW1⟩ : ∃ W, w.alloc (.cells #[.int .i64 ((a : Nat) : Int), .int .i64 0, .bool false, .string ⟨#[]⟩] 74) = W := ⟨_, rfl⟩
  have hB1 : Below w.heap.size w W1 := by rw [← hW1]; exact (Below.refl _ w).alloc (Nat.le_refl _) _
  have hsz : W1.heap.size = w.heap.size + 1 := by rw [← hW1, alloc_size]
  have hcm := cell_many w 74 [.int .i64 ((a : Nat) : Int), .int .i64 0, .bool false, .string ⟨#[]⟩]
  have hcm : ∀ j u, [(.int .i64 ((a : Nat) : Int) : Value), .int .i64 0, .bool false, .string ⟨#[]⟩][j]? = some u → W1.cell? ((⟨w.heap.size, 0, none⟩ : Addr).add j) = some u := by rw [← hW1]; exact hcm
  have h1 := h.below hB1
  have hrow := h1.row
  rw [hnn] at hc hn hrow
  have hc1 : W1.cell? ⟨b, 0, none⟩ = some (.slice ao n cap) := by rw [← hnn]; exact cell_of h1.cell
  have hfz1 := fz_of h1.cell
  have HH1 := Lib.hid h1
  have HL := Lib.hid hnn
  have HC := Lib.hid hcl
  have HB := Lib.hid hB1
  clear hcl h h1 hB1
  rw [hnn]
  clear hnn
  go_enter Try.func35, Try.ntmps35
  go_wp2
  go_loopw [6] (fun iv wr => ∃ (j : Nat), iv = .int .i64 (j : Nat) ∧ j ≤ n ∧ wr = w)
    (fun iv _ => n - iOf iv)
  case atStart => exact ⟨0, rfl, Nat.zero_le _, rfl⟩
  case round =>
    obtain ⟨j, rfl, hj, rfl⟩ := hrel
    rcases Nat.lt_or_ge j n with hlt | hge
    · have hlt' : ((j : Nat) : Int) < ((n : Nat) : Int) := by omega
      obtain ⟨y, hy⟩ : ∃ y, L[j]? = some y := ⟨_, List.getElem?_eq_getElem (by have := HL.out; omega)⟩
      obtain ⟨_, g, rfl⟩ := ownsRow_base HH.out.row (by have := HL.out; omega)
      have hcy := HC.out g rfl j y hy
      have hm : n - (j + 1) < n - j := by omega
      have hne : (((y.ap : Nat) : Int) == ((a : Nat) : Int)) = false := by
        have := hf j y hy
        simp; omega
      clear hf hy hW1 hcm hrow
      go_wp2
      exact ⟨⟨j + 1, by push_cast; rfl, hlt, trivial⟩, hm⟩
    · have hge' : ¬ ((j : Nat) : Int) < ((n : Nat) : Int) := by omega
      go_wp2_with (at_builtin; (try rw [hW1]); refine wpList_append_at rfl _ _ 33 rfl 0 74 iK zR 4 40 Try.underlying33 iK1 iK2 iK3 iK4 rfl (by decide) _ n (flR L) rfl hrow ⟨wr.heap.size, 0, none⟩ 1 1 [.int .i64 ((a : Nat) : Int), .int .i64 0, .bool false, .string ⟨#[]⟩] rfl rfl hcm (by intro u hu; simp only [List.mem_cons, List.not_mem_nil, or_false] at hu; rcases hu with rfl | rfl | rfl | rfl <;> rfl) (by decide) ?_ (by omega) (Nat.zero_le _) ?_)
      · unfold maxLen; omega
      intro v5 V5 hr5 hg5 hw5
      obtain ⟨o5, c5, rfl⟩ := ownsRow_slice hr5
      have h1 := HH1.out
      rw [HL.out] at h1
      have hne := ownsRow_neb h1.row h1.cell (by decide)
      have hcb := (hg5.block b h1.lt (fun e => hne e.symm)).trans h1.cell
      have k0 : V5.cell? ⟨b, 0, none⟩ = some (.slice ao n cap) := cell_of hcb
      have k1 := fz_of hcb 0
      have k2 := set_at (o := 0) (v := .slice o5 (n + 1) c5) hcb
      obtain ⟨V6, hV6⟩ : ∃ V, V5.setCell ⟨b, 0, none⟩ (.slice o5 (n + 1) c5) = V := ⟨_, rfl⟩
      have hof : OnlyB b V5 V6 := by rw [← hV6]; exact (OnlyB.refl b V5).setCell 0 _
      rw [hV6] at k2
      have k3 : V6.cell? ⟨b, 0, none⟩ = some (.slice o5 (n + 1) c5) := cell_of k2
      have hin := in_S (w := W1) (v := .slice ao n cap) h1.hS h1.rs (by rw [hsz]; exact hw5)
      have hne5 := ownsRow_neb hr5 hcb (by decide)
      have hF : RAt S b (L ++ [⟨a, 0, false, ⟨#[]⟩⟩]) V6 ∧ FrS S wr V6 := by
        have hL := HL.out
        have fr1 := fr_of HB.out HH.out.hS
        have fr2 : FrS S wr V5 := fr1.grown hg5 h1.hS h1.rs
        have fr3 : FrS S wr V6 := fr2.trans (hof.fr h1.hb)
        refine ⟨⟨.slice o5 (n + 1) c5, fun k hk => HH.out.hS k (Nat.le_trans fr3.size hk), k2, h1.hb, ?_, hin, fun j x hx => ?_⟩, fr3⟩
        · have e1 : (L ++ [(⟨a, 0, false, ⟨#[]⟩⟩ : Rn)]).length = n + 1 := by rw [List.length_append, hL]; rfl
          rw [e1, flR_app]
          exact ownsRow_keep hr5 fun k hk => hof.rest k fun e => hne5 (by rw [hk, e])
        · rw [List.getElem?_append] at hx
          split at hx
          · exact HH.out.bd j x hx
          · cases hjl : j - L.length with
            | zero =>
              rw [hjl] at hx
              injection hx with hx
              subst hx
              exact ⟨ha, by show 0 < 16384; decide, fun e => by cases e⟩
            | succ m => rw [hjl] at hx; simp at hx
      have HF := Lib.hid hF
      clear hF hin hne5 hr5 hg5 hw5 hcb k2 hof hrow hcm hf h1 hne hW1 hsz
      go_wp2
      go_ret2
      exact ⟨rfl, HF.out⟩
end Go.Am.Joi
