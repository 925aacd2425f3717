/-
  Joiner: how many messages have begun: the program's joiner. Own work.
-/
import Derived.Test.YtbpfhjmiaaaoiaaJoiS1
namespace Go.Am.Joi
open Go Go.Am Go.Am.Lib Go.Lib Go.Proofs Go.RowKit
open Go.Am.Own
set_option maxRecDepth 100000

variable {S : Nat → Prop} {b mb N hole : Nat} {J : Js} {tv : Nat → Value} {D : DataW Value} {w w' : World}
/-- The entries that have been met. -/
structure Met (J : Js) (D : DataW Value) (left : Lit → Bool) (ds : List Nat) (c : Nat) : Prop where
  nd : ds.Nodup
  iff : ∀ a, a ∈ ds ↔ ((∃ k, J a = some k) ∧ left (klt a) = false)
  has : ∀ kl, left kl = true → Maps.has D kl = true
  cnt : (ds.filter fun a => opnK (J a)).length = c
theorem Met.start (h : JC S b mb N hole J tv D w) : Met J D (Maps.has D) [] 0 :=
  ⟨List.nodup_nil, fun a => ⟨fun h => (by cases h), fun ⟨⟨k, hk⟩, h2⟩ => by rw [(h.yes a k hk).1] at h2; cases h2⟩, fun kl h => h, rfl⟩
theorem klt_same (a a' : Nat) : (klt a').sameKey (klt a) = decide (a' = a) := by
  by_cases e : a' = a
  · subst e; rw [WideAt.sameKey_self (keyLit a'), decide_eq_true rfl]
  · rw [decide_eq_false e]
    cases hs : (klt a').sameKey (klt a)
    · rfl
    · exact absurd (klt_inj (WideAt.sameKey_eq hs)) e
theorem Met.one {left : Lit → Bool} {ds : List Nat} {c a : Nat} {k : Kn} (h : Met J D left ds c) (hJ : J a = some k) (hl : left (klt a) = true) : Met J D (fun z => left z && !z.sameKey (klt a)) (a :: ds) (c + if k.opn = true then 1 else 0) := by
  have hnot : a ∉ ds := fun e => by rw [((h.iff a).1 e).2] at hl; cases hl
  refine ⟨List.nodup_cons.2 ⟨hnot, h.nd⟩, fun x => ?_, fun kl hk => ?_, ?_⟩
  · show _ ↔ _ ∧ (left (klt x) && !(klt x).sameKey (klt a)) = false
    rw [klt_same, List.mem_cons, h.iff]
    by_cases e : x = a
    · subst e
      simp [hJ]
    · simp [e]
  · exact h.has kl (by have : (left kl && !kl.sameKey (klt a)) = true := hk; rw [Bool.and_eq_true] at this; exact this.1)
  · rw [← h.cnt, List.filter_cons]
    have e : opnK (J a) = k.opn := by rw [hJ]; rfl
    rw [e]
    cases k.opn <;> rfl
theorem Met.done {left : Lit → Bool} {ds ks : List Nat} {c : Nat} (h : Met J D left ds c) (hl : ∀ kl, left kl = false) (hk : ks.Nodup) (hm : ∀ a, a ∈ ks ↔ ∃ k, J a = some k) : c = (ks.filter fun a => opnK (J a)).length := by
  rw [← h.cnt]
  refine nodup_len (h.nd.filter _) (hk.filter _) fun a => ?_
  rw [List.mem_filter, List.mem_filter, h.iff, hm, hl]
  simp
theorem Met.le {left : Lit → Bool} {ds ks : List Nat} {c : Nat} (h : Met J D left ds c) (hm : ∀ a, a ∈ ks ↔ ∃ k, J a = some k) : c ≤ ks.length := by
  rw [← h.cnt]
  exact Nat.le_trans (List.length_filter_le _ _) (nodup_le h.nd fun a ha => (hm a).2 ((h.iff a).1 ha).1)
set_option maxHeartbeats 1600000 in
theorem open_calls (h : JAt S b N J w) {ks : List Nat} (hk : ks.Nodup) (hm : ∀ a, a ∈ ks ↔ ∃ k, J a = some k) (hks : ks.length ≤ 1000000) :
    Calls Try.prog 18 #[.pointer (some ⟨b, 0, none⟩)] w fun e w' => e = .returned (.int .i64 (((ks.filter fun a => opnK (J a)).length : Nat) : Int)) ∧ Below w.heap.size w w' := by
  obtain ⟨mb, tv, D, h⟩ := h
  have hc : w.cell? ⟨b, 0, none⟩ = some (.map (some mb)) := cell_of h.cell
  have cN := none_calls b mb w hc
  have hmap := h.map
  have HH := Lib.hid h
  have HK := Lib.hid (And.intro hk hm)
  obtain ⟨R, hR⟩ : ∃ R, (ks.filter fun a => opnK (J a)).length = R := ⟨_, rfl⟩
  have HR := Lib.hid hR
  rw [hR]
  clear hR hk hm h
  obtain ⟨r, hr⟩ : ∃ r, w.heap.size = r := ⟨_, rfl⟩
  go_enter Try.func18, Try.ntmps18
  go_wp2_with (first
    | (go_at_call 34; refine cN.mono ?_; clear cN; rintro e W2 ⟨rfl, rfl⟩)
    | (at_range; refine wpList_range_own _ rfl _ 36 rfl 3 68 keyedInt Try.underlying36 RK mb N D rfl hmap ?_; intro w0 hrg0 hg0 hs0)
    | go_in)
  go_frame
  have hb0 : Below r w w0 := ⟨hg0.os, hg0.tape, hg0.output, by rw [hs0]; omega, fun k hk => hg0.block k (by omega) (by simp)⟩
  rw [hr] at hrg0 ⊢
  go_loopw [3] (fun cv wr => ∃ (left : Lit → Bool) (cnt : Nat) (ds : List Nat) (c : Nat), wr.ranges Try.prog 3 RK mb r N D left cnt ∧ Hid (Met J D left ds c) ∧ cv = .int .i64 ((c : Nat) : Int) ∧ Below r w wr)
    (fun _ wr => wr.rangeLeft mb r)
  case atStart => exact ⟨_, _, [], 0, hrg0, Met.start HH.out, rfl, hb0⟩
  case round =>
    clear hrg0 hg0 hs0 hb0
    obtain ⟨left, cnt, ds, c, hrg, HM, rfl, hB⟩ := hrel
    have hcl : c ≤ 1000000 := Nat.le_trans (HM.out.le HK.out.2) hks
    go_wp2_with (first
      | (at_next; refine wpList_next_ranges _ rfl _ rfl 3 keyedInt RK (Value.int .i64) (fun v : Value => v) (fun key kl hkey => by obtain ⟨x, rfl, _⟩ := Maps.keyOf_int_inv Try.underlying3 hkey; exact ⟨x, rfl⟩) (fun v y _ => ⟨v, rfl⟩) mb r N D _ _ rfl hrg ?_ ?_)
      | go_in)
    · intro _ hl0
      have he := HM.out.done hl0 HK.out.1 HK.out.2
      rw [HR.out] at he
      subst he
      clear hrg
      go_wp2
      go_ret
      exact ⟨rfl, by rw [hr]; exact hB⟩
    · intro x v kl y1 y2 w1 cnt1 hkey hlx hv hat hrg1 hlt hg1 hs1 hen
      obtain ⟨a, ha, hkl⟩ := HH.out.keys kl (HM.out.has kl hlx)
      obtain ⟨x', ex, ekl, _⟩ := Maps.keyOf_int_inv Try.underlying3 hkey
      have exx : x = x' := by injection ex
      obtain ⟨k, hJ⟩ : ∃ k, J a = some k := by
        cases hJ : J a with
        | some k => exact ⟨k, rfl⟩
        | none =>
          have h1 := HH.out.no a hJ
          rw [← hkl, HM.out.has kl hlx] at h1; cases h1
      subst hkl
      have hv2 : v = kV k (tv a) := by
        have h2 := (HH.out.yes a k hJ).2 (.held v)
        rw [hat] at h2
        have h3 : some ((DataW.held v : DataW Value), ([] : List MemPlace)) = some (y1, y2) := hv
        injection h3 with h3
        injection h3 with h3 _
        rw [← h3] at h2
        injection h2
      have hB1 : Below r w w1 := ⟨hg1.os.trans hB.os, hg1.tape.trans hB.tape, hg1.output.trans hB.output, Nat.le_trans hB.size hg1.size, fun k hk => (hg1.block k (by have := hB.size; omega) (fun e => by injection e with e; omega)).trans (hB.block k hk)⟩
      have HM1 := Lib.hid (HM.out.one hJ hlx)
      have hle := hrg.left_eq
      subst hv2
      obtain ⟨nx, op, tx⟩ := k
      have hm1 : ∀ o, (w1.alloc o).rangeLeft mb r < wr.rangeLeft mb r := fun o => by rw [hle, (hrg1.alloc o).left_eq]; exact hlt
      have HG := Lib.hid (And.intro hrg1 (And.intro hB1 hm1))
      clear hrg hrg1 hB1 hm1 hkey hv hat ekl ex exx hg1 hmap hle hlx hB
      unfold kV at hen
      unfold kV
      obtain ⟨to, tc, htv⟩ := (HH.out.row a _ hJ (by omega)).slice
      rw [htv] at hen ⊢
      clear htv
      cases op with
      | true =>
        go_wp2
        exact ⟨⟨_, cnt1, _, c + 1, HG.out.1.alloc _, HM1.out, by push_cast; rfl, HG.out.2.1.alloc (by have := HG.out.2.1.size; omega) _⟩, HG.out.2.2 _⟩
      | false =>
        go_wp2
        exact ⟨⟨_, cnt1, _, c, HG.out.1.alloc _, HM1.out, rfl, HG.out.2.1.alloc (by have := HG.out.2.1.size; omega) _⟩, HG.out.2.2 _⟩
theorem open_none (v : Value) (w : World) (hN : Calls Try.prog 34 #[v] w fun e w2 => e = .returned (.bool true) ∧ w = w2) :
    Calls Try.prog 18 #[v] w fun e w' => e = .returned (.int .i64 0) ∧ Below w.heap.size w w' := by
  go_enter Try.func18, Try.ntmps18
  go_wp2_with (go_at_call 34; refine hN.mono ?_; clear hN; rintro e W2 ⟨rfl, rfl⟩)
  go_ret
  exact ⟨rfl, Below.refl _ _⟩
end Go.Am.Joi
