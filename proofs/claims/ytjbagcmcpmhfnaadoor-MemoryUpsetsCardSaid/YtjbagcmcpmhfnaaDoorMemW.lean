/-
  Memory: MemoryUpsets, put together. Own work.
-/
import Derived.Test.YtjbagcmcpmhfnaaDoorMemV
namespace Go.Am.Mem
open Go Go.Am Go.Am.Ham Go.Proofs
set_option maxRecDepth 100000

theorem loopU7 : ∀ e h k, TU7 e h k → ∃ m, loopN cUpp (codeOf Tryd.f4) 0 7 m e h k := by
  intro e h k hT
  unfold TU7 at hT
  split at hT
  · rename_i l c l2 c2 sc i
    replace hT := asHA_elim hT
    obtain ⟨vs, t, us, t2, m, ty, ty2, mv, mv2, rfl, hw, rfl, d, hk⟩ := hT
    exact ⟨_, key7A l c l2 c2 us t2 sc vs t ty ty2 mv mv2 hw k hk l 0 m d (by omega)⟩
  · rename_i l c sc i
    replace hT := asHN_elim hT
    obtain ⟨vs, t, m, ty, ty2, mv, mv2, rfl, hw, rfl, d, hk⟩ := hT
    exact ⟨_, key7N l c sc vs t ty ty2 mv mv2 hw k hk l 0 m d (by omega)⟩
  · exact hT.elim
theorem loopU13 : ∀ e h k, TU13 e h k → ∃ m, loopN cUpp (codeOf Tryd.f4) 1 13 m e h k := by
  intro e h k hT
  unfold TU13 at hT
  split at hT
  · rename_i l c l2 c2 sc l3 i
    replace hT := asGA_elim hT
    obtain ⟨vs, t, us, t2, m, ty, ty2, mv, mv2, fl, ty3, mv3, rfl, hw, hu, hl, hl2, hl3, rfl, rfl, rfl, hb, d, hk⟩ := hT
    exact ⟨_, key13A l3 c l2 c2 us t2 sc vs t ty ty2 mv mv2 hw hu hl hl2 k hk hl3 l2 0 m fl mv3 hb d (by omega)⟩
  · rename_i l c sc l3 i
    replace hT := asGN_elim hT
    obtain ⟨vs, t, m, ty, ty2, mv, mv2, fl, ty3, mv3, rfl, hw, hl, rfl, rfl, rfl, hb, d, hk⟩ := hT
    refine ⟨1, ?_⟩
    rw [loopN_succ]
    show tU13N vs t m ty ty2 mv mv2 fl mv3 l3 c sc 0 _
    rw [tU13N_eq]
    rintro x1 rfl
    rw [dF (by omega)]
    exact hk m fl mv3 hb d
  · exact hT.elim
theorem loopU29 : ∀ e h k, TU29 e h k → ∃ m, loopN cUpp (codeOf Tryd.f4) 2 29 m e h k := by
  intro e h k hT
  unfold TU29 at hT
  split at hT
  · rename_i l c l3 i
    replace hT := asGA_elim hT
    obtain ⟨vs, t, us, t2, m, ty, ty2, mv, mv2, fl, ty3, mv3, rfl, hw, rfl, rfl, hb, d, hk⟩ := hT
    exact ⟨_, key29A l3 c us t2 fl vs t ty ty2 ty3 mv mv2 mv3 hw hb k hk l3 0 m (d.congr fun j _ => ⟨fun h => ⟨h, Nat.zero_le _⟩, fun h => h.1⟩) (by omega)⟩
  · rename_i l c l3 i
    replace hT := asGN_elim hT
    obtain ⟨vs, t, m, ty, ty2, mv, mv2, fl, ty3, mv3, rfl, hw, rfl, rfl, hb, d, hk⟩ := hT
    exact ⟨_, key29N l3 c fl vs t ty ty2 ty3 mv mv2 mv3 hw hb k hk l3 0 m (d.congr fun j _ => ⟨fun h => ⟨h, Nat.zero_le _⟩, fun h => h.1⟩) (by omega)⟩
  · exact hT.elim
def sUpp : Spec := fun args h K => match args, h with
  | [.slice (some ⟨0, 0, some 0⟩) l _, .slice (some ⟨1, 0, some 0⟩) l2 _, .bool _], [.ro vs t, .ro us t2] => OkW .u32 (2 ^ 32) vs l ∧ OkW .u16 (2 ^ 16) us l2 ∧ K (.bool true) [.ro vs t, .ro us t2]
  | [.slice (some ⟨0, 0, some 0⟩) l _, .slice none 0 0, .bool _], [.ro vs t] => OkW .u32 (2 ^ 32) vs l ∧ K (.bool true) [.ro vs t]
  | [.slice none 0 0, .slice (some ⟨0, 0, some 0⟩) _ _, .bool _], [.ro us t2] => K (.bool true) [.ro us t2]
  | [.slice none 0 0, .slice none 0 0, .bool _], [] => K (.bool true) []
  | _, _ => False
theorem newB_ok {l : Nat} (h : 1 ≤ l) (h2 : l ≤ 100) : newB ((l : Nat) : Int) 0 = true := by
  unfold newB
  rw [decide_eq_true (by omega), decide_eq_true (by omega), decide_eq_true (by omega), decide_eq_true (by omega)]; rfl
theorem wrt_new {l : Nat} (vs : List Value) (h : 1 ≤ l) (h2 : l ≤ 100) : Wrt (newM l 0) vs l 0 :=
  ⟨good_new h (by omega) (Int.le_refl 0) (by omega), ⟨by show _ ≤ (0 : Int); omega, by show (0 : Int) ≤ _; omega, by show _ ≤ (0 : Int); omega, by show (0 : Int) ≤ _; omega⟩, rfl, fun j hj => by rw [new_at hj, if_neg (by omega)]⟩
theorem okUpp : SpecOk Tryd.prog G0 4 sUpp :=
  spec2 mixed tL_ok Tryd.func4 (by kernel_rfl : Tryd.f4.body = some (codeOf Tryd.f4)) cUpp rfl rfl rfl (by kernel_rfl) (ids := [7, 13, 29]) (by kernel_rfl) ⟨loopU7, loopU13, loopU29, trivial⟩ (by
    intro args h K hk
    unfold sUpp at hk
    split at hk
    · rename_i l c l2 c2 sc vs t us t2
      obtain ⟨hw, hu, hk⟩ := hk
      show bUpA vs t us t2 l c l2 c2 sc K
      rw [bUpA_eq]
      rintro x1 rfl
      by_cases c1 : ((l : Nat) : Int) = 0
      · rw [dT c1]; exact hk
      rw [dF c1]
      rintro x2 rfl
      by_cases c2' : ((l : Nat) : Int) > 100
      · rw [dT c2']; exact hk
      rw [dF c2']
      rintro x3 rfl
      by_cases c3 : ((l2 : Nat) : Int) > 200
      · rw [dT c3]; exact hk
      rw [dF c3]
      rintro x4 rfl
      refine ⟨fun _ => ?_, fun hb => by rw [newB_ok (by omega) (by omega)] at hb; cases hb⟩
      rintro x5 h5 _ rfl
      rw [dnT (by rfl)]
      refine ⟨hw, rfl, by rw [h5, Int.toNat_natCast]; exact wrt_new vs (by omega) (by omega), ?_⟩
      rintro x7 d7 x8 rfl
      rw [mk_ok (by omega) (by omega), Int.toNat_natCast]
      refine ⟨hw, hu, by omega, by omega, by omega, rfl, rfl, rfl, (okB_false l).1, d7.ups, ?_⟩
      rintro x9 x10 _ b d
      refine ⟨hw, rfl, rfl, b, d, ?_⟩
      rintro x12 o12 e12 x13 h13
      rw [dT (by rw [h13, e12])]
      exact hk
    · rename_i l c sc vs t
      obtain ⟨hw, hk⟩ := hk
      show bUpN vs t l c sc K
      rw [bUpN_eq]
      rintro x1 rfl
      by_cases c1 : ((l : Nat) : Int) = 0
      · rw [dT c1]; exact hk
      rw [dF c1]
      rintro x2 rfl
      by_cases c2' : ((l : Nat) : Int) > 100
      · rw [dT c2']; exact hk
      rw [dF c2']
      rintro x3 rfl
      rw [dF (by omega)]
      rintro x4 rfl
      refine ⟨fun _ => ?_, fun hb => by rw [newB_ok (by omega) (by omega)] at hb; cases hb⟩
      rintro x5 h5 _ rfl
      rw [dnT (by rfl)]
      refine ⟨hw, rfl, by rw [h5, Int.toNat_natCast]; exact wrt_new vs (by omega) (by omega), ?_⟩
      rintro x7 d7 x8 rfl
      rw [mk_ok (by omega) (by omega), Int.toNat_natCast]
      refine ⟨hw, by omega, rfl, rfl, rfl, (okB_false l).1, d7.ups, ?_⟩
      rintro x9 x10 _ b d
      refine ⟨hw, rfl, rfl, b, d, ?_⟩
      rintro x12 o12 e12 x13 h13
      rw [dT (by rw [h13, e12])]
      exact hk
    · rename_i l2 c2 sc us t2
      show bUp0a us t2 l2 c2 sc K
      rw [bUp0a_eq]
      rintro x1 rfl
      rw [dT rfl]
      exact hk
    · rename_i sc
      show bUp0b sc K
      rw [bUp0b_eq]
      rintro x1 rfl
      rw [dT rfl]
      exact hk
    · exact hk.elim)
end Go.Am.Mem
