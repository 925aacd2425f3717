/-
  Memory: MemoryPlays. Own work.
-/
import Derived.Test.YtjbagcmcpmhfnaaDoorMemY2
import Derived.Test.YtjbagcmcpmhfnaaDoorMemZ2
import Derived.Test.YtjbagcmcpmhfnaaDoorMemZ4
import Derived.Test.YtjbagcmcpmhfnaaDoorAmY
namespace Go.Am.Mem
open Go Go.Am Go.Am.Ham Go.Proofs
set_option maxRecDepth 100000

theorem loopPl : ∀ e h k, TPl e h k → ∃ m, loopN cPl (codeOf Tryd.f8) 0 11 m e h k := by
  intro e h k hT
  unfold TPl at hT
  split at hT
  · rename_i l c i
    obtain ⟨vs, t, m, tb, ty, ty2, ty3, ty4, v1, v2, v3, v4, v5, rfl, _, ha, hl, rfl, ho, hc, hk⟩ := asB1_elim hT (fun _ _ _ _ _ _ _ _ _ _ _ _ _ _ h => h.1)
    have key : ∀ (d i : Nat) (m : Mem), OkM m → CntM m → i + d = l → loopN cPl (codeOf Tryd.f8) 0 11 (d + 1) [(2, .slice (some ⟨0, 0, some 0⟩) l c), (11, .pointer (some ⟨1, 0, some 0⟩)), (12, .int .i64 (i : Nat))] (both1 vs t m tb ty ty2 ty3 ty4 v1 v2 v3 v4 v5) k := by
      intro d
      induction d with
      | zero =>
        intro i m ho hc hi
        rw [loopN_succ]
        show tPl vs t m tb ty ty2 ty3 ty4 v1 v2 v3 v4 v5 l c i _
        rw [tPl_eq]
        rintro x1 rfl
        rw [dF (by omega)]
        exact hk
      | succ d ih =>
        intro i m ho hc hi
        rw [loopN_succ]
        show tPl vs t m tb ty ty2 ty3 ty4 v1 v2 v3 v4 v5 l c i _
        rw [tPl_eq]
        rintro x1 rfl
        have hlen := ha.len
        have hl' : l ≤ 9223372036854775807 := hl
        have hi' : i < l := by omega
        rw [dT (by omega), dT2 (by omega) (by omega), Int.toNat_natCast, dT (by omega), show i * 5 + 1 + 1 + 1 + 1 = i * 5 + 4 from rfl, show i * 5 + 1 + 1 + 1 = i * 5 + 3 from rfl, show i * 5 + 1 + 1 = i * 5 + 2 from rfl,
          ha.c0 i hi', cond_true, ha.c1 i hi', cond_true, ha.c2 i hi', cond_true, (ha.c3 i hi').1, cond_true, ha.c4 i hi', cond_true]
        refine ⟨rfl, ho, hc, (ha.c3 i hi').2.1, by have := (ha.c3 i hi').2.2; omega, fun x2 o2 c2 => ⟨rfl, o2, fun x3 h3 => ?_⟩⟩
        rw [iAdd_i64 (by omega) (by omega)] at h3
        obtain rfl : x3 = ((i + 1 : Nat) : Int) := by omega
        exact ih (i + 1) x2 o2 c2 (by omega)
    exact ⟨_, key l 0 m ho hc (by omega)⟩
  · exact hT.elim
def sPl : Spec := fun args h K => match args, h with
  | [.int .i64 _, .int .i64 _, .slice (some ⟨0, 0, some 0⟩) l _], [.ro vs t] => OkA vs l ∧ Lim l ∧ K (.bool true) [.ro vs t]
  | _, _ => False
def sPlN : Spec := fun args h K => match args, h with
  | [.int .i64 _, .int .i64 _, .slice none 0 0], [] => K (.bool true) []
  | _, _ => False
theorem tR_ok {g : Spec} (h : SpecOk Tryd.prog G0 35 g) : AllOk Tryd.prog G0 (tR g) :=
  ⟨okAwake, h, weaken okNew (iNew _), weaken okRNew (iNew _), okDo, okAlike, trivial⟩
theorem tR1_ok : AllOk Tryd.prog G0 (tR sGreat) := tR_ok okGreat
theorem tR2_ok : AllOk Tryd.prog G0 (tR sGreatN) := tR_ok okGreatN
theorem okPlays : SpecOk Tryd.prog G0 8 sPl :=
  spec2 mixed tR1_ok Tryd.func8 (by kernel_rfl : Tryd.f8.body = some (codeOf Tryd.f8)) cPl rfl rfl rfl (by kernel_rfl) (ids := [11]) (by kernel_rfl) ⟨loopPl, trivial⟩ (by
    intro args h K hk
    unfold sPl at hk
    split at hk
    · rename_i n s l c vs t
      obtain ⟨ha, hl, hk⟩ := hk
      show bPl n s vs t l c K
      rw [bPl_eq]
      refine ⟨ha, hl, hk, ?_, ?_⟩
      · intro hb x1 h1 x2 h2
        refine ⟨fun _ x3 h3 x4 h4 => ?_, fun hf => by rw [hb] at hf; cases hf⟩
        have f := fit_new hb
        rw [dnT (h2.trans h4.symm), dnT (by rw [h2]; rfl), dnT h2]
        exact ⟨h3.trans h1.symm, ha, hl, rfl, by rw [h1]; exact f.ok, by rw [h1]; exact f.cnt, hk⟩
      · intro hb x6 h6
        refine ⟨fun hf => (by rw [hb] at hf; cases hf), fun _ x9 h9 => ?_⟩
        rw [dnT (h6.trans h9.symm), dnT (by rw [h6]; rfl), dnF (by rw [h6]; decide)]
        exact hk
    · exact hk.elim)
theorem okPlaysN : SpecOk Tryd.prog G0 8 sPlN :=
  spec2 mixed tR2_ok Tryd.func8 (by kernel_rfl : Tryd.f8.body = some (codeOf Tryd.f8)) cPlN rfl rfl rfl (by kernel_rfl) (ids := [11]) (by kernel_rfl) ⟨trivial, trivial⟩ (by
    intro args h K hk
    unfold sPlN at hk
    split at hk
    · rename_i n s
      show bPlN n s K
      rw [bPlN_eq]
      refine ⟨hk, ?_, ?_⟩
      · intro hb x1 h1 x2 h2
        refine ⟨fun _ x3 h3 x4 h4 => ?_, fun hf => by rw [hb] at hf; cases hf⟩
        rw [dnT (h2.trans h4.symm), dnT (by rw [h2]; rfl), dnT h2]
        rintro x5 rfl
        rw [dF (by omega)]
        exact hk
      · intro hb x6 h6
        refine ⟨fun hf => (by rw [hb] at hf; cases hf), fun _ x9 h9 => ?_⟩
        rw [dnT (h6.trans h9.symm), dnT (by rw [h6]; rfl), dnF (by rw [h6]; decide)]
        exact hk
    · exact hk.elim)

theorem lim_of {l c : Nat} (h : l ≤ c) (h2 : c ≤ maxLen) : Lim l := by
  unfold maxLen at h2
  show l ≤ 9223372036854775807
  omega
/-- Acts as an argument. -/
def RowsA (V : Nat → Value) (len : Nat) : Prop := ∀ i, i < len → ∃ (a b c d : Int) (s : ByteArray), V (i * 5) = .int .u8 a ∧ V (i * 5 + 1) = .int .i64 b ∧ V (i * 5 + 2) = .int .i64 c ∧ V (i * 5 + 3) = .int .u32 d ∧ 0 ≤ d ∧ d < 2 ^ 32 ∧ V (i * 5 + 4) = .string s
theorem RowsA.ok {V : Nat → Value} {len : Nat} (h : RowsA V len) : OkA ((List.range (len * 5)).map V) len := by
  have get : ∀ j, j < len * 5 → ((List.range (len * 5)).map V).getD j undef = V j := by
    intro j hj
    rw [List.getD_eq_getElem?_getD, List.getElem?_map, List.getElem?_range hj]; rfl
  refine ⟨by rw [List.length_map, List.length_range], fun j hj => ?_, fun j hj => ?_, fun j hj => ?_, fun j hj => ?_, fun j hj => ?_⟩ <;> obtain ⟨a, b, c, d, s, h0, h1, h2, h3, d0, d1, h4⟩ := h j hj
  · rw [get _ (by omega), h0]; rfl
  · rw [get _ (by omega), h1]; rfl
  · rw [get _ (by omega), h2]; rfl
  · rw [get _ (by omega), h3]; exact ⟨rfl, d0, d1⟩
  · rw [get _ (by omega), h4]; rfl
theorem RowsA.flat {V : Nat → Value} {len : Nat} (h : RowsA V len) (i : Nat) (hi : i < len * 5) : flat (V i) = true ∧ oneB (V i) = true := by
  obtain ⟨a, b, c, d, s, h0, h1, h2, h3, d0, d1, h4⟩ := h (i / 5) (by omega)
  rcases (by omega : i = i / 5 * 5 ∨ i = i / 5 * 5 + 1 ∨ i = i / 5 * 5 + 2 ∨ i = i / 5 * 5 + 3 ∨ i = i / 5 * 5 + 4) with e | e | e | e | e <;> rw [e]
  · rw [h0]; exact ⟨rfl, rfl⟩
  · rw [h1]; exact ⟨rfl, rfl⟩
  · rw [h2]; exact ⟨rfl, rfl⟩
  · rw [h3]; exact ⟨rfl, rfl⟩
  · rw [h4]; exact ⟨rfl, rfl⟩
end Go.Am.Mem
