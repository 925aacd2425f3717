/-
  The abstract machine, part 11: copy, clear, comparisons, numbers. Own work; plain lemmas.
-/
import Derived.Test.YtjbagcmcpmhfnaaDoorAm10
namespace Go.Am
open Go

/-- Cells of one block are written over. -/
theorem write_block {W0 : World} {φ : Phi} {h : AHeap} {w : World} (S : Sim W0 φ h w) {P : Program} {i : Nat} {fl : Bool} {vs : List Value} {t : TypeId} {mv : Bool} {p : PB} (ho : h[i]? = some (.cells fl vs t mv)) (hp : φ[i]? = some p)
    {off : Nat} {x x' : List Value} (hx : VRL φ x x') (h1 : ∀ u ∈ x', OneC u) (hle : off + x.length ≤ vs.length) (fl' : Bool) (hfl' : fl' = true → fl = true ∧ flatL x = true) :
    ∃ w', (storeCells ⟨p.b, p.sh + off, none⟩ x').run P w = .ok () w' ∧ Sim W0 φ (h.set i (.cells fl' (setCells vs off x) t mv)) w' ∧ Ext φ h w φ (h.set i (.cells fl' (setCells vs off x) t mv)) w' := by
  obtain ⟨hbase, hfl, cs, fr, h4, h5, h6, pre, us, rest, h7, h9, h10, h8⟩ := S.blk _ _ p ho hp
  have hlu := VRL_length h8
  have hlx := VRL_length hx
  have hsz : cs.size = pre.length + (us.length + rest.length) := by rw [← Array.length_toList, h7]; simp
  obtain ⟨w', cs', r1, r2, r3, r4, r5⟩ := run_storeCells (P := P) (p.sh + off) x' w cs 0 h4 (by omega) h6 h1
  have hlive : liveB h i = true := by simp [liveB, ho, AObj.liveB]
  refine ⟨w', r1, S.put hlive hp _ r2.os r2.tape r2.out r2.size r2.rest ?_, Ext.put hlive hp _ r2.size r2.rest (fun hm => by simpa [movedB, ho, AObj.movedB] using hm)⟩
  refine ⟨hbase, fun hf => ?_, cs', fr, r3, r4.trans h5, fun j hj => h6 j (by omega), pre, setCells us off x', rest, ?_, h9, OneC_setCells _ h1 h10, VRL_setCells _ hx h8⟩
  · obtain ⟨f1, f2⟩ := hfl' hf
    exact flatL_setCells _ f2 (hfl f1)
  · rw [r5, Nat.add_zero, h7, ← h9]
    exact setCells_shift _ _ _ _ _ (by omega)

theorem copy_sound {W0 : World} {φ : Phi} {h : AHeap} {w : World} (S : Sim W0 φ h w) {P : Program} {argTypes : Array TypeId} {ty : TypeId} {d d' x x' : Value} {k : Value → AHeap → Prop}
    (hk : copyK P argTypes d x h k) (hd : VR φ d d') (hx : VR φ x x') : ∃ v h' v' w', (Builtin.copy_ argTypes ty #[d', x']).run P w = .ok v' w' ∧ k v h' ∧ VR φ v v' ∧ Sim W0 φ h' w' ∧ Ext φ h w φ h' w' := by
  unfold copyK at hk
  split at hk
  rotate_left
  · exact hk.elim
  rename_i dt h0
  split at hk
  rotate_left
  · exact hk.elim
  rename_i el hu
  split at hk
  rotate_left
  · exact hk.elim
  rename_i inf hi
  have key : ∀ {new us : List Value} {flN : Bool} {n : Nat}, (flN = true → flatL new = true) → Src P φ w x' n inf.size new us → copyF inf.size d h k new flN n →
      ∃ v h' v' w', (Builtin.copy_ argTypes ty #[d', x']).run P w = .ok v' w' ∧ k v h' ∧ VR φ v v' ∧ Sim W0 φ h' w' ∧ Ext φ h w φ h' w' := by
    clear hk
    intro new us flN n hflN src hk
    unfold copyF at hk
    split at hk
    · rename_i a len cc
      split at hk
      · rename_i sp hsp
        obtain ⟨p, c', o', hp, rfl, g1, g2, g3⟩ := VR_slice_some hsp hd
        split at hk
        · rename_i fl vs t mv hob
          obtain ⟨hc, hk⟩ := cond_prop hk
          simp only [decide_eq_true_eq] at hc
          have hl := src.lenOf w rfl
          have hcells := src.cells w (min n len) rfl (Nat.min_le_left _ _)
          have hlus : us.length = n * inf.size := by rw [VRL_length src.rel, src.len]
          have hmul : min n len * inf.size ≤ n * inf.size := Nat.mul_le_mul_right _ (Nat.min_le_left _ _)
          have hmul2 : min n len * inf.size ≤ len * inf.size := Nat.mul_le_mul_right _ (Nat.min_le_right _ _)
          have hlnew := src.len
          have step : ∃ w', (storeCells ⟨p.b, o', none⟩ (us.take (min n len * inf.size))).run P w = .ok () w' ∧ Sim W0 φ (h.set a.block (.cells (fl && flN) (setCells vs a.off (new.take (min n len * inf.size))) t mv)) w' ∧
              Ext φ h w φ (h.set a.block (.cells (fl && flN) (setCells vs a.off (new.take (min n len * inf.size))) t mv)) w' := by
            have hb := write_block S (P := P) hob hp (off := a.off) (VRL_take (min n len * inf.size) src.rel) (fun u hu => src.one u (List.mem_of_mem_take hu)) (by rw [List.length_take]; omega) (fl && flN)
              (fun hf => by
                simp only [Bool.and_eq_true] at hf
                exact ⟨hf.1, flatL_mem.2 fun v hv => flatL_mem.1 (hflN hf.2) v (List.mem_of_mem_take hv)⟩)
            by_cases hz : c' = 0
            · have hm : min n len = 0 := by omega
              rw [hm, Nat.zero_mul, List.take_zero, List.take_zero] at hb ⊢
              obtain ⟨w', r1, r2, r3⟩ := hb
              have e : w' = w := by
                simp only [storeCells, run_pure] at r1
                exact (Result.ok.inj r1).2.symm
              subst e
              exact ⟨_, rfl, r2, r3⟩
            · rw [(g2 hz).1]; exact hb
          obtain ⟨w', r1, r2, r3⟩ := step
          refine ⟨_, _, .int .i64 (min n len : Nat), w', ?_, hk, (VR_flat φ _ _ rfl).2 rfl, r2, r3⟩
          have hmin : Nat.min n len = min n len := rfl
          simp [Builtin.copy_, h0, run_underlying hu, run_sizeOf hi, hl, hmin, hcells, r1, goInt]
        · exact hk.elim
      · exact hk.elim
    · exact hk.elim
  split at hk
  · rename_i b
    obtain ⟨hm0, hk⟩ := cond_prop hk
    have hm0 := Nat.eq_of_beq_eq_true hm0
    have e : x' = .string b := by simpa [VR] using hx
    subst e
    exact key (fun _ => bytesV_flat b) (by rw [hm0]; exact src_string P φ w b) hk
  · rename_i a n cc
    obtain ⟨l, fl, us, b, c', a1, a2, a3, a4⟩ := contents_sound (P := P) S hk hx
    exact key a2 a3 a1
  · exact hk.elim

theorem zeroCells_one (v : Value) (n : Nat) : (Builtin.zeroCells #[v] n).toList = List.replicate n v := by
  have := range_map_one v n
  simpa [Builtin.zeroCells] using this

theorem clear_sound {W0 : World} {φ : Phi} {h : AHeap} {w : World} (S : Sim W0 φ h w) {P : Program} {argTypes : Array TypeId} {ty : TypeId} {x x' : Value} {k : Value → AHeap → Prop}
    (hk : clearK P argTypes x h k) (hx : VR φ x x') : ∃ v h' v' w', (Builtin.clear_ argTypes ty #[x']).run P w = .ok v' w' ∧ k v h' ∧ VR φ v v' ∧ Sim W0 φ h' w' ∧ Ext φ h w φ h' w' := by
  unfold clearK at hk
  split at hk
  rotate_left
  · exact hk.elim
  rename_i dt h0
  split at hk
  rotate_left
  · exact hk.elim
  rename_i el hu
  split at hk
  rotate_left
  · exact hk.elim
  rename_i inf hi
  split at hk
  rotate_left
  · exact hk.elim
  rename_i z hz
  split at hk
  rotate_left
  · exact hk.elim
  rename_i v a n cc hzl
  split at hk
  · rename_i sp hsp
    obtain ⟨p, c', o', hp, rfl, g1, g2, g3⟩ := VR_slice_some hsp hx
    split at hk
    · rename_i fl vs t mv hob
      obtain ⟨hc, hk⟩ := cond_prop hk
      simp only [Bool.and_eq_true, decide_eq_true_eq] at hc
      obtain ⟨⟨⟨c1, c2⟩, c3⟩, c4⟩ := hc
      have ez : z.cells = #[v] := Array.toList_inj.1 (by simpa using hzl)
      have hone : ∀ u ∈ List.replicate n v, OneC u := fun u hu => by
        rw [(List.mem_replicate.1 hu).2]; exact VR_one (φ := []) c3 ((VR_flat _ _ _ c2).2 rfl)
      have hb := write_block S (P := P) hob hp (off := a.off) (VRL_flatL (flatL_replicate c2 n)) hone (by simpa using c1) fl (fun hf => ⟨hf, flatL_replicate c2 n⟩)
      by_cases hn : n = 0
      · subst hn
        obtain ⟨w', r1, r2, r3⟩ := hb
        have e : w' = w := by
          simp only [List.replicate_zero, storeCells, run_pure] at r1
          exact (Result.ok.inj r1).2.symm
        subst e
        exact ⟨_, _, .tuple #[], _, by simp [Builtin.clear_, h0, run_underlying hu], hk, (VR_flat φ _ _ rfl).2 rfl, r2, r3⟩
      · obtain ⟨e1, e2⟩ := g2 (by omega)
        obtain ⟨w', r1, r2, r3⟩ := hb
        rw [← e1] at r1
        refine ⟨_, _, .tuple #[], w', ?_, hk, (VR_flat φ _ _ rfl).2 rfl, r2, r3⟩
        simp [Builtin.clear_, h0, run_underlying hu, run_zeroValue hi hz, ez, zeroCells_one, r1]
    · exact hk.elim
  · exact hk.elim

/-! ### numbers and comparisons -/
theorem run_eqGuard {P : Program} {op : BinOp} {t : TypeId} {x y : Operand} {a b : Value} (w : World) (h : (op ≠ .eql ∧ op ≠ .neq) ∨ (a ≠ .nilIface ∧ ∀ c, a ≠ .agg c)) : (eqGuard op t x y a b).run P w = .ok () w := by
  unfold eqGuard
  rcases h with ⟨h1, h2⟩ | ⟨h1, h2⟩
  · cases op <;> first | rfl | exact absurd rfl h1 | exact absurd rfl h2
  · cases op <;> first | rfl | (cases a <;> first | rfl | exact absurd rfl h1 | exact absurd rfl (h2 _))

theorem run_eq_of {P : Program} {t : TypeId} {a b : Value} {r : Bool} {w : World} (h : (Op.equal t a b).run P w = .ok r w) (ha : ∀ k n, a ≠ .int k n) (hf : ∀ k n, a ≠ .float k n) (hc : ∀ k n m, a ≠ .complex k n m) (hs : ∀ s, a ≠ .string s) :
    (binOp .eql t a b).run P w = .ok (.bool r) w ∧ (binOp .neq t a b).run P w = .ok (.bool !r) w := by
  constructor <;> (unfold binOp; cases a <;> first
    | exact absurd rfl (ha _ _) | exact absurd rfl (hf _ _) | exact absurd rfl (hc _ _ _) | exact absurd rfl (hs _)
    | (simp only [run_bind, h, run_pure]))
end Go.Am
