/-
  Patches: PatchesVersions answers true. Own work.
-/
import Derived.Test.YtecocfcaeenaoaaDoorPatVa
namespace Go.Am.Pat
open Go Go.Am Go.Am.Ham Go.Am.Mem Go.Proofs
set_option maxRecDepth 100000

theorem OkT.at {vs : List Value} {l : Nat} (h : OkT vs l) {i : Int} {k : Nat} (hi : i = ((k : Nat) : Int)) (hk : k < l) {A B C : Prop} (ha : A) : cond (decide ((0 : Int) ≤ i) && decide (i < ((l : Nat) : Int))) (cond (decide ((Int.toNat i) + 1 ≤ List.length vs)) (cond (isStr (List.getD vs (Int.toNat i) undef)) A B) C) False := by
  have h1 := h.len
  have h2 := h.str k hk
  rw [dT2 (by omega) (by omega), dT (by omega), show Int.toNat i = k by omega, h2]
  exact ha
theorem loopV5 : ∀ e h k, TV5 e h k → ∃ m, loopN cVr (codeOf Tryd.f3) 0 5 m e h k := by
  intro e h k hT
  unfold TV5 at hT
  split at hT
  · rename_i l c z i vs t
    obtain ⟨ht, hl, hz, hi, hk⟩ := hT
    subst hz hi
    refine ⟨l + 1, ?_⟩
    have key : ∀ (r j : Nat) (x z : Int), x = ((j : Nat) : Int) → j + r = l → 4 ≤ z → (∀ q, q < j → (((strAt vs q).size : Nat) : Int) ≤ z) →
        loopN cVr (codeOf Tryd.f3) 0 5 (r + 1) [(0, .slice (some ⟨0, 0, some 0⟩) l c), (3, .int .i64 z), (4, .int .i64 x)] [.ro vs t] k := by
      intro r
      induction r with
      | zero =>
        intro j x z hx hj hz hq
        rw [loopN_succ]
        show lV5 vs t l c z x _
        rw [lV5_eq]
        intro x1 h1
        rw [dF (by omega)]
        exact hk z hz fun q hq' => hq q (by omega)
      | succ r ih =>
        intro j x z hx hj hz hq
        rw [loopN_succ]
        show lV5 vs t l c z x _
        rw [lV5_eq]
        intro x1 h1
        rw [dT (by omega)]
        refine ht.at hx (by omega) fun x2 h2 x3 h3 x4 h4 => ?_
        rw [iAdd_i64 (by omega) (by omega)] at h4
        have e2 : x2 = (((strAt vs j).size : Nat) : Int) := by rw [h2, hx]; rfl
        refine ih (j + 1) x4 x3 (by omega) (by omega) (by rw [h3]; split <;> omega) fun q hq' => ?_
        by_cases e : q = j
        · subst e; rw [h3, ← e2]; split <;> omega
        · have := hq q (by omega)
          rw [h3]; split <;> omega
    exact key l 0 0 4 rfl (by omega) (by omega) (fun q hq => by omega)
  · exact hT.elim
theorem vr_next {s : Sto} {m : Mem} {vs : List Value} {i : Nat} (hi : i ≤ 20) (h : Vr s m vs i) (hd : (((strAt vs i).size : Nat) : Int) ≤ s.size) :
    OkS s ∧ OkM m ∧ Fits s m ∧ fullB s m = false ∧ ldOk s m (strAt vs i) = true ∧ ∀ m2, m2 = ld6 s m ((i : Nat) : Int) (strAt vs i) → OkM m2 ∧ Fits s m2 ∧ isB s m2 ((i : Nat) : Int) (strAt vs i) ((i + 1 : Nat) : Int) = true ∧ ∀ m3, m3 = acM s m2 → Vr s m3 vs (i + 1) := by
  obtain ⟨n, V, E, I, S, hE, hf, h0, h1⟩ := h
  obtain ⟨_, hact⟩ := act_get S
  have gen : nxtG s m I = i + 1 ∧ ∀ q, I (1 - otherN s m) = some q → q.g < i + 1 := by
    by_cases e : i = 0
    · subst e
      obtain ⟨i0, i1⟩ := h0 rfl
      rcases hact with ⟨a, b, _⟩ | ⟨c, p, hc, a, b, hp, _⟩
      · exact ⟨by unfold nxtG; rw [a], fun q hq => by rw [b] at hq; rw [show (1 : Int) - 0 = 1 from rfl, i1] at hq; cases hq⟩
      · rcases hc with rfl | rfl
        · rw [i0] at hp; cases hp
        · rw [i1] at hp; cases hp
    · obtain ⟨c, hc, hp, ho⟩ := h1 (by omega)
      obtain ⟨ha, _⟩ := act_is S hc hp (hE.val S hc hp) ho
      refine ⟨by unfold nxtG; rw [ha]; show (match I c with | none => 1 | some p => p.g + 1) = _; rw [hp], fun q hq => ?_⟩
      rw [(other_some ha).1, show (1 : Int) - (1 - c) = c by omega, hp] at hq
      cases hq
      show i < i + 1; omega
  obtain ⟨k1, k2, V', E', S', st, _, zz, r⟩ := ld_good S (id := i) (d := strAt vs i) (c := 0) (by omega) hd (Or.inl hf) (by rw [gen.1]; omega)
  rw [gen.1] at S'
  have hb : otherN s m = 0 ∨ otherN s m = 1 := by have := other_01 s m; omega
  refine ⟨S.o, S.v.ok, S.fits, k1, k2, fun m2 h2 => ?_⟩
  rw [← h2] at S' st
  have hE' : Cl n E' := ld_clean (s := s) hE zz (fun j hj => (r j hj).2)
  have hp' : putB I (otherN s m) (some ⟨i + 1, i, strAt vs i⟩) (otherN s m) = some ⟨i + 1, i, strAt vs i⟩ := putB_at _ _ _
  have ho' : ∀ q, putB I (otherN s m) (some ⟨i + 1, i, strAt vs i⟩) (1 - otherN s m) = some q → q.g < i + 1 := fun q hq => by
    rw [putB_ne _ _ (by omega)] at hq
    exact gen.2 q hq
  obtain ⟨_, hi2⟩ := act_is S' hb hp' (hE'.val S' hb hp') ho'
  refine ⟨S'.v.ok, S'.fits, hi2, fun m3 h3 => ?_⟩
  obtain ⟨E3, S3, l3, s3⟩ := S'.ac
  rw [← h3] at S3 s3
  have hf3 : m3.fuse < 0 := by rw [s3.fuse, st.fuse]; unfold fzN; rw [if_pos hf]; exact hf
  exact ⟨n, V', E3, _, S3, hE'.less l3, hf3, fun h => by omega, fun _ => ⟨_, hb, hp', ho'⟩⟩
theorem loopV15 : ∀ e h k, TV15 e h k → ∃ m, loopN cVr (codeOf Tryd.f3) 1 15 m e h k := by
  intro e h k hT
  unfold TV15 at hT
  split at hT
  · rename_i l c i vs t b z t0 v0 n safe scrub fuse bl fx lo st t1 v1 W t2 v2
    obtain ⟨ht, hl, hi, hz, hv, hk⟩ := hT
    subst hi
    refine ⟨l + 1, ?_⟩
    have key : ∀ (r j : Nat) (x : Int) (m : Mem), x = ((j : Nat) : Int) → j + r = l → Vr ⟨b, z⟩ m vs j →
        loopN cVr (codeOf Tryd.f3) 1 15 (r + 1) [(0, .slice (some ⟨0, 0, some 0⟩) l c), (7, .pointer (some ⟨1, 0, some 0⟩)), (9, .int .i64 x)] (vrH vs t ⟨b, z⟩ m t0 t1 t2 v0 v1 v2) k := by
      intro r
      induction r with
      | zero =>
        intro j x m hx hj hm
        rw [loopN_succ]
        show lV15 vs t ⟨b, z⟩ m t0 t1 t2 v0 v1 v2 l c x _
        rw [lV15_eq]
        intro x1 h1
        rw [dF (by omega)]
        exact hk m (by rw [show l = j by omega]; exact hm)
      | succ r ih =>
        intro j x m hx hj hm
        rw [loopN_succ]
        show lV15 vs t ⟨b, z⟩ m t0 t1 t2 v0 v1 v2 l c x _
        rw [lV15_eq]
        intro x1 h1
        rw [dT (by omega)]
        intro x2 h2
        obtain ⟨o, om, f, k1, k2, k3⟩ := vr_next (by omega) hm (hz j (by omega))
        have es : strOf (List.getD vs (Int.toNat x) undef) = strAt vs j := by rw [hx]; rfl
        rw [wrap_u32 (by omega) (by omega)] at h2
        refine ht.at hx (by omega) ⟨o, om, f, ⟨by omega, by omega⟩, by rw [es]; exact hz j (by omega), k1, by rw [es]; exact k2, fun x3 h3 x4 h4 => ?_⟩
        rw [es, h2, hx] at h3
        obtain ⟨om3, f3, hi3, hn⟩ := k3 x3 h3
        rw [wrap_u32 (by omega) (by omega)] at h4
        refine ht.at hx (by omega) fun x5 h5 x6 h6 => ⟨o, om3, f3, fun x7 h7 x8 h8 => ?_⟩
        rw [iAdd_i64 (by omega) (by omega)] at h5
        rw [wrap_u32 (by omega) (by omega)] at h6
        have e6 : x6 = ((j + 1 : Nat) : Int) := by omega
        rw [es, h4, hx, e6, hi3] at h8
        rw [h8, Bool.not_true, cond_false]
        intro x9 _ x10 _ x11 h11
        rw [dnT h11]
        intro x12 h12
        rw [iAdd_i64 (by omega) (by omega)] at h12
        exact ih (j + 1) x12 x7 (by omega) (by omega) (hn x7 h7)
    exact key l 0 0 ⟨W, n, safe, scrub, fuse, bl, fx, lo, st⟩ rfl (by omega) hv
  · exact hT.elim
/-- A store in a new memory of its own. -/
theorem own_sta {z : Int} (h1 : 4 ≤ z) (h2 : z ≤ 300) : Sta ⟨0, z⟩ (newM 160 160) 160 (fun _ => 0) (fun _ => 0) (fun _ => none) := by
  refine sta0 ⟨by show (0 : Int) ≤ 0; omega, by show (0 : Int) ≤ 16384; omega, h1, by show z ≤ 8192; omega⟩ ?_ (by omega) (by omega) (by omega) (by omega)
  unfold bankAt
  show (0 : Int) + 2 * (5 + (z + 3) / 4) ≤ ((160 : Nat) : Int)
  omega
theorem own_new {z : Int} (h1 : 4 ≤ z) (h2 : z ≤ 300) : newOk (newM 160 160) 0 z = true := by
  have := words_in h1 (by omega)
  unfold newOk
  rw [decide_eq_true h1, decide_eq_true (show z ≤ 8192 by omega), decide_eq_true (show (0 : Int) ≤ 0 by omega), decide_eq_true (show (0 : Int) ≤ (newM 160 160).safe - wordsN z by show (0 : Int) ≤ 160 - wordsN z; omega)]; rfl
def sVr : Spec := fun args h K => match args, h with
  | [.slice (some ⟨0, 0, some 0⟩) l _], [.ro vs t] => OkT vs l ∧ K (.bool true) [.ro vs t]
  | _, _ => False
theorem okVr : SpecOk Tryd.prog G0 3 sVr :=
  spec2 mixed tVr_ok Tryd.func3 (by kernel_rfl : Tryd.f3.body = some (codeOf Tryd.f3)) cVr rfl rfl rfl (by kernel_rfl) (ids := [5, 15]) (by kernel_rfl) ⟨loopV5, loopV15, trivial⟩ (by
    intro args h K hk
    unfold sVr at hk
    split at hk
    · rename_i l c vs t
      obtain ⟨ht, hk⟩ := hk
      show bVr vs t l c K
      rw [bVr_eq]
      intro x1 h1
      by_cases c1 : x1 > 20
      · rw [dT c1]; exact hk
      rw [dF c1]
      refine ⟨ht, by omega, rfl, rfl, fun z z4 hz => ?_⟩
      by_cases c2 : z > 300
      · rw [dT c2]; exact hk
      rw [dF c2]
      intro x4 h4 x5 h5
      subst h4 h5
      refine ⟨by decide, fun x6 h6 x7 h7 => ?_⟩
      have S := own_sta z4 (by omega)
      obtain rfl : x6 = newM 160 160 := h6
      refine ⟨S.v.ok, own_new z4 (by omega), fun x8 h8 o8 x9 h9 => ?_⟩
      subst h8
      rw [dnT h7, dnT h9]
      refine ⟨ht, by omega, rfl, hz, ⟨160, _, _, _, S, fun _ _ => rfl, by show (-1 : Int) < 0; omega, fun _ => ⟨rfl, rfl⟩, fun h => by omega⟩, fun x11 hv => ?_⟩
      obtain ⟨n, V, E, I, S', hE, hf, i0, i1⟩ := hv
      refine ⟨o8, S'.v.ok, S'.fits, fun x12 _ => ⟨fun hn x13 _ x14 _ x15 _ x16 h16 x17 h17 => ?_, fun x18 hn x19 _ x20 _ x21 _ x22 h22 x23 h23 => ?_⟩⟩
      · have hl : l = 0 := by
          rcases Nat.eq_zero_or_pos l with h | h
          · exact h
          · obtain ⟨c, hc, hp, ho⟩ := i1 h
            rw [(act_is S' hc hp (hE.val S' hc hp) ho).1] at hn
            cases hn
        rw [decide_eq_false (show ¬ x16 = 0 by omega), decide_eq_false (show ¬ x17 > 0 by omega)]
        exact hk
      · have hl : 0 < l := by
          rcases Nat.eq_zero_or_pos l with h | h
          · obtain ⟨j0, j1⟩ := i0 h
            obtain ⟨_, hact⟩ := act_get S'
            rcases hact with ⟨a, _⟩ | ⟨c, p, hc, _, _, hp, _⟩
            · rw [a] at hn; cases hn
            · rcases hc with rfl | rfl
              · rw [j0] at hp; cases hp
              · rw [j1] at hp; cases hp
          · exact h
        rw [decide_eq_true (show x22 = 0 by omega), decide_eq_true (show x23 > 0 by omega)]
        exact hk
    · exact hk.elim)
theorem okT_of (S : Nat → ByteArray) (l : Nat) : OkT ((List.range l).map fun i => .string (S i)) l := by
  refine ⟨by rw [List.length_map, List.length_range], fun j hj => ?_⟩
  have e : ((List.range l).map fun i => Value.string (S i)).getD j undef = .string (S j) := by
    rw [List.getD_eq_getElem?_getD, List.getElem?_map, List.getElem?_range hj]; rfl
  unfold strAt; rw [e]; rfl
def sVrN : Spec := fun args h K => match args, h with
  | [.slice none 0 0], [] => K (.bool true) []
  | _, _ => False
theorem okVrN : SpecOk Tryd.prog G0 3 sVrN :=
  spec2 mixed tVr_ok Tryd.func3 (by kernel_rfl : Tryd.f3.body = some (codeOf Tryd.f3)) cVrN rfl rfl rfl (by kernel_rfl) rfl (eachNone (fun _ => rfl) _ 0) (by
    intro args h K hk
    unfold sVrN at hk
    split at hk
    · show bVrN K
      rw [bVrN_eq]
      intro x1 h1
      rw [dF (by omega)]
      intro x2 h2 x3 h3
      subst h2 h3
      refine ⟨by decide, fun x4 h4 x5 h5 => ?_⟩
      obtain rfl : x4 = newM 160 160 := h4
      have S := own_sta (z := 4) (by omega) (by omega)
      refine ⟨S.v.ok, own_new (by omega) (by omega), fun x6 h6 o6 x7 h7 => ?_⟩
      subst h6
      rw [dnT h5, dnT h7]
      obtain ⟨_, hact⟩ := act_get S
      refine ⟨o6, S.v.ok, S.fits, fun x8 _ => ⟨fun hn x9 _ x10 _ x11 _ x12 h12 => ?_, fun x13 hn => ?_⟩⟩
      · rw [decide_eq_false (show ¬ x12 = 0 by omega)]; exact hk
      · exfalso
        rcases hact with ⟨a, _⟩ | ⟨c, p, hc, _, _, hp, _⟩
        · rw [a] at hn; cases hn
        · cases hp
    · exact hk.elim)
end Go.Am.Pat
