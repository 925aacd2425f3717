/-
  Tmframe: the reference's Next. Own work.
-/
import Derived.Test.YtlgpalokjckdcaaTmfQX
import Derived.Test.YtlgpalokjckdcaaOwnBC
import Derived.BigQuiet
import Derived.Deep.RegionHeld3
namespace Go.Am.Tmf
open Go Go.Am Go.Am.Lib Go.Lib Go.Proofs Go.RowKit
open Go.Am.Own
set_option maxRecDepth 100000

theorem rnext_none {S : Nat → Prop} {b N : Nat} {y : RS} {w : World} (h : RAt S b y w) (hl : y.L.length ≤ N) (hn : N ≤ 2 ^ 20) (hw0 : y.wait = 0) :
    Calls Try.prog 50 #[.pointer (some ⟨b, 0, none⟩)] w fun e w' => e = .returned (.tuple #[.string ⟨#[]⟩, .int .i64 0, .bool false]) ∧ w = w' := by
  have hwc := rwaits h hl hn (by omega)
  rw [hw0] at hwc
  go_enter Try.func50, Try.ntmps50
  go_wp2_with (go_at_call 52; refine hwc.mono ?_; rintro e W1 ⟨rfl, rfl⟩)
  exact bodyPost_ret (v := .tuple #[.string ⟨#[]⟩, .int .i64 0, .bool false]) (by simp [results, Try.results50, go_sem]) rfl ⟨rfl, rfl⟩
theorem mem_len {p : L8} : ∀ {L : List L8}, p ∈ L → p.length ≤ lenS L
  | q :: L, h => by
    unfold lenS cat
    rw [List.flatten_cons, List.length_append]
    rcases List.mem_cons.1 h with rfl | h
    · omega
    · have := mem_len h
      unfold lenS cat at this; omega
def sLen : Value → Nat
  | .string s => s.size
  | _ => 0
theorem size9 (W : World) : (sizeOf 9).run Try.prog W = .ok 1 W := by
  obtain ⟨i0, hi, _, hz, _⟩ := infoS
  simp [sizeOf, typeInfo, hi, hz]
theorem row_tail {g n cap : Nat} (h0 : 1 ≤ n) (hc : n ≤ cap) : ∃ A : Addr, (∀ w : World, (Instr.slice 22 (.slice (some ⟨g, 0, none⟩) n cap) (some (.int .i64 1)) none none).run Try.prog w = .ok (.slice (some A) (n - 1) (cap - 1)) w) ∧ (n = 1 ∨ A = ⟨g, 1, none⟩) := by
  have he : Try.prog.elem 22 = 9 := by kernel_rfl
  by_cases hc1 : cap = 1
  · refine ⟨⟨g, 0, none⟩, fun w => ?_, .inl (by omega)⟩
    rw [run_slice_l w 22 _ _ _ (by rw [he]; exact Try.underlying22) .i64 _ (by omega) (by omega), he, size9]
    simp [Result.andThen, sliced, hc1]
  · refine ⟨⟨g, 1, none⟩, fun w => ?_, .inr rfl⟩
    rw [run_slice_l w 22 _ _ _ (by rw [he]; exact Try.underlying22) .i64 _ (by omega) (by omega), he, size9]
    simp [Result.andThen, sliced, hc1, Addr.add_lit]
def RNextPost (S : Nat → Prop) (b : Nat) (y : RS) (w : World) (e : Ending) (w' : World) : Prop :=
  e = .returned (.tuple #[.string (strB (y.data idleL)), .int .i64 ((y.first : Nat) : Int), .bool true]) ∧ RAt S b (y.next idleL) w' ∧ FrS S w w'
theorem rpost_full {S : Nat → Prop} {b sz n2 : Nat} {y : RS} {X : FL} {l : L8} {bg : Bool} {L : List L8} {w w' : World} (hz : y.size = sz) (hX : y.fl = X) (hX2 : X = ⟨l, n2, bg, L⟩) (hge : ¬ l.length < sz) (hr : RAt S b ⟨sz, L, bg, []⟩ w') (hf : FrS S w w') :
    RNextPost S b y w (.returned (.tuple #[.string (strB l), .int .i64 ((n2 : Nat) : Int), .bool true])) w' := by
  subst hX2
  refine ⟨?_, ?_, hf⟩
  · unfold RS.data RS.first
    rw [hX, hz]
    rw [if_neg hge, if_neg (fun h => hge h.1)]
  · unfold RS.next
    rw [hX, hz, if_neg hge]
    exact hr
theorem rpost_pad {S : Nat → Prop} {b sz n2 K M F : Nat} {y : RS} {X : FL} {l : L8} {bg : Bool} {w w' : World} (hz : y.size = sz) (hX : y.fl = X) (hX2 : X = ⟨l, n2, bg, []⟩) (hlt : l.length < sz) (hK : sz - l.length = K) (hM : max K 7 = M) (hF : F = if n2 = 2047 then l.length else n2)
    (hr : RAt S b ⟨sz, [], bg, (idleL M).drop K⟩ w') (hf : FrS S w w') : RNextPost S b y w (.returned (.tuple #[.string (strB (l ++ (idleL M).take K)), .int .i64 ((F : Nat) : Int), .bool true])) w' := by
  subst hX2
  refine ⟨?_, ?_, hf⟩
  · unfold RS.data RS.first
    rw [hX, hz]
    dsimp only
    rw [if_pos hlt, hK, hM, hF]
    by_cases h : n2 = 2047
    · rw [if_pos h, if_pos ⟨hlt, h⟩]
    · rw [if_neg h, if_neg (fun e => h e.2)]
  · unfold RS.next
    rw [hX, hz]
    dsimp only
    rw [if_pos hlt, hK, hM]
    exact hr
/-- The loop that fills a field. -/
structure RNI (S : Nat → Prop) (b : Nat) (sz N : Nat) (w : World) (X : FL) (l : L8) (fi : Nat) (bg : Bool) (L : List L8) (wr : World) : Prop where
  at_ : RAt S b ⟨sz, L, bg, []⟩ wr
  fr : FrS S w wr
  fill : fill sz l fi bg L = X
  le : l.length ≤ sz
  ne : ∀ p ∈ L, p ≠ []
  lL : L.length ≤ N
  big : ∀ p ∈ L, p.length ≤ 2 ^ 20
  hfi : fi ≤ 2047
set_option maxHeartbeats 3200000 in
theorem rnext_some {S : Nat → Prop} {b N sz : Nat} {L : List L8} {bg : Bool} {rest : L8} {w : World} (h : RAt S b ⟨sz, L, bg, rest⟩ w) (z0 : 32 ≤ sz) (z1 : sz ≤ 200) (hrest : rest.length ≤ 6) (hl : L.length ≤ N) (hn : N ≤ 2 ^ 20) (hq : lenS L ≤ 2 ^ 20) (hw0 : lenS L ≠ 0) (hne : ∀ p ∈ L, p ≠ []) :
    Calls Try.prog 50 #[.pointer (some ⟨b, 0, none⟩)] w (RNextPost S b ⟨sz, L, bg, rest⟩ w) := by
  obtain ⟨i0, hi, hz0, hz1, hz2⟩ := infoS
  have hwc := rwaits h hl hn (show lenS L ≤ 2 ^ 30 by omega)
  change Calls _ _ _ _ (fun e w' => e = .returned (.int .i64 ((lenS L : Nat) : Int)) ∧ w = w') at hwc
  obtain ⟨wt, hwt⟩ : ∃ n, lenS L = n := ⟨_, rfl⟩
  rw [hwt] at hwc hq hw0
  have hwt' : (((wt : Nat) : Int) == 0) = false := by simp; omega
  have hbig : ∀ p ∈ L, p.length ≤ 2 ^ 20 := by
    intro p hp
    have := mem_len hp
    omega
  obtain ⟨v, h⟩ := h
  have c3 := h.c3
  have f3 := h.fz 3
  have h1 := h.setR []
  have b1 : FrS S w (w.setCell ⟨b, 3, none⟩ (.string (strB []))) := ((OnlyB.refl b w).setCell 3 _).fr h.hb
  obtain ⟨X, hX⟩ : ∃ X, fill sz rest 2047 bg L = X := ⟨_, rfl⟩
  have hI : RNI S b sz N w X rest 2047 bg L (w.setCell ⟨b, 3, none⟩ (.string (strB []))) := ⟨⟨v, h1⟩, b1, hX, by omega, hne, hl, hbig, by omega⟩
  obtain ⟨W1, hW1⟩ : ∃ W1, w.setCell ⟨b, 3, none⟩ (.string (strB [])) = W1 := ⟨_, rfl⟩
  have hW1' : w.setCell ⟨b, 3, none⟩ (.string ⟨⟨[]⟩⟩) = W1 := hW1
  rw [hW1] at hI
  clear h1 b1 h hwt hbig
  go_enter Try.func50, Try.ntmps50
  go_wp2_with (go_at_call 52; refine hwc.mono ?_; rintro e W0 ⟨rfl, rfl⟩)
  have hst : W1 = w.setCell ⟨b, 3, none⟩ (.string ⟨⟨[]⟩⟩) := hW1'.symm
  go_loopw [5, 6] (fun f fi wr => ∃ (l : L8) (n2 : Nat) (bg : Bool) (L : List L8), f = .string (strB l) ∧ fi = .int .i64 (n2 : Nat) ∧ RNI S b sz N w X l n2 bg L wr) (fun f _ _ => sz - sLen f)
  case atStart => exact ⟨rest, 2047, bg, L, rfl, rfl, by first | exact hI | (rw [← hst]; exact hI)⟩
  case round =>
    obtain ⟨l, n2, bg', L', rfl, rfl, hR⟩ := hrel
    obtain ⟨⟨v', hC⟩, hF, hfill, hle, hne', hlL, hbig, hfi⟩ := hR
    obtain ⟨ao, cap, rfl⟩ := ownsRow_slice hC.r
    have HX := Lib.hid hX
    clear hst hW1 hW1' hI c3 f3 hwc hwt' hX hne hl hq
    have HN := Lib.hid hn
    clear hn
    rcases (by by_cases h1 : L' = [] <;> by_cases h2 : l.length < sz <;> simp [h1, h2] : L' = [] ∨ (L' ≠ [] ∧ l.length < sz) ∨ (L' ≠ [] ∧ ¬ l.length < sz)) with hcase | ⟨hL, hlt⟩ | ⟨hL, hge⟩
    · subst hcase
      have hX2 : X = ⟨l, n2, bg', []⟩ := by rw [← hfill, fill]
      have c0 := hC.c0
      unfold intV at c0
      have c1 := hC.c1
      have s0 : (strB l).size = l.length := rfl
      dsimp only at c0 c1
      by_cases h2 : l.length < sz
      · obtain ⟨K0, hK0⟩ : ∃ K, sz - l.length = K := ⟨_, rfl⟩
        have hsub : ((sz : Nat) : Int) - ((l.length : Nat) : Int) = ((K0 : Nat) : Int) := by omega
        have k2 : (0 : Int) < ((K0 : Nat) : Int) := by omega
        by_cases h7 : 7 ≤ K0
        · by_cases hn2 : n2 = 2047
          · subst hn2
            have k7 : (7 : Int) ≤ ((K0 : Nat) : Int) := by omega
            have hip := idleL_len (n := K0) (by omega) (by omega)
            obtain ⟨ip, hipq⟩ : ∃ ip, idleS ((K0 : Nat) : Int) = ip := ⟨_, rfl⟩
            have hsz : ip.size = K0 := by rw [← hipq, ← size_list]; exact hip
            have hil : idleL K0 = ip.data.toList := by unfold idleL; rw [hipq]
            have hrd := fun wx => ridle_calls (n := K0) (by omega) (by omega) wx
            rw [hipq] at hrd
            have HI := Lib.hid (And.intro hrd (And.intro hil hip))
            have hb0 : (0 : Int) ≤ ((K0 : Nat) : Int) := by omega
            have hb1 : ((K0 : Nat) : Int) ≤ ((K0 : Nat) : Int) := by omega
            clear hrd hil hip hipq
            go_wp2_with (go_at_call 86; refine (HI.out.1 _).mono ?_; rintro e W2 ⟨rfl, b2⟩; have h5 := hC.below b2; have c5 := h5.c0; unfold intV at c5; have c6 := h5.c3; have f6 := h5.fz 3)
            obtain ⟨_, hil, hip⟩ := HI.out
            have es : strB l ++ ip.extract 0 K0 = strB (l ++ (idleL K0).take K0) := by
              rw [hil]
              apply ByteArray.ext
              apply Array.toList_inj.1
              simp [strB, List.extract_eq_take_drop]
            have er : ByteArray.empty = strB ((idleL K0).drop K0) := by
              rw [List.drop_of_length_le (by rw [hip]; exact Nat.le_refl _)]
              rfl
            rw [es, er]
            have b3 : FrS S w (W2.setCell ⟨b, 3, none⟩ (.string (strB ((idleL K0).drop K0)))) := (hF.trans (fr_of b2 hC.hS)).trans (((OnlyB.refl b W2).setCell 3 _).fr hC.hb)
            exact bodyPost_ret (v := .tuple #[.string (strB (l ++ (idleL K0).take K0)), .int .i64 ((l.length : Nat) : Int), .bool true]) (by simp [results, Try.results50, go_sem]) rfl (rpost_pad rfl HX.out hX2 h2 hK0 (Nat.max_eq_left h7) ((if_pos rfl).symm) ⟨_, h5.setR _⟩ b3)
          · have hn2' : (((n2 : Nat) : Int) == 2047) = false := by simp; omega
            have k7 : (7 : Int) ≤ ((K0 : Nat) : Int) := by omega
            have hip := idleL_len (n := K0) (by omega) (by omega)
            obtain ⟨ip, hipq⟩ : ∃ ip, idleS ((K0 : Nat) : Int) = ip := ⟨_, rfl⟩
            have hsz : ip.size = K0 := by rw [← hipq, ← size_list]; exact hip
            have hil : idleL K0 = ip.data.toList := by unfold idleL; rw [hipq]
            have hrd := fun wx => ridle_calls (n := K0) (by omega) (by omega) wx
            rw [hipq] at hrd
            have HI := Lib.hid (And.intro hrd (And.intro hil hip))
            have hb0 : (0 : Int) ≤ ((K0 : Nat) : Int) := by omega
            have hb1 : ((K0 : Nat) : Int) ≤ ((K0 : Nat) : Int) := by omega
            clear hrd hil hip hipq
            go_wp2_with (go_at_call 86; refine (HI.out.1 _).mono ?_; rintro e W2 ⟨rfl, b2⟩; have h5 := hC.below b2; have c5 := h5.c0; unfold intV at c5; have c6 := h5.c3; have f6 := h5.fz 3)
            obtain ⟨_, hil, hip⟩ := HI.out
            have es : strB l ++ ip.extract 0 K0 = strB (l ++ (idleL K0).take K0) := by
              rw [hil]
              apply ByteArray.ext
              apply Array.toList_inj.1
              simp [strB, List.extract_eq_take_drop]
            have er : ByteArray.empty = strB ((idleL K0).drop K0) := by
              rw [List.drop_of_length_le (by rw [hip]; exact Nat.le_refl _)]
              rfl
            rw [es, er]
            have b3 : FrS S w (W2.setCell ⟨b, 3, none⟩ (.string (strB ((idleL K0).drop K0)))) := (hF.trans (fr_of b2 hC.hS)).trans (((OnlyB.refl b W2).setCell 3 _).fr hC.hb)
            exact bodyPost_ret (v := .tuple #[.string (strB (l ++ (idleL K0).take K0)), .int .i64 ((n2 : Nat) : Int), .bool true]) (by simp [results, Try.results50, go_sem]) rfl (rpost_pad rfl HX.out hX2 h2 hK0 (Nat.max_eq_left h7) ((if_neg hn2).symm) ⟨_, h5.setR _⟩ b3)
        · by_cases hn2 : n2 = 2047
          · subst hn2
            have k7 : ¬ (7 : Int) ≤ ((K0 : Nat) : Int) := by omega
            have k7b : ((K0 : Nat) : Int) < 7 := by omega
            have hip := idleL_len (n := 7) (by omega) (by omega)
            obtain ⟨ip, hipq⟩ : ∃ ip, idleS ((7 : Nat) : Int) = ip := ⟨_, rfl⟩
            have hsz : ip.size = 7 := by rw [← hipq, ← size_list]; exact hip
            have hil : idleL 7 = ip.data.toList := by unfold idleL; rw [hipq]
            have hrd := fun wx => ridle_calls (n := 7) (by omega) (by omega) wx
            rw [hipq] at hrd
            have HI := Lib.hid (And.intro hrd (And.intro hil hip))
            have hb0 : (0 : Int) ≤ ((K0 : Nat) : Int) := by omega
            have hb1 : ((K0 : Nat) : Int) ≤ ((7 : Nat) : Int) := by omega
            clear hrd hil hip hipq
            go_wp2_with (go_at_call 86; refine (HI.out.1 _).mono ?_; rintro e W2 ⟨rfl, b2⟩; have h5 := hC.below b2; have c5 := h5.c0; unfold intV at c5; have c6 := h5.c3; have f6 := h5.fz 3)
            obtain ⟨_, hil, hip⟩ := HI.out
            have es : strB l ++ ip.extract 0 K0 = strB (l ++ (idleL 7).take K0) := by
              rw [hil]
              apply ByteArray.ext
              apply Array.toList_inj.1
              simp [strB, List.extract_eq_take_drop]
            have er : ip.extract K0 7 = strB ((idleL 7).drop K0) := by
              rw [hil]
              apply ByteArray.ext
              apply Array.toList_inj.1
              have hl7 : ip.data.toList.length = 7 := by rw [size_list]; exact hsz
              simp [strB, List.extract_eq_take_drop]
              try exact List.take_of_length_le (by rw [List.length_drop]; omega)
            rw [es, er]
            have b3 : FrS S w (W2.setCell ⟨b, 3, none⟩ (.string (strB ((idleL 7).drop K0)))) := (hF.trans (fr_of b2 hC.hS)).trans (((OnlyB.refl b W2).setCell 3 _).fr hC.hb)
            exact bodyPost_ret (v := .tuple #[.string (strB (l ++ (idleL 7).take K0)), .int .i64 ((l.length : Nat) : Int), .bool true]) (by simp [results, Try.results50, go_sem]) rfl (rpost_pad rfl HX.out hX2 h2 hK0 (Nat.max_eq_right (by omega)) ((if_pos rfl).symm) ⟨_, h5.setR _⟩ b3)
          · have hn2' : (((n2 : Nat) : Int) == 2047) = false := by simp; omega
            have k7 : ¬ (7 : Int) ≤ ((K0 : Nat) : Int) := by omega
            have k7b : ((K0 : Nat) : Int) < 7 := by omega
            have hip := idleL_len (n := 7) (by omega) (by omega)
            obtain ⟨ip, hipq⟩ : ∃ ip, idleS ((7 : Nat) : Int) = ip := ⟨_, rfl⟩
            have hsz : ip.size = 7 := by rw [← hipq, ← size_list]; exact hip
            have hil : idleL 7 = ip.data.toList := by unfold idleL; rw [hipq]
            have hrd := fun wx => ridle_calls (n := 7) (by omega) (by omega) wx
            rw [hipq] at hrd
            have HI := Lib.hid (And.intro hrd (And.intro hil hip))
            have hb0 : (0 : Int) ≤ ((K0 : Nat) : Int) := by omega
            have hb1 : ((K0 : Nat) : Int) ≤ ((7 : Nat) : Int) := by omega
            clear hrd hil hip hipq
            go_wp2_with (go_at_call 86; refine (HI.out.1 _).mono ?_; rintro e W2 ⟨rfl, b2⟩; have h5 := hC.below b2; have c5 := h5.c0; unfold intV at c5; have c6 := h5.c3; have f6 := h5.fz 3)
            obtain ⟨_, hil, hip⟩ := HI.out
            have es : strB l ++ ip.extract 0 K0 = strB (l ++ (idleL 7).take K0) := by
              rw [hil]
              apply ByteArray.ext
              apply Array.toList_inj.1
              simp [strB, List.extract_eq_take_drop]
            have er : ip.extract K0 7 = strB ((idleL 7).drop K0) := by
              rw [hil]
              apply ByteArray.ext
              apply Array.toList_inj.1
              have hl7 : ip.data.toList.length = 7 := by rw [size_list]; exact hsz
              simp [strB, List.extract_eq_take_drop]
              try exact List.take_of_length_le (by rw [List.length_drop]; omega)
            rw [es, er]
            have b3 : FrS S w (W2.setCell ⟨b, 3, none⟩ (.string (strB ((idleL 7).drop K0)))) := (hF.trans (fr_of b2 hC.hS)).trans (((OnlyB.refl b W2).setCell 3 _).fr hC.hb)
            exact bodyPost_ret (v := .tuple #[.string (strB (l ++ (idleL 7).take K0)), .int .i64 ((n2 : Nat) : Int), .bool true]) (by simp [results, Try.results50, go_sem]) rfl (rpost_pad rfl HX.out hX2 h2 hK0 (Nat.max_eq_right (by omega)) ((if_neg hn2).symm) ⟨_, h5.setR _⟩ b3)
      · have hls : l.length = sz := by omega
        rw [hls] at s0
        go_wp2
        exact bodyPost_ret (v := .tuple #[.string (strB l), .int .i64 ((n2 : Nat) : Int), .bool true]) (by simp [results, Try.results50, go_sem]) rfl (rpost_full rfl HX.out hX2 h2 ⟨_, hC⟩ hF)
    · obtain ⟨p, r, rfl⟩ : ∃ p r, L' = p :: r := by
        cases L' with
        | nil => exact absurd rfl hL
        | cons p r => exact ⟨p, r, rfl⟩
      have hp0 : 0 < p.length := List.length_pos_iff.2 (hne' p List.mem_cons_self)
      have hpb := hbig p List.mem_cons_self
      obtain ⟨hcap, g, rfl⟩ := ownsRow_base hC.r (by show 0 < r.length + 1; omega)
      have c0 := hC.c0
      unfold intV at c0
      have c1 := hC.c1
      have c2 := hC.c2
      have cs := hC.str (g := g) (cap := cap) rfl (i := 0) (l := p) rfl
      have f1 := hC.fz 1
      have f2 := hC.fz 2
      have s0 : (strB l).size = l.length := rfl
      have s1 : (strB p).size = p.length := rfl
      dsimp only at c0 c1 c2
      obtain ⟨nL, hnL⟩ : ∃ n, (p :: r).length = n := ⟨_, rfl⟩
      have hnL1 : r.length + 1 = nL := hnL
      rw [hnL] at c1 hcap hlL
      have k1 : (0 : Int) < ((nL : Nat) : Int) := by omega
      have k2 : ((l.length : Nat) : Int) < ((sz : Nat) : Int) := by omega
      cases bg' with
      | true =>
        go_wp2
        by_cases hm : p.length ≤ sz - l.length
        · have hm1 : ((p.length : Nat) : Int) ≤ ((sz : Nat) : Int) - ((l.length : Nat) : Int) := by omega
          go_quiet (fail)
          obtain ⟨Wd, hWd⟩ : ∃ W, wr.drewN nq = W := ⟨_, rfl⟩
          have hD : RC S b (.slice (some ⟨g, 0, none⟩) (p :: r).length cap) ⟨sz, p :: r, true, []⟩ Wd := by rw [← hWd]; exact ⟨hC.hS, hC.hb, hC.cell, hC.r, hC.s⟩
          have bD : FrS S w Wd := by rw [← hWd]; exact ⟨hF.os, hF.tape, hF.output, hF.size, hF.block⟩
          rw [hWd]
          clear hC hF hWd c0 c1 c2 cs f1 f2
          have c0 := hD.c0
          unfold intV at c0
          have c1 := hD.c1
          have c2 := hD.c2
          have cs := hD.str (g := g) (cap := cap) rfl (i := 0) (l := p) rfl
          try dsimp only at c0 c1 c2
          rw [hnL] at c1
          have h5 := hD.below ((Below.refl _ Wd).alloc (Nat.le_refl _) (.cells #[] 9))
          have b5 : FrS S w (Wd.alloc (.cells #[] 9)) := bD.alloc hD.hS _
          have hown : (Wd.alloc (.cells #[] 9)).ownsRow 0 9 1 (.slice (some ⟨Wd.heap.size, 0, none⟩) 0 0) 0 [] := ⟨rfl, .inr ⟨Wd.heap.size, 0, #[], rfl, Nat.zero_le _, heap_alloc_new Wd _, Nat.le_refl _, by unfold maxLen; omega, rfl, rfl⟩⟩
          have hone : ∀ u ∈ cellS r, u.oneCell' = true := fun u hu => by
            obtain ⟨l, _, rfl⟩ := List.mem_map.1 hu; rfl
          have d1 := h5.c1
          try dsimp only at d1
          rw [hnL] at d1
          have hbH : b ≠ Wd.heap.size := by have := hD.lt; omega
          have hlt1 := hD.lt
          obtain ⟨A1, sl1, hA1⟩ := row_tail (g := g) (n := nL) (cap := cap) (by omega) hcap
          have k3 : (1 : Int) ≤ ((nL : Nat) : Int) := by omega
          have k4 : ¬ ((p.length : Nat) : Int) < ((p.length : Nat) : Int) := by omega
          go_wp2_with (at_builtin; refine wpList_append_src rfl _ _ 22 rfl 0 9 i0 (.string ⟨#[]⟩) 16 Try.underlying22 hi hz0 hz1 hz2 rfl _ 0 [] rfl hown A1 (nL - 1) (cap - 1) (cellS r) rfl ?_ ?_ hone ?_ ?_ (Nat.zero_le _) ?_)
          · rw [cellS_len]; omega
          · intro j u hu
            unfold cellS at hu
            rw [List.getElem?_map] at hu
            obtain ⟨q, hq, rfl⟩ := Option.map_eq_some_iff.1 hu
            rcases hA1 with e | rfl
            · have := (List.getElem?_eq_some_iff.1 hq).1; omega
            · have hs5 := h5.str (g := g) (cap := cap) rfl (i := j + 1) (l := q) hq
              rw [Addr.add_lit, Nat.add_comm 1 j]
              exact hs5
          · have := HN.out; unfold maxLen; omega
          · have := HN.out; omega
          intro v6 W6 hr6 hg6 hw6
          have hb6 : W6.heap[b]? = Wd.heap[b]? := (hg6.block b (by rw [alloc_size]; omega) (fun e => hbH (by injection e))).trans ((World.grownBy_alloc Wd (.cells #[] 9) none).block b hlt1 (by simp))
          have s6 : Wd.heap.size + 1 ≤ W6.heap.size := by have := hg6.size; rw [alloc_size] at this; exact this
          have hv6 : ∀ k, v6.ownBlock = some k → S k := fun k hk => by
            rcases hw6 with e1 | e1
            · rw [e1] at hk
              have hk : Wd.heap.size = k := by injection hk
              exact hD.hS k (by omega)
            · rw [e1] at hk
              have hk : Wd.heap.size + 1 = k := by injection hk
              exact hD.hS k (by omega)
          have b6 : FrS S w W6 := b5.grown hg6 (fun k hk => hD.hS k (by rw [alloc_size] at hk; omega)) (fun k e => by
            have e : Wd.heap.size = k := by injection e
            exact hD.hS k (by omega))
          have hr6' : W6.ownsRow 0 9 1 v6 r.length (cellS r) := by
            rw [show r.length = nL - 1 by omega]; exact hr6
          have d8 : W6.cell? ⟨b, 1, none⟩ = some (.slice (some ⟨g, 0, none⟩) nL cap) := by rw [← hnL]; exact cell_of (hb6.trans hD.cell)
          have f8 := fz_of (hb6.trans hD.cell) 1
          have h9 := hD.setL (w' := W6) hr6' (by omega) hb6 hv6
          have b9 : FrS S w ((W6.setCell ⟨b, 1, none⟩ v6).setCell ⟨b, 2, none⟩ (.bool false)) := b6.trans ((((OnlyB.refl b W6).setCell 1 v6).setCell 2 _).fr hD.hb)
          have h10 := h9.setB false
          have e2 := h9.c2
          have f9 := h9.fz 2
          obtain ⟨ao6, cap6, rfl⟩ := ownsRow_slice hr6'
          obtain ⟨nR, hnR⟩ : ∃ n, r.length = n := ⟨_, rfl⟩
          rw [hnR] at h9 h10 e2 f9 b9 hr6' ⊢
          clear hr6 hg6 hw6 hv6 b6 b5 h5 hown hb6 c0 c1 cs d1 sl1
          go_wp2
          have es : strB l ++ (strB p).extract 0 p.length = strB (l ++ p) := by
            apply ByteArray.ext
            apply Array.toList_inj.1
            simp [strB]
          refine ⟨⟨l ++ p, n2, false, r, by rw [es], rfl, ?_⟩, ?_⟩
          · exact { at_ := ⟨_, h10⟩, fr := b9, fill := by rw [← hfill, fill, if_pos hlt, if_pos hm, firF_t], le := by rw [List.length_append]; omega, ne := fun q hq => hne' q (List.mem_cons_of_mem _ hq), lL := by omega, big := fun q hq => hbig q (List.mem_cons_of_mem _ hq), hfi := hfi }
          · rw [es]
            show sz - (l ++ p).length < sz - l.length
            rw [List.length_append]; omega
        · obtain ⟨K0, hK0⟩ : ∃ K, sz - l.length = K := ⟨_, rfl⟩
          have hsub : ((sz : Nat) : Int) - ((l.length : Nat) : Int) = ((K0 : Nat) : Int) := by omega
          have hm1 : ((K0 : Nat) : Int) < ((p.length : Nat) : Int) := by omega
          go_quiet (fail)
          obtain ⟨Wd, hWd⟩ : ∃ W, wr.drewN nq = W := ⟨_, rfl⟩
          have hD : RC S b (.slice (some ⟨g, 0, none⟩) (p :: r).length cap) ⟨sz, p :: r, true, []⟩ Wd := by rw [← hWd]; exact ⟨hC.hS, hC.hb, hC.cell, hC.r, hC.s⟩
          have bD : FrS S w Wd := by rw [← hWd]; exact ⟨hF.os, hF.tape, hF.output, hF.size, hF.block⟩
          rw [hWd]
          clear hC hF hWd c0 c1 c2 cs f1 f2
          have c0 := hD.c0
          unfold intV at c0
          have c1 := hD.c1
          have c2 := hD.c2
          have cs := hD.str (g := g) (cap := cap) rfl (i := 0) (l := p) rfl
          try dsimp only at c0 c1 c2
          rw [hnL] at c1
          have f1 := hD.fz 1
          have f2 := hD.fz 2
          obtain ⟨A1, sl1, hA1⟩ := row_tail (g := g) (n := nL) (cap := cap) (by omega) hcap
          have k3 : (1 : Int) ≤ ((nL : Nat) : Int) := by omega
          go_wp2
          have hT : (strB p).extract K0 p.length = strB (p.drop K0) := by
            apply ByteArray.ext
            apply Array.toList_inj.1
            simp [strB, List.extract_eq_take_drop]
            exact List.take_of_length_le (by rw [List.length_drop]; omega)
          have HT := Lib.hid hT
          clear hT
          have h5 := (hD.below ((Below.refl _ Wd).alloc (Nat.le_refl _) (.cells #[.string ((strB p).extract K0 p.length)] 9))).drew
          have b5 : FrS S w (Wd.alloc (.cells #[.string ((strB p).extract K0 p.length)] 9)).drew := (bD.alloc hD.hS _).drew
          have hown : ((Wd.alloc (.cells #[.string ((strB p).extract K0 p.length)] 9)).drew).ownsRow 0 9 1 (.slice (some ⟨Wd.heap.size, 0, none⟩) 1 1) 1 [.string ((strB p).extract K0 p.length)] := ⟨rfl, .inr ⟨Wd.heap.size, 1, #[.string ((strB p).extract K0 p.length)], rfl, Nat.zero_le _, heap_alloc_new Wd _, Nat.le_refl _, by unfold maxLen; omega, rfl, rfl⟩⟩
          have hone : ∀ u ∈ cellS r, u.oneCell' = true := fun u hu => by
            obtain ⟨l, _, rfl⟩ := List.mem_map.1 hu; rfl
          have hbH : b ≠ Wd.heap.size := by have := hD.lt; omega
          have hlt1 := hD.lt
          have q1 : (cellS r).length = nL - 1 := by rw [cellS_len]; omega
          have q2 : ∀ (j : Nat) (u : Value), (cellS r)[j]? = some u → ((Wd.alloc (.cells #[.string ((strB p).extract K0 p.length)] 9)).drew).cell? (A1.add j) = some u := by
            intro j u hu
            unfold cellS at hu
            rw [List.getElem?_map] at hu
            obtain ⟨q, hq, rfl⟩ := Option.map_eq_some_iff.1 hu
            rcases hA1 with e | rfl
            · have := (List.getElem?_eq_some_iff.1 hq).1; omega
            · have hs5 := h5.str (g := g) (cap := cap) rfl (i := j + 1) (l := q) hq
              rw [Addr.add_lit, Nat.add_comm 1 j]
              exact hs5
          have q3 : 1 + (nL - 1) ≤ maxLen := by have := HN.out; unfold maxLen; omega
          have q4 : (1 + (nL - 1)) * 16 ≤ 140737488355328 := by have := HN.out; omega
          have hblk : ((Wd.alloc (.cells #[.string ((strB p).extract K0 p.length)] 9)).drew).heap[b]? = Wd.heap[b]? := (World.grownBy_alloc Wd (.cells #[.string ((strB p).extract K0 p.length)] 9) none).block b hlt1 (by simp)
          have hsz5 : ((Wd.alloc (.cells #[.string ((strB p).extract K0 p.length)] 9)).drew).heap.size = Wd.heap.size + 1 := alloc_size Wd _
          obtain ⟨W5, hW5⟩ : ∃ W, (Wd.alloc (.cells #[.string ((strB p).extract K0 p.length)] 9)).drew = W := ⟨_, rfl⟩
          have hb0 : (0 : Int) ≤ ((K0 : Nat) : Int) := by omega
          have hb1 : ((K0 : Nat) : Int) ≤ ((p.length : Nat) : Int) := by omega
          have hgl := (hD.r.lt g rfl).2
          have hblg : W5.heap[g]? = Wd.heap[g]? := by rw [← hW5]; exact (World.grownBy_alloc Wd (.cells #[.string ((strB p).extract K0 p.length)] 9) none).block g hgl (by simp)
          have HH := Lib.hid (And.intro hW5 (And.intro h5 (And.intro b5 (And.intro hown (And.intro q2 (And.intro hblk (And.intro hsz5 hblg)))))))
          have HQ := Lib.hid (And.intro q1 (And.intro q3 q4))
          clear h5 b5 hown q1 q2 q3 q4 hblk hsz5 hblg hW5
          go_region_law ((
                    (obtain ⟨hW5, h5, b5, hown, q2, hblk, hsz5, hblg⟩ := HH.out
                     obtain ⟨q1, q3, q4⟩ := HQ.out
                     refine step_append_src rfl _ _ 22 rfl 0 9 i0 (.string ⟨#[]⟩) 16 Try.underlying22 hi hz0 hz1 hz2 rfl _ 1 [.string ((strB p).extract K0 p.length)] rfl hown A1 (nL - 1) (cap - 1) (cellS r) rfl q1 q2 hone q3 q4 (Nat.zero_le _) ?_
                     rw [hW5] at h5 b5 hblk hsz5 ⊢
                     intro v6 W6 hr6 hg6 hw6
                     have hb6 : W6.heap[b]? = Wd.heap[b]? := (hg6.block b (by omega) (fun e => hbH (by injection e))).trans hblk
                     have s6 : Wd.heap.size + 1 ≤ W6.heap.size := by have := hg6.size; omega
                     have d8 : W6.cell? ⟨b, 1, none⟩ = some (.slice (some ⟨g, 0, none⟩) nL cap) := by rw [← hnL]; exact cell_of (hb6.trans hD.cell)
                     have f8 := fz_of (hb6.trans hD.cell) 1
                     have g6 : W6.cell? ⟨g, 0, none⟩ = some (.string (strB p)) := by
                       refine Eq.trans ?_ cs
                       exact World.cell?_of_block ((hg6.block g (by omega) (fun e => by
                         have e : g = Wd.heap.size := by injection e
                         omega)).trans hblg)
                     obtain ⟨ao6, cap6, rfl⟩ := ownsRow_slice hr6
                     clear hown q2)))
          all_goals (
            have hv6 : ∀ k, (Value.slice ao6 (1 + (nL - 1)) cap6).ownBlock = some k → S k := fun k hk => by
              rcases hw6 with e1 | e1
              · rw [e1] at hk
                have hk : Wd.heap.size = k := by injection hk
                exact hD.hS k (by omega)
              · rw [e1] at hk
                have hk : W5.heap.size = k := by injection hk
                exact hD.hS k (by omega)
            have b6 : FrS S w W6 := b5.grown hg6 (fun k hk => hD.hS k (by omega)) (fun k e => by
              have e : Wd.heap.size = k := by injection e
              exact hD.hS k (by omega))
            have hr6' : W6.ownsRow 0 9 1 (.slice ao6 (1 + (nL - 1)) cap6) (p.drop K0 :: r).length (cellS (p.drop K0 :: r)) := by
              have e : cellS (p.drop K0 :: r) = [.string ((strB p).extract K0 p.length)] ++ cellS r := by rw [HT.out]; rfl
              rw [e, show (p.drop K0 :: r).length = 1 + (nL - 1) by rw [List.length_cons]; omega]
              exact hr6
            have h9 := hD.setL (w' := W6) hr6' (by omega) hb6 hv6
            have b9 : FrS S w ((W6.setCell ⟨b, 1, none⟩ (.slice ao6 (1 + (nL - 1)) cap6)).setCell ⟨b, 2, none⟩ (.bool true)) := b6.trans ((((OnlyB.refl b W6).setCell 1 _).setCell 2 _).fr hD.hb)
            have h10 := h9.setB true
            have e2 := h9.c2
            have f9 := h9.fz 2
            clear hr6 hg6 hw6 hv6 b6 b5 h5 hb6 c0 c1 cs sl1 hr6' hblk hblg g6 d8 f8 HH HQ
            go_wp2
            have es : strB l ++ (strB p).extract 0 K0 = strB (l ++ p.take K0) := by
              apply ByteArray.ext
              apply Array.toList_inj.1
              simp [strB, List.extract_eq_take_drop]
            have hlen : (l ++ p.take K0).length = sz := by rw [List.length_append, List.length_take]; omega
            refine ⟨⟨l ++ p.take K0, n2, true, p.drop K0 :: r, by rw [es], rfl, ?_⟩, ?_⟩
            · exact { at_ := ⟨_, h10⟩, fr := b9, fill := by
                        rw [← hfill, fill, if_neg (by omega), fill, if_pos hlt, if_neg hm, firF_t, hK0]
                      le := by omega
                      ne := fun q hq => by
                        rcases List.mem_cons.1 hq with rfl | hq
                        · intro e
                          have := congrArg List.length e
                          rw [List.length_drop, List.length_nil] at this; omega
                        · exact hne' q (List.mem_cons_of_mem _ hq)
                      lL := by rw [List.length_cons]; omega
                      big := fun q hq => by
                        rcases List.mem_cons.1 hq with rfl | hq
                        · rw [List.length_drop]; omega
                        · exact hbig q (List.mem_cons_of_mem _ hq)
                      hfi := hfi }
            · rw [es]
              show sz - (l ++ p.take K0).length < sz - l.length
              omega)
      | false =>
        by_cases hn2 : n2 = 2047
        · subst hn2
          go_wp2
          by_cases hm : p.length ≤ sz - l.length
          · have hm1 : ((p.length : Nat) : Int) ≤ ((sz : Nat) : Int) - ((l.length : Nat) : Int) := by omega
            go_quiet (fail)
            obtain ⟨Wd, hWd⟩ : ∃ W, wr.drewN nq = W := ⟨_, rfl⟩
            have hD : RC S b (.slice (some ⟨g, 0, none⟩) (p :: r).length cap) ⟨sz, p :: r, false, []⟩ Wd := by rw [← hWd]; exact ⟨hC.hS, hC.hb, hC.cell, hC.r, hC.s⟩
            have bD : FrS S w Wd := by rw [← hWd]; exact ⟨hF.os, hF.tape, hF.output, hF.size, hF.block⟩
            rw [hWd]
            clear hC hF hWd c0 c1 c2 cs f1 f2
            have c0 := hD.c0
            unfold intV at c0
            have c1 := hD.c1
            have c2 := hD.c2
            have cs := hD.str (g := g) (cap := cap) rfl (i := 0) (l := p) rfl
            try dsimp only at c0 c1 c2
            rw [hnL] at c1
            have h5 := hD.below ((Below.refl _ Wd).alloc (Nat.le_refl _) (.cells #[] 9))
            have b5 : FrS S w (Wd.alloc (.cells #[] 9)) := bD.alloc hD.hS _
            have hown : (Wd.alloc (.cells #[] 9)).ownsRow 0 9 1 (.slice (some ⟨Wd.heap.size, 0, none⟩) 0 0) 0 [] := ⟨rfl, .inr ⟨Wd.heap.size, 0, #[], rfl, Nat.zero_le _, heap_alloc_new Wd _, Nat.le_refl _, by unfold maxLen; omega, rfl, rfl⟩⟩
            have hone : ∀ u ∈ cellS r, u.oneCell' = true := fun u hu => by
              obtain ⟨l, _, rfl⟩ := List.mem_map.1 hu; rfl
            have d1 := h5.c1
            try dsimp only at d1
            rw [hnL] at d1
            have hbH : b ≠ Wd.heap.size := by have := hD.lt; omega
            have hlt1 := hD.lt
            obtain ⟨A1, sl1, hA1⟩ := row_tail (g := g) (n := nL) (cap := cap) (by omega) hcap
            have k3 : (1 : Int) ≤ ((nL : Nat) : Int) := by omega
            have k4 : ¬ ((p.length : Nat) : Int) < ((p.length : Nat) : Int) := by omega
            go_wp2_with (at_builtin; refine wpList_append_src rfl _ _ 22 rfl 0 9 i0 (.string ⟨#[]⟩) 16 Try.underlying22 hi hz0 hz1 hz2 rfl _ 0 [] rfl hown A1 (nL - 1) (cap - 1) (cellS r) rfl ?_ ?_ hone ?_ ?_ (Nat.zero_le _) ?_)
            · rw [cellS_len]; omega
            · intro j u hu
              unfold cellS at hu
              rw [List.getElem?_map] at hu
              obtain ⟨q, hq, rfl⟩ := Option.map_eq_some_iff.1 hu
              rcases hA1 with e | rfl
              · have := (List.getElem?_eq_some_iff.1 hq).1; omega
              · have hs5 := h5.str (g := g) (cap := cap) rfl (i := j + 1) (l := q) hq
                rw [Addr.add_lit, Nat.add_comm 1 j]
                exact hs5
            · have := HN.out; unfold maxLen; omega
            · have := HN.out; omega
            intro v6 W6 hr6 hg6 hw6
            have hb6 : W6.heap[b]? = Wd.heap[b]? := (hg6.block b (by rw [alloc_size]; omega) (fun e => hbH (by injection e))).trans ((World.grownBy_alloc Wd (.cells #[] 9) none).block b hlt1 (by simp))
            have s6 : Wd.heap.size + 1 ≤ W6.heap.size := by have := hg6.size; rw [alloc_size] at this; exact this
            have hv6 : ∀ k, v6.ownBlock = some k → S k := fun k hk => by
              rcases hw6 with e1 | e1
              · rw [e1] at hk
                have hk : Wd.heap.size = k := by injection hk
                exact hD.hS k (by omega)
              · rw [e1] at hk
                have hk : Wd.heap.size + 1 = k := by injection hk
                exact hD.hS k (by omega)
            have b6 : FrS S w W6 := b5.grown hg6 (fun k hk => hD.hS k (by rw [alloc_size] at hk; omega)) (fun k e => by
              have e : Wd.heap.size = k := by injection e
              exact hD.hS k (by omega))
            have hr6' : W6.ownsRow 0 9 1 v6 r.length (cellS r) := by
              rw [show r.length = nL - 1 by omega]; exact hr6
            have d8 : W6.cell? ⟨b, 1, none⟩ = some (.slice (some ⟨g, 0, none⟩) nL cap) := by rw [← hnL]; exact cell_of (hb6.trans hD.cell)
            have f8 := fz_of (hb6.trans hD.cell) 1
            have h9 := hD.setL (w' := W6) hr6' (by omega) hb6 hv6
            have b9 : FrS S w ((W6.setCell ⟨b, 1, none⟩ v6).setCell ⟨b, 2, none⟩ (.bool false)) := b6.trans ((((OnlyB.refl b W6).setCell 1 v6).setCell 2 _).fr hD.hb)
            have h10 := h9.setB false
            have e2 := h9.c2
            have f9 := h9.fz 2
            obtain ⟨ao6, cap6, rfl⟩ := ownsRow_slice hr6'
            obtain ⟨nR, hnR⟩ : ∃ n, r.length = n := ⟨_, rfl⟩
            rw [hnR] at h9 h10 e2 f9 b9 hr6' ⊢
            clear hr6 hg6 hw6 hv6 b6 b5 h5 hown hb6 c0 c1 cs d1 sl1
            go_wp2
            have es : strB l ++ (strB p).extract 0 p.length = strB (l ++ p) := by
              apply ByteArray.ext
              apply Array.toList_inj.1
              simp [strB]
            refine ⟨⟨l ++ p, l.length, false, r, by rw [es], rfl, ?_⟩, ?_⟩
            · exact { at_ := ⟨_, h10⟩, fr := b9, fill := by rw [← hfill, fill, if_pos hlt, if_pos hm, firF_f _ rfl], le := by rw [List.length_append]; omega, ne := fun q hq => hne' q (List.mem_cons_of_mem _ hq), lL := by omega, big := fun q hq => hbig q (List.mem_cons_of_mem _ hq), hfi := by omega }
            · rw [es]
              show sz - (l ++ p).length < sz - l.length
              rw [List.length_append]; omega
          · obtain ⟨K0, hK0⟩ : ∃ K, sz - l.length = K := ⟨_, rfl⟩
            have hsub : ((sz : Nat) : Int) - ((l.length : Nat) : Int) = ((K0 : Nat) : Int) := by omega
            have hm1 : ((K0 : Nat) : Int) < ((p.length : Nat) : Int) := by omega
            go_quiet (fail)
            obtain ⟨Wd, hWd⟩ : ∃ W, wr.drewN nq = W := ⟨_, rfl⟩
            have hD : RC S b (.slice (some ⟨g, 0, none⟩) (p :: r).length cap) ⟨sz, p :: r, false, []⟩ Wd := by rw [← hWd]; exact ⟨hC.hS, hC.hb, hC.cell, hC.r, hC.s⟩
            have bD : FrS S w Wd := by rw [← hWd]; exact ⟨hF.os, hF.tape, hF.output, hF.size, hF.block⟩
            rw [hWd]
            clear hC hF hWd c0 c1 c2 cs f1 f2
            have c0 := hD.c0
            unfold intV at c0
            have c1 := hD.c1
            have c2 := hD.c2
            have cs := hD.str (g := g) (cap := cap) rfl (i := 0) (l := p) rfl
            try dsimp only at c0 c1 c2
            rw [hnL] at c1
            have f1 := hD.fz 1
            have f2 := hD.fz 2
            obtain ⟨A1, sl1, hA1⟩ := row_tail (g := g) (n := nL) (cap := cap) (by omega) hcap
            have k3 : (1 : Int) ≤ ((nL : Nat) : Int) := by omega
            go_wp2
            have hT : (strB p).extract K0 p.length = strB (p.drop K0) := by
              apply ByteArray.ext
              apply Array.toList_inj.1
              simp [strB, List.extract_eq_take_drop]
              exact List.take_of_length_le (by rw [List.length_drop]; omega)
            have HT := Lib.hid hT
            clear hT
            have h5 := (hD.below ((Below.refl _ Wd).alloc (Nat.le_refl _) (.cells #[.string ((strB p).extract K0 p.length)] 9))).drew
            have b5 : FrS S w (Wd.alloc (.cells #[.string ((strB p).extract K0 p.length)] 9)).drew := (bD.alloc hD.hS _).drew
            have hown : ((Wd.alloc (.cells #[.string ((strB p).extract K0 p.length)] 9)).drew).ownsRow 0 9 1 (.slice (some ⟨Wd.heap.size, 0, none⟩) 1 1) 1 [.string ((strB p).extract K0 p.length)] := ⟨rfl, .inr ⟨Wd.heap.size, 1, #[.string ((strB p).extract K0 p.length)], rfl, Nat.zero_le _, heap_alloc_new Wd _, Nat.le_refl _, by unfold maxLen; omega, rfl, rfl⟩⟩
            have hone : ∀ u ∈ cellS r, u.oneCell' = true := fun u hu => by
              obtain ⟨l, _, rfl⟩ := List.mem_map.1 hu; rfl
            have hbH : b ≠ Wd.heap.size := by have := hD.lt; omega
            have hlt1 := hD.lt
            have q1 : (cellS r).length = nL - 1 := by rw [cellS_len]; omega
            have q2 : ∀ (j : Nat) (u : Value), (cellS r)[j]? = some u → ((Wd.alloc (.cells #[.string ((strB p).extract K0 p.length)] 9)).drew).cell? (A1.add j) = some u := by
              intro j u hu
              unfold cellS at hu
              rw [List.getElem?_map] at hu
              obtain ⟨q, hq, rfl⟩ := Option.map_eq_some_iff.1 hu
              rcases hA1 with e | rfl
              · have := (List.getElem?_eq_some_iff.1 hq).1; omega
              · have hs5 := h5.str (g := g) (cap := cap) rfl (i := j + 1) (l := q) hq
                rw [Addr.add_lit, Nat.add_comm 1 j]
                exact hs5
            have q3 : 1 + (nL - 1) ≤ maxLen := by have := HN.out; unfold maxLen; omega
            have q4 : (1 + (nL - 1)) * 16 ≤ 140737488355328 := by have := HN.out; omega
            have hblk : ((Wd.alloc (.cells #[.string ((strB p).extract K0 p.length)] 9)).drew).heap[b]? = Wd.heap[b]? := (World.grownBy_alloc Wd (.cells #[.string ((strB p).extract K0 p.length)] 9) none).block b hlt1 (by simp)
            have hsz5 : ((Wd.alloc (.cells #[.string ((strB p).extract K0 p.length)] 9)).drew).heap.size = Wd.heap.size + 1 := alloc_size Wd _
            obtain ⟨W5, hW5⟩ : ∃ W, (Wd.alloc (.cells #[.string ((strB p).extract K0 p.length)] 9)).drew = W := ⟨_, rfl⟩
            have hb0 : (0 : Int) ≤ ((K0 : Nat) : Int) := by omega
            have hb1 : ((K0 : Nat) : Int) ≤ ((p.length : Nat) : Int) := by omega
            have hgl := (hD.r.lt g rfl).2
            have hblg : W5.heap[g]? = Wd.heap[g]? := by rw [← hW5]; exact (World.grownBy_alloc Wd (.cells #[.string ((strB p).extract K0 p.length)] 9) none).block g hgl (by simp)
            have HH := Lib.hid (And.intro hW5 (And.intro h5 (And.intro b5 (And.intro hown (And.intro q2 (And.intro hblk (And.intro hsz5 hblg)))))))
            have HQ := Lib.hid (And.intro q1 (And.intro q3 q4))
            clear h5 b5 hown q1 q2 q3 q4 hblk hsz5 hblg hW5
            go_region_law ((
                      (obtain ⟨hW5, h5, b5, hown, q2, hblk, hsz5, hblg⟩ := HH.out
                       obtain ⟨q1, q3, q4⟩ := HQ.out
                       refine step_append_src rfl _ _ 22 rfl 0 9 i0 (.string ⟨#[]⟩) 16 Try.underlying22 hi hz0 hz1 hz2 rfl _ 1 [.string ((strB p).extract K0 p.length)] rfl hown A1 (nL - 1) (cap - 1) (cellS r) rfl q1 q2 hone q3 q4 (Nat.zero_le _) ?_
                       rw [hW5] at h5 b5 hblk hsz5 ⊢
                       intro v6 W6 hr6 hg6 hw6
                       have hb6 : W6.heap[b]? = Wd.heap[b]? := (hg6.block b (by omega) (fun e => hbH (by injection e))).trans hblk
                       have s6 : Wd.heap.size + 1 ≤ W6.heap.size := by have := hg6.size; omega
                       have d8 : W6.cell? ⟨b, 1, none⟩ = some (.slice (some ⟨g, 0, none⟩) nL cap) := by rw [← hnL]; exact cell_of (hb6.trans hD.cell)
                       have f8 := fz_of (hb6.trans hD.cell) 1
                       have g6 : W6.cell? ⟨g, 0, none⟩ = some (.string (strB p)) := by
                         refine Eq.trans ?_ cs
                         exact World.cell?_of_block ((hg6.block g (by omega) (fun e => by
                           have e : g = Wd.heap.size := by injection e
                           omega)).trans hblg)
                       obtain ⟨ao6, cap6, rfl⟩ := ownsRow_slice hr6
                       clear hown q2)))
            all_goals (
              have hv6 : ∀ k, (Value.slice ao6 (1 + (nL - 1)) cap6).ownBlock = some k → S k := fun k hk => by
                rcases hw6 with e1 | e1
                · rw [e1] at hk
                  have hk : Wd.heap.size = k := by injection hk
                  exact hD.hS k (by omega)
                · rw [e1] at hk
                  have hk : W5.heap.size = k := by injection hk
                  exact hD.hS k (by omega)
              have b6 : FrS S w W6 := b5.grown hg6 (fun k hk => hD.hS k (by omega)) (fun k e => by
                have e : Wd.heap.size = k := by injection e
                exact hD.hS k (by omega))
              have hr6' : W6.ownsRow 0 9 1 (.slice ao6 (1 + (nL - 1)) cap6) (p.drop K0 :: r).length (cellS (p.drop K0 :: r)) := by
                have e : cellS (p.drop K0 :: r) = [.string ((strB p).extract K0 p.length)] ++ cellS r := by rw [HT.out]; rfl
                rw [e, show (p.drop K0 :: r).length = 1 + (nL - 1) by rw [List.length_cons]; omega]
                exact hr6
              have h9 := hD.setL (w' := W6) hr6' (by omega) hb6 hv6
              have b9 : FrS S w ((W6.setCell ⟨b, 1, none⟩ (.slice ao6 (1 + (nL - 1)) cap6)).setCell ⟨b, 2, none⟩ (.bool true)) := b6.trans ((((OnlyB.refl b W6).setCell 1 _).setCell 2 _).fr hD.hb)
              have h10 := h9.setB true
              have e2 := h9.c2
              have f9 := h9.fz 2
              clear hr6 hg6 hw6 hv6 b6 b5 h5 hb6 c0 c1 cs sl1 hr6' hblk hblg g6 d8 f8 HH HQ
              go_wp2
              have es : strB l ++ (strB p).extract 0 K0 = strB (l ++ p.take K0) := by
                apply ByteArray.ext
                apply Array.toList_inj.1
                simp [strB, List.extract_eq_take_drop]
              have hlen : (l ++ p.take K0).length = sz := by rw [List.length_append, List.length_take]; omega
              refine ⟨⟨l ++ p.take K0, l.length, true, p.drop K0 :: r, by rw [es], rfl, ?_⟩, ?_⟩
              · exact { at_ := ⟨_, h10⟩, fr := b9, fill := by
                          rw [← hfill, fill, if_neg (by omega), fill, if_pos hlt, if_neg hm, firF_f _ rfl, hK0]
                        le := by omega
                        ne := fun q hq => by
                          rcases List.mem_cons.1 hq with rfl | hq
                          · intro e
                            have := congrArg List.length e
                            rw [List.length_drop, List.length_nil] at this; omega
                          · exact hne' q (List.mem_cons_of_mem _ hq)
                        lL := by rw [List.length_cons]; omega
                        big := fun q hq => by
                          rcases List.mem_cons.1 hq with rfl | hq
                          · rw [List.length_drop]; omega
                          · exact hbig q (List.mem_cons_of_mem _ hq)
                        hfi := by omega }
              · rw [es]
                show sz - (l ++ p.take K0).length < sz - l.length
                omega)
        · have hn2' : (((n2 : Nat) : Int) == 2047) = false := by simp; omega
          go_wp2
          by_cases hm : p.length ≤ sz - l.length
          · have hm1 : ((p.length : Nat) : Int) ≤ ((sz : Nat) : Int) - ((l.length : Nat) : Int) := by omega
            go_quiet (fail)
            obtain ⟨Wd, hWd⟩ : ∃ W, wr.drewN nq = W := ⟨_, rfl⟩
            have hD : RC S b (.slice (some ⟨g, 0, none⟩) (p :: r).length cap) ⟨sz, p :: r, false, []⟩ Wd := by rw [← hWd]; exact ⟨hC.hS, hC.hb, hC.cell, hC.r, hC.s⟩
            have bD : FrS S w Wd := by rw [← hWd]; exact ⟨hF.os, hF.tape, hF.output, hF.size, hF.block⟩
            rw [hWd]
            clear hC hF hWd c0 c1 c2 cs f1 f2
            have c0 := hD.c0
            unfold intV at c0
            have c1 := hD.c1
            have c2 := hD.c2
            have cs := hD.str (g := g) (cap := cap) rfl (i := 0) (l := p) rfl
            try dsimp only at c0 c1 c2
            rw [hnL] at c1
            have h5 := hD.below ((Below.refl _ Wd).alloc (Nat.le_refl _) (.cells #[] 9))
            have b5 : FrS S w (Wd.alloc (.cells #[] 9)) := bD.alloc hD.hS _
            have hown : (Wd.alloc (.cells #[] 9)).ownsRow 0 9 1 (.slice (some ⟨Wd.heap.size, 0, none⟩) 0 0) 0 [] := ⟨rfl, .inr ⟨Wd.heap.size, 0, #[], rfl, Nat.zero_le _, heap_alloc_new Wd _, Nat.le_refl _, by unfold maxLen; omega, rfl, rfl⟩⟩
            have hone : ∀ u ∈ cellS r, u.oneCell' = true := fun u hu => by
              obtain ⟨l, _, rfl⟩ := List.mem_map.1 hu; rfl
            have d1 := h5.c1
            try dsimp only at d1
            rw [hnL] at d1
            have hbH : b ≠ Wd.heap.size := by have := hD.lt; omega
            have hlt1 := hD.lt
            obtain ⟨A1, sl1, hA1⟩ := row_tail (g := g) (n := nL) (cap := cap) (by omega) hcap
            have k3 : (1 : Int) ≤ ((nL : Nat) : Int) := by omega
            have k4 : ¬ ((p.length : Nat) : Int) < ((p.length : Nat) : Int) := by omega
            go_wp2_with (at_builtin; refine wpList_append_src rfl _ _ 22 rfl 0 9 i0 (.string ⟨#[]⟩) 16 Try.underlying22 hi hz0 hz1 hz2 rfl _ 0 [] rfl hown A1 (nL - 1) (cap - 1) (cellS r) rfl ?_ ?_ hone ?_ ?_ (Nat.zero_le _) ?_)
            · rw [cellS_len]; omega
            · intro j u hu
              unfold cellS at hu
              rw [List.getElem?_map] at hu
              obtain ⟨q, hq, rfl⟩ := Option.map_eq_some_iff.1 hu
              rcases hA1 with e | rfl
              · have := (List.getElem?_eq_some_iff.1 hq).1; omega
              · have hs5 := h5.str (g := g) (cap := cap) rfl (i := j + 1) (l := q) hq
                rw [Addr.add_lit, Nat.add_comm 1 j]
                exact hs5
            · have := HN.out; unfold maxLen; omega
            · have := HN.out; omega
            intro v6 W6 hr6 hg6 hw6
            have hb6 : W6.heap[b]? = Wd.heap[b]? := (hg6.block b (by rw [alloc_size]; omega) (fun e => hbH (by injection e))).trans ((World.grownBy_alloc Wd (.cells #[] 9) none).block b hlt1 (by simp))
            have s6 : Wd.heap.size + 1 ≤ W6.heap.size := by have := hg6.size; rw [alloc_size] at this; exact this
            have hv6 : ∀ k, v6.ownBlock = some k → S k := fun k hk => by
              rcases hw6 with e1 | e1
              · rw [e1] at hk
                have hk : Wd.heap.size = k := by injection hk
                exact hD.hS k (by omega)
              · rw [e1] at hk
                have hk : Wd.heap.size + 1 = k := by injection hk
                exact hD.hS k (by omega)
            have b6 : FrS S w W6 := b5.grown hg6 (fun k hk => hD.hS k (by rw [alloc_size] at hk; omega)) (fun k e => by
              have e : Wd.heap.size = k := by injection e
              exact hD.hS k (by omega))
            have hr6' : W6.ownsRow 0 9 1 v6 r.length (cellS r) := by
              rw [show r.length = nL - 1 by omega]; exact hr6
            have d8 : W6.cell? ⟨b, 1, none⟩ = some (.slice (some ⟨g, 0, none⟩) nL cap) := by rw [← hnL]; exact cell_of (hb6.trans hD.cell)
            have f8 := fz_of (hb6.trans hD.cell) 1
            have h9 := hD.setL (w' := W6) hr6' (by omega) hb6 hv6
            have b9 : FrS S w ((W6.setCell ⟨b, 1, none⟩ v6).setCell ⟨b, 2, none⟩ (.bool false)) := b6.trans ((((OnlyB.refl b W6).setCell 1 v6).setCell 2 _).fr hD.hb)
            have h10 := h9.setB false
            have e2 := h9.c2
            have f9 := h9.fz 2
            obtain ⟨ao6, cap6, rfl⟩ := ownsRow_slice hr6'
            obtain ⟨nR, hnR⟩ : ∃ n, r.length = n := ⟨_, rfl⟩
            rw [hnR] at h9 h10 e2 f9 b9 hr6' ⊢
            clear hr6 hg6 hw6 hv6 b6 b5 h5 hown hb6 c0 c1 cs d1 sl1
            go_wp2
            have es : strB l ++ (strB p).extract 0 p.length = strB (l ++ p) := by
              apply ByteArray.ext
              apply Array.toList_inj.1
              simp [strB]
            refine ⟨⟨l ++ p, n2, false, r, by rw [es], rfl, ?_⟩, ?_⟩
            · exact { at_ := ⟨_, h10⟩, fr := b9, fill := by rw [← hfill, fill, if_pos hlt, if_pos hm, firF_n _ _ hn2], le := by rw [List.length_append]; omega, ne := fun q hq => hne' q (List.mem_cons_of_mem _ hq), lL := by omega, big := fun q hq => hbig q (List.mem_cons_of_mem _ hq), hfi := hfi }
            · rw [es]
              show sz - (l ++ p).length < sz - l.length
              rw [List.length_append]; omega
          · obtain ⟨K0, hK0⟩ : ∃ K, sz - l.length = K := ⟨_, rfl⟩
            have hsub : ((sz : Nat) : Int) - ((l.length : Nat) : Int) = ((K0 : Nat) : Int) := by omega
            have hm1 : ((K0 : Nat) : Int) < ((p.length : Nat) : Int) := by omega
            go_quiet (fail)
            obtain ⟨Wd, hWd⟩ : ∃ W, wr.drewN nq = W := ⟨_, rfl⟩
            have hD : RC S b (.slice (some ⟨g, 0, none⟩) (p :: r).length cap) ⟨sz, p :: r, false, []⟩ Wd := by rw [← hWd]; exact ⟨hC.hS, hC.hb, hC.cell, hC.r, hC.s⟩
            have bD : FrS S w Wd := by rw [← hWd]; exact ⟨hF.os, hF.tape, hF.output, hF.size, hF.block⟩
            rw [hWd]
            clear hC hF hWd c0 c1 c2 cs f1 f2
            have c0 := hD.c0
            unfold intV at c0
            have c1 := hD.c1
            have c2 := hD.c2
            have cs := hD.str (g := g) (cap := cap) rfl (i := 0) (l := p) rfl
            try dsimp only at c0 c1 c2
            rw [hnL] at c1
            have f1 := hD.fz 1
            have f2 := hD.fz 2
            obtain ⟨A1, sl1, hA1⟩ := row_tail (g := g) (n := nL) (cap := cap) (by omega) hcap
            have k3 : (1 : Int) ≤ ((nL : Nat) : Int) := by omega
            go_wp2
            have hT : (strB p).extract K0 p.length = strB (p.drop K0) := by
              apply ByteArray.ext
              apply Array.toList_inj.1
              simp [strB, List.extract_eq_take_drop]
              exact List.take_of_length_le (by rw [List.length_drop]; omega)
            have HT := Lib.hid hT
            clear hT
            have h5 := (hD.below ((Below.refl _ Wd).alloc (Nat.le_refl _) (.cells #[.string ((strB p).extract K0 p.length)] 9))).drew
            have b5 : FrS S w (Wd.alloc (.cells #[.string ((strB p).extract K0 p.length)] 9)).drew := (bD.alloc hD.hS _).drew
            have hown : ((Wd.alloc (.cells #[.string ((strB p).extract K0 p.length)] 9)).drew).ownsRow 0 9 1 (.slice (some ⟨Wd.heap.size, 0, none⟩) 1 1) 1 [.string ((strB p).extract K0 p.length)] := ⟨rfl, .inr ⟨Wd.heap.size, 1, #[.string ((strB p).extract K0 p.length)], rfl, Nat.zero_le _, heap_alloc_new Wd _, Nat.le_refl _, by unfold maxLen; omega, rfl, rfl⟩⟩
            have hone : ∀ u ∈ cellS r, u.oneCell' = true := fun u hu => by
              obtain ⟨l, _, rfl⟩ := List.mem_map.1 hu; rfl
            have hbH : b ≠ Wd.heap.size := by have := hD.lt; omega
            have hlt1 := hD.lt
            have q1 : (cellS r).length = nL - 1 := by rw [cellS_len]; omega
            have q2 : ∀ (j : Nat) (u : Value), (cellS r)[j]? = some u → ((Wd.alloc (.cells #[.string ((strB p).extract K0 p.length)] 9)).drew).cell? (A1.add j) = some u := by
              intro j u hu
              unfold cellS at hu
              rw [List.getElem?_map] at hu
              obtain ⟨q, hq, rfl⟩ := Option.map_eq_some_iff.1 hu
              rcases hA1 with e | rfl
              · have := (List.getElem?_eq_some_iff.1 hq).1; omega
              · have hs5 := h5.str (g := g) (cap := cap) rfl (i := j + 1) (l := q) hq
                rw [Addr.add_lit, Nat.add_comm 1 j]
                exact hs5
            have q3 : 1 + (nL - 1) ≤ maxLen := by have := HN.out; unfold maxLen; omega
            have q4 : (1 + (nL - 1)) * 16 ≤ 140737488355328 := by have := HN.out; omega
            have hblk : ((Wd.alloc (.cells #[.string ((strB p).extract K0 p.length)] 9)).drew).heap[b]? = Wd.heap[b]? := (World.grownBy_alloc Wd (.cells #[.string ((strB p).extract K0 p.length)] 9) none).block b hlt1 (by simp)
            have hsz5 : ((Wd.alloc (.cells #[.string ((strB p).extract K0 p.length)] 9)).drew).heap.size = Wd.heap.size + 1 := alloc_size Wd _
            obtain ⟨W5, hW5⟩ : ∃ W, (Wd.alloc (.cells #[.string ((strB p).extract K0 p.length)] 9)).drew = W := ⟨_, rfl⟩
            have hb0 : (0 : Int) ≤ ((K0 : Nat) : Int) := by omega
            have hb1 : ((K0 : Nat) : Int) ≤ ((p.length : Nat) : Int) := by omega
            have hgl := (hD.r.lt g rfl).2
            have hblg : W5.heap[g]? = Wd.heap[g]? := by rw [← hW5]; exact (World.grownBy_alloc Wd (.cells #[.string ((strB p).extract K0 p.length)] 9) none).block g hgl (by simp)
            have HH := Lib.hid (And.intro hW5 (And.intro h5 (And.intro b5 (And.intro hown (And.intro q2 (And.intro hblk (And.intro hsz5 hblg)))))))
            have HQ := Lib.hid (And.intro q1 (And.intro q3 q4))
            clear h5 b5 hown q1 q2 q3 q4 hblk hsz5 hblg hW5
            go_region_law ((
                      (obtain ⟨hW5, h5, b5, hown, q2, hblk, hsz5, hblg⟩ := HH.out
                       obtain ⟨q1, q3, q4⟩ := HQ.out
                       refine step_append_src rfl _ _ 22 rfl 0 9 i0 (.string ⟨#[]⟩) 16 Try.underlying22 hi hz0 hz1 hz2 rfl _ 1 [.string ((strB p).extract K0 p.length)] rfl hown A1 (nL - 1) (cap - 1) (cellS r) rfl q1 q2 hone q3 q4 (Nat.zero_le _) ?_
                       rw [hW5] at h5 b5 hblk hsz5 ⊢
                       intro v6 W6 hr6 hg6 hw6
                       have hb6 : W6.heap[b]? = Wd.heap[b]? := (hg6.block b (by omega) (fun e => hbH (by injection e))).trans hblk
                       have s6 : Wd.heap.size + 1 ≤ W6.heap.size := by have := hg6.size; omega
                       have d8 : W6.cell? ⟨b, 1, none⟩ = some (.slice (some ⟨g, 0, none⟩) nL cap) := by rw [← hnL]; exact cell_of (hb6.trans hD.cell)
                       have f8 := fz_of (hb6.trans hD.cell) 1
                       have g6 : W6.cell? ⟨g, 0, none⟩ = some (.string (strB p)) := by
                         refine Eq.trans ?_ cs
                         exact World.cell?_of_block ((hg6.block g (by omega) (fun e => by
                           have e : g = Wd.heap.size := by injection e
                           omega)).trans hblg)
                       obtain ⟨ao6, cap6, rfl⟩ := ownsRow_slice hr6
                       clear hown q2)))
            all_goals (
              have hv6 : ∀ k, (Value.slice ao6 (1 + (nL - 1)) cap6).ownBlock = some k → S k := fun k hk => by
                rcases hw6 with e1 | e1
                · rw [e1] at hk
                  have hk : Wd.heap.size = k := by injection hk
                  exact hD.hS k (by omega)
                · rw [e1] at hk
                  have hk : W5.heap.size = k := by injection hk
                  exact hD.hS k (by omega)
              have b6 : FrS S w W6 := b5.grown hg6 (fun k hk => hD.hS k (by omega)) (fun k e => by
                have e : Wd.heap.size = k := by injection e
                exact hD.hS k (by omega))
              have hr6' : W6.ownsRow 0 9 1 (.slice ao6 (1 + (nL - 1)) cap6) (p.drop K0 :: r).length (cellS (p.drop K0 :: r)) := by
                have e : cellS (p.drop K0 :: r) = [.string ((strB p).extract K0 p.length)] ++ cellS r := by rw [HT.out]; rfl
                rw [e, show (p.drop K0 :: r).length = 1 + (nL - 1) by rw [List.length_cons]; omega]
                exact hr6
              have h9 := hD.setL (w' := W6) hr6' (by omega) hb6 hv6
              have b9 : FrS S w ((W6.setCell ⟨b, 1, none⟩ (.slice ao6 (1 + (nL - 1)) cap6)).setCell ⟨b, 2, none⟩ (.bool true)) := b6.trans ((((OnlyB.refl b W6).setCell 1 _).setCell 2 _).fr hD.hb)
              have h10 := h9.setB true
              have e2 := h9.c2
              have f9 := h9.fz 2
              clear hr6 hg6 hw6 hv6 b6 b5 h5 hb6 c0 c1 cs sl1 hr6' hblk hblg g6 d8 f8 HH HQ
              go_wp2
              have es : strB l ++ (strB p).extract 0 K0 = strB (l ++ p.take K0) := by
                apply ByteArray.ext
                apply Array.toList_inj.1
                simp [strB, List.extract_eq_take_drop]
              have hlen : (l ++ p.take K0).length = sz := by rw [List.length_append, List.length_take]; omega
              refine ⟨⟨l ++ p.take K0, n2, true, p.drop K0 :: r, by rw [es], rfl, ?_⟩, ?_⟩
              · exact { at_ := ⟨_, h10⟩, fr := b9, fill := by
                          rw [← hfill, fill, if_neg (by omega), fill, if_pos hlt, if_neg hm, firF_n _ _ hn2, hK0]
                        le := by omega
                        ne := fun q hq => by
                          rcases List.mem_cons.1 hq with rfl | hq
                          · intro e
                            have := congrArg List.length e
                            rw [List.length_drop, List.length_nil] at this; omega
                          · exact hne' q (List.mem_cons_of_mem _ hq)
                        lL := by rw [List.length_cons]; omega
                        big := fun q hq => by
                          rcases List.mem_cons.1 hq with rfl | hq
                          · rw [List.length_drop]; omega
                          · exact hbig q (List.mem_cons_of_mem _ hq)
                        hfi := hfi }
              · rw [es]
                show sz - (l ++ p.take K0).length < sz - l.length
                omega)
    · have hX2 : X = ⟨l, n2, bg', L'⟩ := by
        rw [← hfill]
        cases L' with
        | nil => exact absurd rfl hL
        | cons p r => rw [fill, if_neg hge]
      have c0 := hC.c0
      unfold intV at c0
      have c1 := hC.c1
      have s0 : (strB l).size = l.length := rfl
      dsimp only at c0 c1
      have hLp := List.length_pos_iff.2 hL
      obtain ⟨nL, hnL⟩ : ∃ n, L'.length = n := ⟨_, rfl⟩
      rw [hnL] at c1 hLp
      have k1 : (0 : Int) < ((nL : Nat) : Int) := by omega
      have hls : l.length = sz := by omega
      rw [hls] at s0
      go_wp2
      exact bodyPost_ret (v := .tuple #[.string (strB l), .int .i64 ((n2 : Nat) : Int), .bool true]) (by simp [results, Try.results50, go_sem]) rfl (rpost_full rfl HX.out hX2 hge ⟨_, hC⟩ hF)
end Go.Am.Tmf
