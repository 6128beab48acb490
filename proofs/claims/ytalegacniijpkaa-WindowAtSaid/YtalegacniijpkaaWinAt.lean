/- window.At and the reference's. No conditions but those stated. -/
import Derived.Test.YtalegacniijpkaaWinRef
namespace Go.Proofs.Ytalegacniijpkaa
open Go.ChangeShapes Go.WideShapes Go.ChangeAt Go.RowKit
set_option linter.unusedVariables false
set_option linter.unusedSimpArgs false
namespace Win
/-- What At answers. -/
def AtOut (l : List Wn) (tick : Int) (i : Nat) (g : Int) : Prop := ((l = [] ∨ tick < 0) → i = 0 ∧ g = 0) ∧ ((l ≠ [] ∧ 0 ≤ tick) → At l (tick % pre l l.length) i g)
/-- Windows that can be, or lie below none. -/
structure Can (l : List Wn) : Prop where
  most : l.length ≤ 40
  hi : ∀ i, i < l.length → (wAt l i).2 ≤ 100
theorem Can.pre {l : List Wn} (h : Can l) (i : Nat) (hi : i ≤ l.length) : 0 ≤ pre l i ∧ pre l i ≤ 4000 := by
  have h1 := (pre_le l i hi).1
  have h2 := pre_most l 100 (by omega) h.hi i hi
  have := h.most
  omega
theorem Can.las {l : List Wn} (h : Can l) (i : Nat) (hi : i < l.length) : 1 ≤ las l i ∧ las l i ≤ 100 := by
  have := h.hi i hi
  unfold Win.las lng
  omega
theorem las_eq (l : List Wn) (i : Nat) : lng ((wAt l i).1, (wAt l i).2) = las l i := rfl
set_option maxRecDepth 100000 in
theorem win_at {w : World} {ao : Option Addr} {cap : Nat} {l : List Wn} (h : WinAt w ao cap l) (hcm : cap ≤ maxLen) (hc : Can l) (tick : Int) (ht : tick ≤ 9223372036854775807) :
    Calls Try.prog 25 #[.slice ao l.length cap, .int .i64 tick] w fun e w' => ∃ (i : Nat) (g : Int), e = .returned (.tuple #[.int .i64 i, .int .i64 g]) ∧ AtOut l tick i g ∧ Keep [] w w' := by
  have H := Lib.hid h
  have HC := Lib.hid hc
  have hlc := h.le
  have hl40 := hc.most
  unfold maxLen at hcm
  clear h hc
  go_enter Try.func25, Try.ntmps25
  go_wp2_with fail
  go_loopw [12, 6] (fun c f wr => ∃ k : Nat, c = .int .i64 k ∧ k ≤ l.length ∧ f = .int .i64 (pre l k) ∧ Keep [] w wr) (fun c _ _ => l.length - (intOf c).toNat)
  case atStart => exact ⟨0, rfl, Nat.zero_le _, rfl, Keep.refl _ _⟩
  case round =>
    obtain ⟨k, rfl, hk, rfl, hK⟩ := hrel
    have HK := Lib.hid hK
    clear hK
    by_cases hlt : k < l.length
    · have hlt' : (k : Int) < l.length := by omega
      obtain ⟨b, o, rfl, c0, c1⟩ := (H.out.keep HK.out (by simp)).cell k hlt
      have hp := HC.out.pre k (by omega)
      have hla := HC.out.las k hlt
      have Hps := Lib.hid (pre_succ l k hlt)
      have Hle := Lib.hid (las_eq l k)
      generalize (wAt l k).1 = wp at c0 Hle
      generalize (wAt l k).2 = wt at c1 Hle
      go_wp2_with fail
      refine (win_lasts _ _ _).mono ?_
      rintro e w2 ⟨rfl, k2⟩
      rw [Hle.out]
      have K2 : Hid (Keep [] w w2) := Lib.hid ((HK.out.alloc _).trans k2)
      clear k2 c0 c1
      generalize las l k = z at *
      generalize pre l k = pk at *
      go_wp2_with fail
      go_roundw
      case rel => exact ⟨k + 1, by go_num, by omega, by rw [Hps.out], K2.out⟩
      case measure => simp [intOf]; omega
    · have hkl : k = l.length := by omega
      subst hkl
      by_cases hout : l = [] ∨ tick < 0
      · have Ho : Hid (AtOut l tick 0 0) := Lib.hid ⟨fun _ => ⟨rfl, rfl⟩, fun h => by rcases hout with q | q; exact absurd q h.1; omega⟩
        rcases hout with rfl | hneg
        · go_wp2_with fail
          go_ret2
          exact ⟨0, 0, rfl, Ho.out, HK.out⟩
        · by_cases hz : pre l l.length = 0
          · have Hz := Lib.hid hz
            rw [hz]
            clear hz
            go_wp2_with fail
            go_ret2
            exact ⟨0, 0, rfl, Ho.out, HK.out⟩
          · have hzb : (pre l l.length == 0) = false := by simp [hz]
            clear hz
            go_wp2_with fail
            go_ret2
            exact ⟨0, 0, rfl, Ho.out, HK.out⟩
      · have hne : l ≠ [] ∧ 0 ≤ tick := ⟨fun e => hout (.inl e), by omega⟩
        have hlp : 0 < l.length := by
          rcases Nat.lt_or_ge 0 l.length with q | q
          · exact q
          · exact absurd (List.length_eq_zero_iff.1 (by omega)) hne.1
        have hN1 : 1 ≤ pre l l.length := by
          have h1 := pre_succ l 0 hlp
          have h2 := las_pos l 0
          have h3 := (pre_le l 1 (by omega)).2
          simp [pre] at h1
          simp [pre] at h3 ⊢
          omega
        have hN2 := (HC.out.pre l.length (Nat.le_refl _)).2
        have hzb : (pre l l.length == 0) = false := by simp; omega
        have ht0 : 0 ≤ tick := hne.2
        have Ho : Hid (∀ i g, At l (tick % pre l l.length) i g → AtOut l tick i g) := Lib.hid fun i g h => ⟨fun q => absurd q hout, fun _ => h⟩
        have htm : 0 ≤ tick % pre l l.length ∧ tick % pre l l.length < pre l l.length := ⟨Int.emod_nonneg _ (by omega), Int.emod_lt_of_pos _ (by omega)⟩
        clear hout hne
        generalize hNN : pre l l.length = N at *
        have HNN := Lib.hid hNN
        clear hNN
        go_wp2_with fail
        generalize tick % N = T at *
        go_loopw [9, 1] (fun c u wr => ∃ i : Nat, c = .int .i64 i ∧ i < l.length ∧ u = .int .i64 (T - pre l i) ∧ pre l i ≤ T ∧ Keep [] w wr) (fun c _ _ => l.length - (intOf c).toNat)
        case atStart => exact ⟨0, rfl, hlp, by simp [pre], by simpa [pre] using htm.1, HK.out⟩
        case round =>
          obtain ⟨i, rfl, hi, rfl, hpi, hK⟩ := hrel
          have HK2 := Lib.hid hK
          clear hK HK
          have hi' : (i : Int) < l.length := by omega
          obtain ⟨b, o, rfl, c0, c1⟩ := (H.out.keep HK2.out (by simp)).cell i hi
          have hp := HC.out.pre i (by omega)
          have hla := HC.out.las i hi
          have hps := pre_succ l i hi
          have hnx : pre l i + las l i ≤ T → i + 1 < l.length := by
            intro hle
            rcases Nat.lt_or_ge (i + 1) l.length with q | q
            · exact q
            · have e : i + 1 = l.length := by omega
              rw [e, HNN.out] at hps
              omega
          have Hps := Lib.hid hps
          have Hle := Lib.hid (las_eq l i)
          have hat : T - pre l i < las l i → At l T i (T - pre l i) := fun q => ⟨hi, by omega, by omega, q⟩
          have Hat := Lib.hid hat
          clear hps hat
          generalize (wAt l i).1 = wp at c0 Hle
          generalize (wAt l i).2 = wt at c1 Hle
          generalize las l i = z at *
          generalize pre l i = pk at *
          by_cases hge : z ≤ T - pk
          · have hnx' := hnx (by omega)
            clear hnx
            go_wp2_with fail
            refine (win_lasts _ _ _).mono ?_
            rintro e w2 ⟨rfl, k2⟩
            rw [Hle.out]
            have d0 := cell_keep k2 c0 (by simp)
            have d1 := cell_keep k2 c1 (by simp)
            have K2 : Hid (Keep [] w w2) := Lib.hid (HK2.out.trans k2)
            clear k2 c0 c1
            go_wp2_with fail
            refine (win_lasts _ _ _).mono ?_
            rintro e w3 ⟨rfl, k3⟩
            rw [Hle.out]
            have K3 : Hid (Keep [] w w3) := Lib.hid (K2.out.trans k3)
            clear k3 d0 d1
            go_wp2_with fail
            go_roundw
            case rel => exact ⟨i + 1, by go_num, by omega, by rw [Hps.out]; congr 1; omega, by rw [Hps.out]; omega, K3.out⟩
            case measure => simp [intOf]; omega
          · go_wp2_with fail
            refine (win_lasts _ _ _).mono ?_
            rintro e w2 ⟨rfl, k2⟩
            rw [Hle.out]
            have K2 : Hid (Keep [] w w2) := Lib.hid (HK2.out.trans k2)
            clear k2 c0 c1
            go_wp2_with fail
            go_ret2
            exact ⟨i, T - pk, rfl, Ho.out _ _ (Hat.out (by omega)), K2.out⟩
set_option maxRecDepth 100000 in
theorem refT_at {w : World} {ao : Option Addr} {cap : Nat} {l : List Wn} (h : WinAt w ao cap l) (hcm : cap ≤ maxLen) (hc : Can l) (tick : Int) (ht : tick ≤ 9223372036854775807) :
    Calls Try.prog 26 #[.slice ao l.length cap, .int .i64 tick] w fun e w' => ∃ (i : Nat) (g : Int), e = .returned (.tuple #[.int .i64 i, .int .i64 g]) ∧ AtOut l tick i g ∧ Keep [] w w' := by
  have H := Lib.hid h
  have HC := Lib.hid hc
  have hlc := h.le
  have hl40 := hc.most
  unfold maxLen at hcm
  clear h hc
  by_cases hout : l = [] ∨ tick < 0
  · have Ho : Hid (AtOut l tick 0 0) := Lib.hid ⟨fun _ => ⟨rfl, rfl⟩, fun h => by rcases hout with q | q; exact absurd q h.1; omega⟩
    by_cases hl : l = []
    · subst hl
      go_enter Try.func26, Try.ntmps26
      go_wp2_with fail
      go_ret2
      exact ⟨0, 0, rfl, Ho.out, Keep.refl _ _⟩
    · have hneg : tick < 0 := by rcases hout with q | q; exact absurd q hl; exact q
      have hlb : ((l.length : Int) == 0) = false := by simpa using hl
      clear hout hl
      go_enter Try.func26, Try.ntmps26
      go_wp2_with fail
      go_ret2
      exact ⟨0, 0, rfl, Ho.out, Keep.refl _ _⟩
  · have hne : l ≠ [] ∧ 0 ≤ tick := ⟨fun e => hout (.inl e), by omega⟩
    have hlp : 0 < l.length := by
      rcases Nat.lt_or_ge 0 l.length with q | q
      · exact q
      · exact absurd (List.length_eq_zero_iff.1 (by omega)) hne.1
    have hlb : ((l.length : Int) == 0) = false := by simpa using hne.1
    have hN1 : 1 ≤ pre l l.length := by
      have h1 := pre_succ l 0 hlp
      have h2 := las_pos l 0
      have h3 := (pre_le l 1 (by omega)).2
      simp [pre] at h1
      simp [pre] at h3 ⊢
      omega
    have hN2 := (HC.out.pre l.length (Nat.le_refl _)).2
    have ht0 : 0 ≤ tick := hne.2
    have Ho : Hid (∀ i g, At l (tick % pre l l.length) i g → AtOut l tick i g) := Lib.hid fun i g h => ⟨fun q => absurd q hout, fun _ => h⟩
    have htm : 0 ≤ tick % pre l l.length ∧ tick % pre l l.length < pre l l.length := ⟨Int.emod_nonneg _ (by omega), Int.emod_lt_of_pos _ (by omega)⟩
    clear hout hne
    go_enter Try.func26, Try.ntmps26
    go_wp2_with fail
    go_loopw [18, 6] (fun c f wr => ∃ k : Nat, c = .int .i64 k ∧ k ≤ l.length ∧ f = .int .i64 (pre l k) ∧ Keep [] w wr) (fun c _ _ => l.length - (intOf c).toNat)
    case atStart => exact ⟨0, rfl, Nat.zero_le _, rfl, Keep.refl _ _⟩
    case round =>
      obtain ⟨k, rfl, hk, rfl, hK⟩ := hrel
      have HK := Lib.hid hK
      clear hK
      by_cases hlt : k < l.length
      · have hlt' : (k : Int) < l.length := by omega
        obtain ⟨b, o, rfl, c0, c1⟩ := (H.out.keep HK.out (by simp)).cell k hlt
        have hp := HC.out.pre k (by omega)
        have hla := HC.out.las k hlt
        have Hps := Lib.hid (pre_succ l k hlt)
        have Hle := Lib.hid (las_eq l k)
        clear htm hN1 hN2
        generalize (wAt l k).1 = wp at c0 Hle
        generalize (wAt l k).2 = wt at c1 Hle
        go_wp2_with fail
        refine (ref_long _ _ _).mono ?_
        rintro e w2 ⟨rfl, k2⟩
        rw [Hle.out]
        have K2 : Hid (Keep [] w w2) := Lib.hid (HK.out.trans k2)
        clear k2 c0 c1
        generalize las l k = z at *
        generalize pre l k = pk at *
        go_wp2_with fail
        go_roundw
        case rel => exact ⟨k + 1, by go_num, by omega, by rw [Hps.out], K2.out⟩
        case measure => simp [intOf]; omega
      · have hkl : k = l.length := by omega
        subst hkl
        generalize hNN : pre l l.length = N at *
        have HNN := Lib.hid hNN
        clear hNN
        go_wp2_with fail
        generalize tick % N = T at *
        go_loopw [34, 1] (fun c u wr => ∃ i : Nat, c = .int .i64 i ∧ i < l.length ∧ u = .int .i64 (T - pre l i) ∧ pre l i ≤ T ∧ Keep [] w wr) (fun c _ _ => l.length - (intOf c).toNat)
        case atStart => exact ⟨0, rfl, hlp, by simp [pre], by simpa [pre] using htm.1, HK.out⟩
        case round =>
          obtain ⟨i, rfl, hi, rfl, hpi, hK⟩ := hrel
          have HK2 := Lib.hid hK
          clear hK HK
          have hi' : (i : Int) < l.length := by omega
          obtain ⟨b, o, rfl, c0, c1⟩ := (H.out.keep HK2.out (by simp)).cell i hi
          have hp := HC.out.pre i (by omega)
          have hla := HC.out.las i hi
          have hps := pre_succ l i hi
          have hnx : pre l i + las l i ≤ T → i + 1 < l.length := by
            intro hle
            rcases Nat.lt_or_ge (i + 1) l.length with q | q
            · exact q
            · have e : i + 1 = l.length := by omega
              rw [e, HNN.out] at hps
              omega
          have Hps := Lib.hid hps
          have Hle := Lib.hid (las_eq l i)
          have hat : T - pre l i < las l i → At l T i (T - pre l i) := fun q => ⟨hi, by omega, by omega, q⟩
          have Hat := Lib.hid hat
          clear hps hat
          generalize (wAt l i).1 = wp at c0 Hle
          generalize (wAt l i).2 = wt at c1 Hle
          generalize las l i = z at *
          generalize pre l i = pk at *
          by_cases hge : z ≤ T - pk
          · have hnx' := hnx (by omega)
            clear hnx
            go_wp2_with fail
            refine (ref_long _ _ _).mono ?_
            rintro e w2 ⟨rfl, k2⟩
            rw [Hle.out]
            have d0 := cell_keep k2 c0 (by simp)
            have d1 := cell_keep k2 c1 (by simp)
            have K2 : Hid (Keep [] w w2) := Lib.hid (HK2.out.trans k2)
            clear k2 c0 c1
            go_wp2_with fail
            refine (ref_long _ _ _).mono ?_
            rintro e w3 ⟨rfl, k3⟩
            rw [Hle.out]
            have K3 : Hid (Keep [] w w3) := Lib.hid (K2.out.trans k3)
            clear k3 d0 d1
            go_wp2_with fail
            go_roundw
            case rel => exact ⟨i + 1, by go_num, by omega, by rw [Hps.out]; congr 1; omega, by rw [Hps.out]; omega, K3.out⟩
            case measure => simp [intOf]; omega
          · go_wp2_with fail
            refine (ref_long _ _ _).mono ?_
            rintro e w2 ⟨rfl, k2⟩
            rw [Hle.out]
            have K2 : Hid (Keep [] w w2) := Lib.hid (HK2.out.trans k2)
            clear k2 c0 c1
            go_wp2_with fail
            go_ret2
            exact ⟨i, T - pk, rfl, Ho.out _ _ (Hat.out (by omega)), K2.out⟩
theorem out_one {l : List Wn} {tick : Int} {i j : Nat} {g h : Int} (a : AtOut l tick i g) (b : AtOut l tick j h) : i = j ∧ g = h := by
  by_cases q : l = [] ∨ tick < 0
  · obtain ⟨rfl, rfl⟩ := a.1 q
    obtain ⟨rfl, rfl⟩ := b.1 q
    exact ⟨rfl, rfl⟩
  · have q' : l ≠ [] ∧ 0 ≤ tick := ⟨fun e => q (.inl e), by omega⟩
    exact at_one l _ _ _ _ _ (a.2 q') (b.2 q')
theorem out_run {l : List Wn} (hl : l ≠ []) {n : Nat} {i : Nat} {g : Int} (a : AtOut l n i g) : run l n = (i, g) :=
  at_run l hl n _ rfl i g (a.2 ⟨hl, by omega⟩)
end Win
end Go.Proofs.Ytalegacniijpkaa
