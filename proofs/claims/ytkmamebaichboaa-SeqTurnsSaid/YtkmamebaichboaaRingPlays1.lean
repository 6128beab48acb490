/- Law 8: RingPlays: the plain law of the ring's calls, each done alone. No Go in it. No conditions but those stated. -/
import Derived.Test.YtkmamebaichboaaRingCosts
namespace Go.Proofs.Ytkmamebaichboaa
open Go.ChangeShapes Go.WideShapes Go.ChangeAt Go.RowKit
set_option linter.unusedVariables false
set_option linter.unusedSimpArgs false
namespace Law08
open Prog
/-- The words l hold a ring of size c with the words ws, of which g were got ahead. -/
structure Ring (c : Int) (l : List Int) (ws : List Int) (g : Int) : Prop where
  len : l.length = 30
  low : 0 ≤ g
  got : wordGet l 3 = g
  put : wordGet l 4 = g + ws.length
  most : (ws.length : Int) ≤ c
  at_ : ∀ (i : Nat) (v : Int), ws[i]? = some v → wordGet l (5 + (g + i) % c) = v
theorem place_small {c n : Int} (hn : 0 ≤ n ∧ n ≤ 4611686018427389904) : place 3 c n = 5 + n % c := by
  unfold place
  rw [Int.emod_eq_of_lt (a := n) (by omega) (by omega)]
  omega
theorem emod_ne {c a d : Int} (hc : 0 < c) (hd : 0 < d ∧ d < c) : (a + d) % c ≠ a % c := by
  intro h
  have h1 := Int.emod_add_emod a c d
  have h2 : (a % c + d) % c = (a + d) % c := by simp
  rw [h] at h2
  have h3 := Int.emod_nonneg a (show c ≠ 0 by omega)
  have h4 := Int.emod_lt_of_pos a hc
  by_cases h5 : a % c + d < c
  · rw [Int.emod_eq_of_lt (by omega) h5] at h2; omega
  · have h6 : (a % c + d) % c = (a % c + d - c) % c := by rw [Int.sub_emod_right]
    rw [h6, Int.emod_eq_of_lt (by omega) (by omega)] at h2
    omega
theorem Ring.start {c : Int} {l : List Int} {k : Int} (hl : l.length = 30) (hk : 0 ≤ k) (h3 : wordGet l 3 = k) (h4 : wordGet l 4 = k) (hc : 0 ≤ c) : Ring c l [] k :=
  ⟨hl, hk, h3, by simpa using h4, by simpa using hc, fun i v h => by simp at h⟩
section
variable {c v g : Int} {l ws : List Int}
theorem Ring.putIt (h : Ring c l ws g) (hc : 1 ≤ c ∧ c ≤ 16) (hb : g + ws.length ≤ 4611686018427388904) :
    (actP ⟨0, c, v, 0, false, 0⟩).cost l ≤ 5000 ∧ ((actP ⟨0, c, v, 0, false, 0⟩).solo l).1.2 = decide ((ws.length : Int) < c) ∧ Ring c ((actP ⟨0, c, v, 0, false, 0⟩).solo l).2 (if (ws.length : Int) < c then ws ++ [v] else ws) g := by
  have e : actP ⟨0, c, v, 0, false, 0⟩ = (do let ok ← ringPutP 3 c v; pure (0, ok)) := rfl
  have h1 : ¬ ringW c = 0 := by rw [ringW_in hc]; omega
  have hlow := h.low
  have h5 : wrap64 (g + ws.length - g) = ws.length := by rw [show g + (ws.length : Int) - g = ws.length by omega]; exact w64 (by have := h.most; omega)
  have h6 : wrap64 (g + ws.length + 1) = g + ws.length + 1 := w64 (by omega)
  have hp := place_bounds 3 c (g + ws.length) hc
  have hpl : place 3 c (g + ws.length) = 5 + (g + ws.length) % c := place_small (by omega)
  rw [e]
  by_cases hfull : c ≤ (ws.length : Int)
  · have h7 : ¬ (ws.length : Int) < c := by omega
    rw [if_neg h7, decide_eq_false h7]
    simp [ringPutP, h1, h.got, h.put, h5, hfull, h]
  · have h7 : (ws.length : Int) < c := by omega
    rw [if_pos h7, decide_eq_true h7]
    refine ⟨by simp [ringPutP, h1, h.got, h.put, h5, hfull], by simp [ringPutP, h1, h.got, h.put, h5, hfull], ?_⟩
    have e2 : ((do let ok ← ringPutP 3 c v; pure (0, ok) : Prog (Int × Bool)).solo l).2 = wordPut (wordPut l (place 3 c (g + ws.length)) v) 4 (g + ws.length + 1) := by
      simp [ringPutP, h1, h.got, h.put, h5, hfull, h6]
    rw [e2]
    refine ⟨by rw [wordPut_length, wordPut_length]; exact h.len, h.low, ?_, ?_, by simp; omega, fun i u hu => ?_⟩
    · rw [get_put_ne (by omega), get_put_ne (by omega)]; exact h.got
    · rw [get_put (by rw [wordPut_length, h.len]; omega)]; simp; omega
    · have hi : 0 ≤ (g + i) % c := Int.emod_nonneg _ (by omega)
      rw [get_put_ne (by omega), hpl]
      by_cases hi2 : i < ws.length
      · rw [List.getElem?_append_left hi2] at hu
        have hne : (g + (ws.length : Int)) % c ≠ (g + i) % c := by
          have := emod_ne (a := g + i) (d := ws.length - i) (c := c) (by omega) (by omega)
          rwa [show g + (i : Int) + (ws.length - i) = g + ws.length by omega] at this
        rw [get_put_ne (by omega)]
        exact h.at_ i u hu
      · have hi3 : i = ws.length := by
          have := (List.getElem?_eq_some_iff.1 hu).1
          simp at this
          omega
        subst hi3
        simp at hu
        subst hu
        exact get_put (by rw [h.len]; rw [hpl] at hp; omega)
theorem Ring.getIt (h : Ring c l ws g) (hc : 1 ≤ c ∧ c ≤ 16) (hb : g + ws.length ≤ 4611686018427388904) :
    (actP ⟨1, c, v, 0, false, 0⟩).cost l ≤ 5000 ∧ ((actP ⟨1, c, v, 0, false, 0⟩).solo l).1 = (ws.head?.getD 0, decide (0 < ws.length)) ∧ ∃ g', Ring c ((actP ⟨1, c, v, 0, false, 0⟩).solo l).2 ws.tail g' ∧ g' + ws.tail.length = g + ws.length := by
  have e : actP ⟨1, c, v, 0, false, 0⟩ = ringGetP 3 c := rfl
  have h1 : ¬ ringW c = 0 := by rw [ringW_in hc]; omega
  have hlow := h.low
  have h6 : wrap64 (g + 1) = g + 1 := w64 (by omega)
  have hp := place_bounds 3 c g hc
  have hpl : place 3 c g = 5 + g % c := place_small (by omega)
  rw [e]
  cases ws with
  | nil =>
    have hput := h.put
    simp at hput
    refine ⟨by simp [ringGetP, h1, h.got, hput], by simp [ringGetP, h1, h.got, hput], g, ?_, by simp⟩
    have e2 : ((ringGetP 3 c).solo l).2 = l := by simp [ringGetP, h1, h.got, hput]
    rw [e2]
    exact h
  | cons x ws =>
    have hput := h.put
    have hne : ¬ (wordGet l 4 = g) := by rw [h.put]; simp; omega
    have hx : wordGet l (place 3 c g) = x := by
      have := h.at_ 0 x rfl
      rw [hpl]
      simpa using this
    refine ⟨by simp [ringGetP, h1, h.got, hne], by simp [ringGetP, h1, hne, h.got, hx], g + 1, ?_, by simp; omega⟩
    have e2 : ((ringGetP 3 c).solo l).2 = wordPut l 3 (g + 1) := by simp [ringGetP, h1, hne, h.got, h6]
    rw [e2]
    refine ⟨by rw [wordPut_length]; exact h.len, by omega, get_put (by rw [h.len]; omega), ?_, ?_, fun i u hu => ?_⟩
    · rw [get_put_ne (by omega), hput]; simp; omega
    · have := h.most; simp at this ⊢; omega
    · have hi : 0 ≤ (g + 1 + i) % c := Int.emod_nonneg _ (by omega)
      rw [get_put_ne (by omega)]
      have := h.at_ (i + 1) u (by simpa using hu)
      rw [show g + ((i + 1 : Nat) : Int) = g + 1 + i by omega] at this
      exact this
theorem Ring.lenIt (h : Ring c l ws g) (hc : 1 ≤ c ∧ c ≤ 16) :
    (actP ⟨2, c, v, 0, false, 0⟩).cost l ≤ 5000 ∧ ((actP ⟨2, c, v, 0, false, 0⟩).solo l).1.1 = ws.length ∧ Ring c ((actP ⟨2, c, v, 0, false, 0⟩).solo l).2 ws g := by
  have e : actP ⟨2, c, v, 0, false, 0⟩ = (do let n ← ringLenP 3; pure (n, false)) := rfl
  have h5 : wrap64 (g + ws.length - g) = ws.length := by rw [show g + (ws.length : Int) - g = ws.length by omega]; exact w64 (by have := h.most; omega)
  rw [e]
  refine ⟨by simp [ringLenP], by simp [ringLenP, h.got, h.put, h5], ?_⟩
  have e2 : ((do let n ← ringLenP 3; pure (n, false) : Prog (Int × Bool)).solo l).2 = l := by simp [ringLenP]
  rw [e2]
  exact h
theorem Ring.clearIt {k : Int} (h : Ring c l ws g) (hc : 1 ≤ c ∧ c ≤ 16) (k0 : k ≠ 0) (k1 : k ≠ 1) (k2 : k ≠ 2) :
    (actP ⟨k, c, v, 0, false, 0⟩).cost l ≤ 5000 ∧ Ring c ((actP ⟨k, c, v, 0, false, 0⟩).solo l).2 [] (g + ws.length) := by
  have e : actP ⟨k, c, v, 0, false, 0⟩ = (do let _ ← ringClearP 3; pure (0, false)) := by
    unfold actP
    rw [if_neg k0, if_neg k1, if_neg k2]
  rw [e]
  refine ⟨by simp [ringClearP], ?_⟩
  have e2 : ((do let _ ← ringClearP 3; pure (0, false) : Prog (Int × Bool)).solo l).2 = wordPut l 3 (g + ws.length) := by simp [ringClearP, h.put]
  rw [e2]
  have hlow := h.low
  exact Ring.start (by rw [wordPut_length]; exact h.len) (by omega) (get_put (by rw [h.len]; omega)) (by rw [get_put_ne (by omega), h.put]) (by omega)
end
end Law08
end Go.Proofs.Ytkmamebaichboaa
