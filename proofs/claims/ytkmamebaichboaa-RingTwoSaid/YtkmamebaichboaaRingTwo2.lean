/- Law 8: RingTwo: what is so at each access of one that puts and one that gets. No Go in it. No conditions but those stated. -/
import Derived.Test.YtkmamebaichboaaRingTwo1
namespace Go.Proofs.Ytkmamebaichboaa
open Go.ChangeShapes Go.WideShapes Go.ChangeAt Go.RowKit
set_option linter.unusedVariables false
set_option linter.unusedSimpArgs false
namespace Law08
open Prog
/-- T words were put, G were got; lp and lg: what the accesses of the call under way have answered. -/
structure Two (c : Int) (ws : List Int) (T G : Nat) (lm lp lg : List Int) : Prop where
  len : lm.length = 30
  got : wordGet lm 3 = G
  put : wordGet lm 4 = T
  le : G ≤ T
  most : (T : Int) ≤ G + c
  all : T ≤ ws.length
  cells : ∀ (i : Nat) (v : Int), G ≤ i → i < T → ws[i]? = some v → wordGet lm (5 + (i : Int) % c) = v
  pp : lp = [] ∨ ∃ t0 : Nat, t0 ≤ G ∧ (lp = [(t0 : Int)] ∨ ((T : Int) < t0 + c ∧ (lp = [(t0 : Int), (T : Int)] ∨ (lp = [(t0 : Int), (T : Int), 0] ∧ ∀ v, ws[T]? = some v → wordGet lm (5 + (T : Int) % c) = v))))
  gp : lg = [] ∨ lg = [(G : Int)] ∨ ∃ p0 : Nat, G < p0 ∧ p0 ≤ T ∧ (lg = [(G : Int), (p0 : Int)] ∨ ∃ v, ws[G]? = some v ∧ lg = [(G : Int), (p0 : Int), v])
theorem Two.start (c : Int) (ws : List Int) (hc : 1 ≤ c) : Two c ws 0 0 (List.replicate 30 0) [] [] :=
  ⟨by simp, get_zeros _ _, get_zeros _ _, Nat.le_refl _, by omega, Nat.zero_le _, fun i v h1 h2 => absurd h2 (Nat.not_lt_zero _), .inl rfl, .inl rfl⟩
theorem Two.newP {c : Int} {ws : List Int} {T G : Nat} {lm lp lg : List Int} (h : Two c ws T G lm lp lg) : Two c ws T G lm [] lg := { h with pp := .inl rfl }
theorem Two.newG {c : Int} {ws : List Int} {T G : Nat} {lm lp lg : List Int} (h : Two c ws T G lm lp lg) : Two c ws T G lm lp [] := { h with gp := .inl rfl }
section
variable {c : Int} {ws : List Int} {T G : Nat} {lm lp lg : List Int} {a : Act} {s : St}
theorem Two.putStep (h : Two c ws T G lm lp lg) (hc : 1 ≤ c ∧ c ≤ 16) (hw : ws.length ≤ 40) (hk : a.kind = 0) (hac : a.c = c) (hv : ws[T]? = some a.v) (hs : ans s = lp) (hm : s.mem = lm) (now : Int) :
    (((actP a).run (s.start now)).2.stop.over = false ∧ Two c ws T G ((actP a).run (s.start now)).2.stop.mem (ans ((actP a).run (s.start now)).2.stop) lg) ∨
    (((actP a).run (s.start now)).2.stop.over = true ∧ ((actP a).run (s.start now)).1.2 = false ∧ Two c ws T G ((actP a).run (s.start now)).2.stop.mem [] lg) ∨
    (((actP a).run (s.start now)).2.stop.over = true ∧ ((actP a).run (s.start now)).1.2 = true ∧ Two c ws (T + 1) G ((actP a).run (s.start now)).2.stop.mem [] lg) := by
  subst hm
  have hT : T < ws.length := (List.getElem?_eq_some_iff.1 hv).1
  have hle := h.le
  have hpl : place 3 c T = 5 + (T : Int) % c := place_small (by omega)
  have hpb := place_bounds 3 c T hc
  rcases h.pp with rfl | ⟨t0, ht, rfl | ⟨hroom, rfl | ⟨rfl, hcell⟩⟩⟩
  · obtain ⟨k, hf⟩ := put_0 hk hac hc
    rw [← hs] at hf
    obtain ⟨g1, g2, _, _, g5⟩ := one_step (actP a) s now hf
    rw [hs] at g1 g5
    have e : (AOp.load 3).eff s.mem = ((G : Int), s.mem) := by show (wordGet s.mem 3, s.mem) = _; rw [h.got]
    rw [e] at g1 g2 g5
    obtain ⟨k', hf'⟩ := put_1 hk hac hc (G : Int)
    exact .inl ⟨g5 _ _ hf', by rw [g1, g2]; exact { h with pp := .inr ⟨G, Nat.le_refl _, .inl rfl⟩ }⟩
  · obtain ⟨k, hf⟩ := put_1 hk hac hc (t0 : Int)
    rw [← hs] at hf
    obtain ⟨g1, g2, _, g4, g5⟩ := one_step (actP a) s now hf
    rw [hs] at g1 g4 g5
    have e : (AOp.load 4).eff s.mem = ((T : Int), s.mem) := by show (wordGet s.mem 4, s.mem) = _; rw [h.put]
    rw [e] at g1 g2 g4 g5
    have e2 : wrap64 ((T : Int) - t0) = (T : Int) - t0 := w64 (by omega)
    by_cases hfull : c ≤ wrap64 ((T : Int) - t0)
    · obtain ⟨h1, h2⟩ := g4 _ (put_full hk hac hc (t0 : Int) (T : Int) hfull)
      exact .inr (.inl ⟨h2, by rw [h1], by rw [g2]; exact h.newP⟩)
    · obtain ⟨k', hf'⟩ := put_2 hk hac hc (t0 : Int) (T : Int) hfull
      rw [e2] at hfull
      exact .inl ⟨g5 _ _ hf', by rw [g1, g2]; exact { h with pp := .inr ⟨t0, ht, .inr ⟨by omega, .inl rfl⟩⟩ }⟩
  · have e2 : wrap64 ((T : Int) - t0) = (T : Int) - t0 := w64 (by omega)
    have hfull : ¬ c ≤ wrap64 ((T : Int) - t0) := by rw [e2]; omega
    obtain ⟨k, hf⟩ := put_2 hk hac hc (t0 : Int) (T : Int) hfull
    rw [← hs] at hf
    obtain ⟨g1, g2, _, _, g5⟩ := one_step (actP a) s now hf
    rw [hs] at g1 g5
    have e : (AOp.store (place 3 c T) a.v).eff s.mem = (0, wordPut s.mem (5 + (T : Int) % c) a.v) := by rw [hpl]; rfl
    rw [e] at g1 g2 g5
    rw [hpl] at hpb
    obtain ⟨k', hf'⟩ := put_3 hk hac hc (t0 : Int) (T : Int) 0 hfull
    clear e2 hfull e hf
    refine .inl ⟨g5 _ _ hf', ?_⟩
    rw [g1, g2]
    dsimp only
    refine ⟨by rw [wordPut_length]; exact h.len, by rw [get_put_ne (by omega)]; exact h.got, by rw [get_put_ne (by omega)]; exact h.put, h.le, h.most, h.all, fun i v h1 h2 h3 => ?_, .inr ⟨t0, ht, .inr ⟨hroom, .inr ⟨rfl, fun v hv2 => ?_⟩⟩⟩, h.gp⟩
    · have hne := emod_ne (a := (i : Int)) (d := (T : Int) - i) (c := c) (by omega) (by omega)
      rw [show (i : Int) + ((T : Int) - i) = T by omega] at hne
      rw [get_put_ne (by omega)]
      exact h.cells i v h1 h2 h3
    · rw [hv] at hv2
      cases hv2
      exact get_put (by rw [h.len]; omega)
  · have e2 : wrap64 ((T : Int) - t0) = (T : Int) - t0 := w64 (by omega)
    have hfull : ¬ c ≤ wrap64 ((T : Int) - t0) := by rw [e2]; omega
    obtain ⟨k, hf⟩ := put_3 hk hac hc (t0 : Int) (T : Int) 0 hfull
    rw [← hs] at hf
    obtain ⟨g1, g2, _, g4, _⟩ := one_step (actP a) s now hf
    rw [hs] at g1 g4
    have e3 : wrap64 ((T : Int) + 1) = ((T + 1 : Nat) : Int) := by rw [w64 (by omega)]; omega
    have e : (AOp.store 4 (wrap64 ((T : Int) + 1))).eff s.mem = (0, wordPut s.mem 4 ((T + 1 : Nat) : Int)) := by rw [e3]; rfl
    rw [e] at g1 g2 g4
    obtain ⟨h1, h2⟩ := g4 _ (put_4 hk hac hc (t0 : Int) (T : Int) 0 0 hfull)
    clear e2 e3 e hfull g4 hf
    refine .inr (.inr ⟨h2, by rw [h1], ?_⟩)
    rw [g2]
    dsimp only
    have hb : ∀ i : Nat, 0 ≤ (i : Int) % c := fun i => Int.emod_nonneg _ (by omega)
    refine ⟨by rw [wordPut_length]; exact h.len, by rw [get_put_ne (by omega)]; exact h.got, get_put (by rw [h.len]; omega), by omega, by omega, hT, fun i v h3 h4 h5 => ?_, .inl rfl, ?_⟩
    · have := hb i
      rw [get_put_ne (by omega)]
      by_cases hi : i < T
      · exact h.cells i v h3 hi h5
      · have : i = T := by omega
        subst this
        exact hcell v h5
    · rcases h.gp with h3 | h3 | ⟨p0, h4, h5, h6⟩
      · exact .inl h3
      · exact .inr (.inl h3)
      · exact .inr (.inr ⟨p0, h4, by omega, h6⟩)
theorem Two.getStep (h : Two c ws T G lm lp lg) (hc : 1 ≤ c ∧ c ≤ 16) (hw : ws.length ≤ 40) (hk : a.kind = 1) (hac : a.c = c) (hs : ans s = lg) (hm : s.mem = lm) (now : Int) :
    (((actP a).run (s.start now)).2.stop.over = false ∧ Two c ws T G ((actP a).run (s.start now)).2.stop.mem lp (ans ((actP a).run (s.start now)).2.stop)) ∨
    (((actP a).run (s.start now)).2.stop.over = true ∧ ((actP a).run (s.start now)).1.2 = false ∧ Two c ws T G ((actP a).run (s.start now)).2.stop.mem lp []) ∨
    (((actP a).run (s.start now)).2.stop.over = true ∧ ((actP a).run (s.start now)).1.2 = true ∧ ws[G]? = some ((actP a).run (s.start now)).1.1 ∧ G < T ∧ Two c ws T (G + 1) ((actP a).run (s.start now)).2.stop.mem lp []) := by
  subst hm
  have hall := h.all
  have hle := h.le
  have hpl : place 3 c G = 5 + (G : Int) % c := place_small (by omega)
  rcases h.gp with rfl | rfl | ⟨p0, hp1, hp2, rfl | ⟨v, hv, rfl⟩⟩
  · obtain ⟨k, hf⟩ := get_0 hk hac hc
    rw [← hs] at hf
    obtain ⟨g1, g2, _, _, g5⟩ := one_step (actP a) s now hf
    rw [hs] at g1 g5
    have e : (AOp.load 3).eff s.mem = ((G : Int), s.mem) := by show (wordGet s.mem 3, s.mem) = _; rw [h.got]
    rw [e] at g1 g2 g5
    obtain ⟨k', hf'⟩ := get_1 hk hac hc (G : Int)
    exact .inl ⟨g5 _ _ hf', by rw [g1, g2]; exact { h with gp := .inr (.inl rfl) }⟩
  · obtain ⟨k, hf⟩ := get_1 hk hac hc (G : Int)
    rw [← hs] at hf
    obtain ⟨g1, g2, _, g4, g5⟩ := one_step (actP a) s now hf
    rw [hs] at g1 g4 g5
    have e : (AOp.load 4).eff s.mem = ((T : Int), s.mem) := by show (wordGet s.mem 4, s.mem) = _; rw [h.put]
    rw [e] at g1 g2 g4 g5
    by_cases he : T = G
    · subst he
      obtain ⟨h1, h2⟩ := g4 _ (get_no hk hac hc (T : Int))
      exact .inr (.inl ⟨h2, by rw [h1], by rw [g2]; exact h.newG⟩)
    · obtain ⟨k', hf'⟩ := get_2 hk hac hc (G : Int) (T : Int) (by omega)
      exact .inl ⟨g5 _ _ hf', by rw [g1, g2]; exact { h with gp := .inr (.inr ⟨T, by omega, Nat.le_refl _, .inl rfl⟩) }⟩
  · obtain ⟨v, hv⟩ : ∃ v, ws[G]? = some v := ⟨_, List.getElem?_eq_getElem (show G < ws.length by omega)⟩
    obtain ⟨k, hf⟩ := get_2 hk hac hc (G : Int) (p0 : Int) (by omega)
    rw [← hs] at hf
    obtain ⟨g1, g2, _, _, g5⟩ := one_step (actP a) s now hf
    rw [hs] at g1 g5
    have e : (AOp.load (place 3 c G)).eff s.mem = (v, s.mem) := by show (wordGet s.mem (place 3 c G), s.mem) = _; rw [hpl, h.cells G v (Nat.le_refl _) (by omega) hv]
    rw [e] at g1 g2 g5
    obtain ⟨k', hf'⟩ := get_3 hk hac hc (G : Int) (p0 : Int) v (by omega)
    exact .inl ⟨g5 _ _ hf', by rw [g1, g2]; exact { h with gp := .inr (.inr ⟨p0, hp1, hp2, .inr ⟨v, hv, rfl⟩⟩) }⟩
  · have hne : ¬ ((p0 : Int) = (G : Int)) := by omega
    obtain ⟨k, hf⟩ := get_3 hk hac hc (G : Int) (p0 : Int) v hne
    rw [← hs] at hf
    obtain ⟨g1, g2, _, g4, _⟩ := one_step (actP a) s now hf
    rw [hs] at g1 g4
    have e3 : wrap64 ((G : Int) + 1) = ((G + 1 : Nat) : Int) := by rw [w64 (by omega)]; omega
    have e : (AOp.store 3 (wrap64 ((G : Int) + 1))).eff s.mem = (0, wordPut s.mem 3 ((G + 1 : Nat) : Int)) := by rw [e3]; rfl
    rw [e] at g1 g2 g4
    obtain ⟨h1, h2⟩ := g4 _ (get_4 hk hac hc (G : Int) (p0 : Int) v 0 hne)
    clear e3 e g4 hf
    refine .inr (.inr ⟨h2, by rw [h1], by rw [h1]; exact hv, by omega, ?_⟩)
    rw [g2]
    dsimp only
    have hb : ∀ i : Nat, 0 ≤ (i : Int) % c := fun i => Int.emod_nonneg _ (by omega)
    refine ⟨by rw [wordPut_length]; exact h.len, get_put (by rw [h.len]; omega), by rw [get_put_ne (by omega)]; exact h.put, by omega, by have := h.most; omega, h.all, fun i u h3 h4 h5 => ?_, ?_, .inl rfl⟩
    · have := hb i
      rw [get_put_ne (by omega)]
      exact h.cells i u (by omega) h4 h5
    · rcases h.pp with h3 | ⟨t0, h4, h5 | ⟨h6, h7 | ⟨h8, h9⟩⟩⟩
      · exact .inl h3
      · exact .inr ⟨t0, by omega, .inl h5⟩
      · exact .inr ⟨t0, by omega, .inr ⟨h6, .inl h7⟩⟩
      · refine .inr ⟨t0, by omega, .inr ⟨h6, .inr ⟨h8, fun u hu => ?_⟩⟩⟩
        have := hb T
        rw [get_put_ne (by omega)]
        exact h9 u hu
end
end Law08
end Go.Proofs.Ytkmamebaichboaa
