/- Law 2: the accesses done one by one: the plain law. No Go in it. No conditions but those stated. -/
import Derived.Test.YtkmamebaichboaaBodyLaw
namespace Go.Proofs.Ytkmamebaichboaa
open Go.ChangeShapes Go.WideShapes Go.ChangeAt Go.RowKit
set_option linter.unusedVariables false
set_option linter.unusedSimpArgs false
namespace Law02
open Prog
structure Pl where
  i : Nat
  last : Int
  got : List Int
  n : Nat
  mark : Int
  has : Bool
def Pl.new : Pl := ⟨0, 0, [], 0, 0, false⟩
def insOp (x : Ins) (last : Int) : AOp :=
  if x.kind = 0 then .load x.a else if x.kind = 1 then .store x.a (insVal x last) else if x.kind = 2 then .add x.a (insVal x last) else .swap x.a x.w (insVal x last)
def Pl.next (p : Pl) (x : Ins) (r now : Int) : Pl :=
  ⟨p.i + 1 + (if x.skip && isOdd p.last then 1 else 0), r, p.got ++ [r], p.n + 1, if x.mark then now else p.mark, p.has || x.mark⟩
/-- One access, at a time. -/
def plStep (l : List Ins) (now : Int) (p : Pl) (m : List Int) : Pl × List Int :=
  match l[p.i]? with
  | none => (p, m)
  | some x => (p.next x ((insOp x p.last).eff m).1 now, ((insOp x p.last).eff m).2)
theorem body_feed (l : List Ins) (i : Nat) (x : Ins) (hx : l[i]? = some x) (last : Int) (got : List Int) (m : List Int) :
    ∃ k, (bodyP (l.drop i) false last got).feed [] = .acc (insOp x last) k ∧ (k ((insOp x last).eff m).1).feed [] = (bodyP (l.drop (i + 1 + (if x.skip && isOdd last then 1 else 0))) false ((insOp x last).eff m).1 (got ++ [((insOp x last).eff m).1])).feed [] := by
  have hi : i < l.length := (List.getElem?_eq_some_iff.1 hx).1
  have e : l.drop i = x :: l.drop (i + 1) := by
    rw [List.drop_eq_getElem_cons hi]
    congr 1
    rw [List.getElem?_eq_getElem hi] at hx
    exact Option.some.inj hx
  rw [e]
  have sk : ∀ r g, bodyP (l.drop (i + 1)) (x.skip && isOdd last) r g = bodyP (l.drop (i + 1 + (if x.skip && isOdd last then 1 else 0))) false r g := by
    intro r g
    cases x.skip && isOdd last with
    | true => rw [body_skip, List.drop_drop]; rfl
    | false => rfl
  obtain ⟨C, hC⟩ : ∃ C : Int → Prog (List Int × Int), ∀ r, C r = (if x.mark then (do markIt; bodyP (l.drop (i + 1)) (x.skip && isOdd last) r (got ++ [r])) else bodyP (l.drop (i + 1)) (x.skip && isOdd last) r (got ++ [r])) := ⟨_, fun _ => rfl⟩
  have hCf : ∀ r, (C r).feed [] = (bodyP (l.drop (i + 1 + (if x.skip && isOdd last then 1 else 0))) false r (got ++ [r])).feed [] := by
    intro r
    rw [hC, ← sk]
    cases x.mark <;> rfl
  have hb : bodyP (x :: l.drop (i + 1)) false last got = (insP x last >>= C) := by
    show (do let r ← insP x last; _ : Prog _) = _
    congr 1
    funext r
    rw [hC]
  rw [hb]
  unfold insP insOp
  by_cases h0 : x.kind = 0
  · rw [if_pos h0, if_pos h0]
    exact ⟨C, rfl, hCf _⟩
  · rw [if_neg h0, if_neg h0]
    by_cases h1 : x.kind = 1
    · rw [if_pos h1, if_pos h1]
      exact ⟨fun _ => C 0, rfl, hCf _⟩
    · rw [if_neg h1, if_neg h1]
      by_cases h2 : x.kind = 2
      · rw [if_pos h2, if_pos h2]
        exact ⟨C, rfl, hCf _⟩
      · rw [if_neg h2, if_neg h2]
        refine ⟨fun v => C (if v == 1 then 1 else 0), rfl, ?_⟩
        show (C _).feed [] = _
        have : (if (AOp.eff (.swap x.a x.w (insVal x last)) m).1 == 1 then (1 : Int) else 0) = (AOp.eff (.swap x.a x.w (insVal x last)) m).1 := by
          show (if b2i (swapOk m x.a x.w) == 1 then (1 : Int) else 0) = b2i (swapOk m x.a x.w)
          cases swapOk m x.a x.w <;> rfl
        rw [this]
        exact hCf _
theorem body_ret (l : List Ins) (i : Nat) (hi : l.length ≤ i) (last : Int) (got : List Int) : (bodyP (l.drop i) false last got).feed [] = .ret (got, last) := by
  rw [List.drop_eq_nil_of_le hi]
  rfl
/-- The frame's body, and the accesses done one by one. -/
structure Rel (l : List Ins) (q : Pr × St) (p : Pl) (m : List Int) : Prop where
  feed : (bodyP l false 0 []).feed (ans q.2) = (bodyP (l.drop p.i) false p.last p.got).feed []
  mem : q.2.mem = m
  len : q.2.log.length = p.n
  over : q.2.over = true → l.length ≤ p.i ∧ q.1.got = p.got
  go : q.2.over = false → p.n = 0 ∨ p.i < l.length
  small : p.n ≤ p.i
theorem Rel.new (l : List Ins) (m : List Int) : Rel l (⟨[], 0⟩, St.new m) Pl.new m :=
  ⟨rfl, rfl, rfl, (fun h => by cases h), fun _ => .inl rfl, Nat.le_refl _⟩
theorem Rel.step {l : List Ins} {q : Pr × St} {p : Pl} {m : List Int} (h : Rel l q p m) (ho : q.2.over = false) (now : Int) :
    Rel l (stepP (pB l) now q) (plStep l now p m).1 (plStep l now p m).2 ∧ ((stepP (pB l) now q).2.over = decide (l.length ≤ (plStep l now p m).1.i)) := by
  rw [stepP_go (B := pB l) (now := now) (q := q) ho]
  by_cases hi : p.i < l.length
  · obtain ⟨x, hx⟩ : ∃ x, l[p.i]? = some x := ⟨l[p.i], List.getElem?_eq_getElem hi⟩
    have hpl : plStep l now p m = (p.next x ((insOp x p.last).eff m).1 now, ((insOp x p.last).eff m).2) := by unfold plStep; rw [hx]
    obtain ⟨k, hk1, hk2⟩ := body_feed l p.i x hx p.last p.got m
    have hf := h.feed
    rw [hk1] at hf
    obtain ⟨g1, g2, g3⟩ := step_acc (bodyP l false 0 []) q.2 now hf
    rw [h.mem] at g1 g2 g3
    rw [hk2] at g3
    have hans : ans ((bodyP l false 0 []).run (q.2.start now)).2.stop = ans q.2 ++ [((insOp x p.last).eff m).1] := by simp only [ans, g1]; simp
    have hover : ((bodyP l false 0 []).run (q.2.start now)).2.stop.over = decide (l.length ≤ (p.next x ((insOp x p.last).eff m).1 now).i) ∧ (((bodyP l false 0 []).run (q.2.start now)).2.stop.over = true → ((bodyP l false 0 []).run (q.2.start now)).1.1 = p.got ++ [((insOp x p.last).eff m).1]) := by
      by_cases hn : l.length ≤ p.i + 1 + (if x.skip && isOdd p.last then 1 else 0)
      · rw [body_ret l _ hn] at g3
        simp only at g3
        exact ⟨by rw [g3.2]; exact (decide_eq_true hn).symm, fun _ => by rw [g3.1]⟩
      · obtain ⟨y, hy⟩ : ∃ y, l[p.i + 1 + (if x.skip && isOdd p.last then 1 else 0)]? = some y := ⟨_, List.getElem?_eq_getElem (by omega)⟩
        obtain ⟨k', hk', _⟩ := body_feed l _ y hy ((insOp x p.last).eff m).1 (p.got ++ [((insOp x p.last).eff m).1]) m
        rw [hk'] at g3
        simp only at g3
        refine ⟨by rw [g3]; simp only [Pl.next]; exact (decide_eq_false hn).symm, fun hh => by rw [g3] at hh; cases hh⟩
    rw [hpl]
    refine ⟨⟨?_, g2, ?_, fun hh => ?_, fun hh => .inr ?_, ?_⟩, hover.1⟩
    · show (bodyP l false 0 []).feed (ans ((bodyP l false 0 []).run (q.2.start now)).2.stop) = _
      rw [hans, feed_snoc _ _ _ hf, hk2]
      rfl
    · show ((bodyP l false 0 []).run (q.2.start now)).2.stop.log.length = _
      rw [g1]; simp [h.len, Pl.next]
    · have h1 : ((bodyP l false 0 []).run (q.2.start now)).2.stop.over = true := hh
      refine ⟨?_, hover.2 h1⟩
      rw [hover.1] at h1
      exact of_decide_eq_true h1
    · have h1 : ((bodyP l false 0 []).run (q.2.start now)).2.stop.over = false := hh
      rw [hover.1] at h1
      have := of_decide_eq_false h1
      show (p.next x ((insOp x p.last).eff m).1 now).i < l.length
      omega
    · have := h.small
      show p.n + 1 ≤ p.i + 1 + _
      omega
  · have hn : l[p.i]? = none := List.getElem?_eq_none (by omega)
    have hpl : plStep l now p m = (p, m) := by unfold plStep; rw [hn]
    have hf := h.feed
    rw [body_ret l p.i (by omega)] at hf
    obtain ⟨g1, g2, g3, g4⟩ := Prog.step_ret (bodyP l false 0 []) q.2 now hf
    rw [hpl]
    have hans : ans ((bodyP l false 0 []).run (q.2.start now)).2.stop = ans q.2 := by simp only [ans, g3]
    refine ⟨⟨?_, g4.trans h.mem, ?_, fun _ => ⟨show l.length ≤ p.i by omega, ?_⟩, fun hh => ?_, h.small⟩, ?_⟩
    · show (bodyP l false 0 []).feed (ans ((bodyP l false 0 []).run (q.2.start now)).2.stop) = _
      rw [hans]; exact h.feed
    · show ((bodyP l false 0 []).run (q.2.start now)).2.stop.log.length = _
      rw [g3]; exact h.len
    · show ((bodyP l false 0 []).run (q.2.start now)).1.1 = _
      rw [g1]
    · have h1 : ((bodyP l false 0 []).run (q.2.start now)).2.stop.over = false := hh
      rw [g2] at h1; cases h1
    · show ((bodyP l false 0 []).run (q.2.start now)).2.stop.over = _
      rw [g2]; simp; omega
/-- So many, one by one. -/
def plRun (l : List Ins) : Nat → Pl × List Int → Pl × List Int
  | 0, p => p
  | n + 1, p => plStep l n (plRun l n p).1 (plRun l n p).2
theorem Rel.run {l : List Ins} {m : List Int} : ∀ n : Nat, Rel l (runP (pB l) n (⟨[], 0⟩, St.new m)) (plRun l n (Pl.new, m)).1 (plRun l n (Pl.new, m)).2 ∧ (0 < n → (runP (pB l) n (⟨[], 0⟩, St.new m)).2.over = decide (l.length ≤ (plRun l n (Pl.new, m)).1.i))
  | 0 => ⟨Rel.new l m, fun h => absurd h (Nat.lt_irrefl _)⟩
  | n + 1 => by
    obtain ⟨h1, h2⟩ := Rel.run (l := l) (m := m) n
    show Rel l (stepP (pB l) n (runP (pB l) n (⟨[], 0⟩, St.new m))) (plStep l n _ _).1 (plStep l n _ _).2 ∧ (0 < n + 1 → (stepP (pB l) n (runP (pB l) n (⟨[], 0⟩, St.new m))).2.over = decide (l.length ≤ (plStep l n _ _).1.i))
    by_cases ho : (runP (pB l) n (⟨[], 0⟩, St.new m)).2.over = false
    · obtain ⟨h3, h4⟩ := h1.step ho n
      exact ⟨h3, fun _ => h4⟩
    · have ho' : (runP (pB l) n (⟨[], 0⟩, St.new m)).2.over = true := by simpa using ho
      rw [stepP_over ho']
      have hle := (h1.over ho').1
      have hpl : ∀ now, plStep l now (plRun l n (Pl.new, m)).1 (plRun l n (Pl.new, m)).2 = plRun l n (Pl.new, m) := by
        intro now
        unfold plStep
        rw [List.getElem?_eq_none hle]
      rw [hpl]
      exact ⟨h1, fun _ => by rw [ho']; simp [hle]⟩
theorem plStep_end {l : List Ins} {p : Pl} {m : List Int} (h : l.length ≤ p.i) (now : Int) : plStep l now p m = (p, m) := by
  unfold plStep
  rw [List.getElem?_eq_none h]
end Law02
end Go.Proofs.Ytkmamebaichboaa
