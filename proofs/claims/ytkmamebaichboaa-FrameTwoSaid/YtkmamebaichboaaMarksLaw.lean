/- Law 2: the marks: the plain law. No Go in it. No conditions but those stated. -/
import Derived.Test.YtkmamebaichboaaPlainLaw
namespace Go.Proofs.Ytkmamebaichboaa
open Go.ChangeShapes Go.WideShapes Go.ChangeAt Go.RowKit
set_option linter.unusedVariables false
set_option linter.unusedSimpArgs false
namespace Law02
open Prog
/-- A state at the p-th answer, with the marks of the plain accesses. -/
def at_ (s : St) (p : Pl) : St := { s with pos := p.n, mark := if p.has then p.mark else 0, marked := p.has }
/-- Whatever is run anew over this log comes to the plain accesses' place. -/
def Replay (l : List Ins) (log : List (Int × Int)) (p : Pl) : Prop :=
  log.length = p.n ∧ ∀ (s : St) (rest : List (Int × Int)), s.log = log ++ rest → s.pos = 0 → s.off = false → s.mark = 0 → s.marked = false →
    (bodyP l false 0 []).run s = (bodyP (l.drop p.i) false p.last p.got).run (at_ s p)
theorem Replay.new (l : List Ins) : Replay l [] Pl.new := by
  refine ⟨rfl, fun s rest _ h1 _ h2 h3 => ?_⟩
  have : at_ s Pl.new = s := by
    cases s
    simp only at h1 h2 h3
    subst h1; subst h2; subst h3
    rfl
  rw [this]
  rfl
/-- An answer that stands in the log. -/
theorem ins_again {x : Ins} {last r t : Int} {s : St} {m : List Int} (ho : s.off = false) (hp : s.pos < s.log.length) (hl : s.log.getD s.pos (0, 0) = (r, t)) (hr : r = ((insOp x last).eff m).1) : (insP x last).run s = (r, { s with pos := s.pos + 1 }) := by
  have ha : s.again = (some r, { s with pos := s.pos + 1 }) := by unfold St.again; rw [ho, if_neg (by simp), if_pos hp, hl]
  unfold insP
  unfold insOp at hr
  by_cases h0 : x.kind = 0
  · rw [if_pos h0]
    simp only [r_ld]
    unfold St.load
    rw [ha]
  · rw [if_neg h0]
    rw [if_neg h0] at hr
    by_cases h1 : x.kind = 1
    · rw [if_pos h1]
      rw [if_pos h1] at hr
      simp only [r_bind, r_st, r_pure]
      unfold St.store
      rw [ha]
      have : r = 0 := hr
      rw [this]
    · rw [if_neg h1]
      rw [if_neg h1] at hr
      by_cases h2 : x.kind = 2
      · rw [if_pos h2]
        simp only [r_ad]
        unfold St.add
        rw [ha]
      · rw [if_neg h2]
        rw [if_neg h2] at hr
        simp only [r_bind, r_sw, r_pure]
        unfold St.swap
        rw [ha]
        have : r = b2i (swapOk m x.a x.w) := hr
        rw [this]
        cases swapOk m x.a x.w <;> rfl
/-- One access more: where it stands in the log. -/
theorem Replay.step {l : List Ins} {log : List (Int × Int)} {p : Pl} {m : List Int} (h : Replay l log p) {x : Ins} (hx : l[p.i]? = some x) (now : Int) :
    Replay l (log ++ [(((insOp x p.last).eff m).1, now)]) (p.next x ((insOp x p.last).eff m).1 now) := by
  obtain ⟨hn, hr⟩ := h
  refine ⟨by simp [hn, Pl.next], fun s rest hs h1 h2 h3 h4 => ?_⟩
  rw [hr s ((((insOp x p.last).eff m).1, now) :: rest) (by rw [hs]; simp) h1 h2 h3 h4]
  have hlog : (at_ s p).log = log ++ (((insOp x p.last).eff m).1, now) :: rest := by show s.log = _; rw [hs]; simp
  have hget : (at_ s p).log.getD (at_ s p).pos (0, 0) = (((insOp x p.last).eff m).1, now) := by
    rw [hlog]
    show (log ++ _).getD p.n (0, 0) = _
    rw [← hn]
    simp [List.getD]
  have hlt : (at_ s p).pos < (at_ s p).log.length := by
    rw [hlog]
    show p.n < _
    simp [hn]
  rw [body_run l p.i x hx p.last p.got (at_ s p), ins_again (m := m) (s := at_ s p) h2 hlt hget rfl]
  have e : (if x.mark then St.markIt { at_ s p with pos := (at_ s p).pos + 1 } else { at_ s p with pos := (at_ s p).pos + 1 }) = at_ s (p.next x ((insOp x p.last).eff m).1 now) := by
    cases hm : x.mark with
    | false => simp [at_, Pl.next, hm]
    | true =>
      have hoff : ({ at_ s p with pos := (at_ s p).pos + 1 } : St).off = false := h2
      have hg : ({ at_ s p with pos := (at_ s p).pos + 1 } : St).log.getD (({ at_ s p with pos := (at_ s p).pos + 1 } : St).pos - 1) (0, 0) = (((insOp x p.last).eff m).1, now) := hget
      unfold St.markIt
      simp only [hoff, hg, if_true]
      simp [at_, Pl.next, hm, h2]
  show (bodyP _ false _ _).run (if x.mark then _ else _) = _
  rw [e]
  rfl
/-- The access that is done now. -/
theorem ins_fresh {x : Ins} {last : Int} {s : St} (ho : s.off = false) (hp : s.pos = s.log.length) (hf : s.fresh = true) : (insP x last).run s = (((insOp x last).eff s.mem).1, { s with fresh := false, log := s.log ++ [(((insOp x last).eff s.mem).1, s.now)], pos := s.pos + 1, mem := ((insOp x last).eff s.mem).2 }) := by
  have ha : s.again = (none, s) := by unfold St.again; rw [ho, if_neg (by simp), if_neg (by omega), if_pos hf]
  unfold insP insOp
  by_cases h0 : x.kind = 0
  · rw [if_pos h0, if_pos h0]
    simp only [r_ld]
    unfold St.load
    rw [ha]
    rfl
  · rw [if_neg h0, if_neg h0]
    by_cases h1 : x.kind = 1
    · rw [if_pos h1, if_pos h1]
      simp only [r_bind, r_st, r_pure]
      unfold St.store
      rw [ha]
      rfl
    · rw [if_neg h1, if_neg h1]
      by_cases h2 : x.kind = 2
      · rw [if_pos h2, if_pos h2]
        simp only [r_ad]
        unfold St.add
        rw [ha]
        rfl
      · rw [if_neg h2, if_neg h2]
        simp only [r_bind, r_sw, r_pure]
        unfold St.swap
        rw [ha]
        refine Prod.ext ?_ rfl
        show (if swapOk s.mem x.a x.w = true then (1 : Int) else 0) = b2i (swapOk s.mem x.a x.w)
        cases swapOk s.mem x.a x.w <;> rfl
/-- What the frame tells of marks when the body is done. -/
theorem marks_end {l : List Ins} {q : Pr × St} {p : Pl} {m : List Int} (hr : Rel l q p m) (h : Replay l q.2.log p) (ho : q.2.over = false) (now : Int) (hend : l.length ≤ (plStep l now p m).1.i) :
    (stepP (pB l) now q).2.marked = (plStep l now p m).1.has ∧ ((plStep l now p m).1.has = true → (stepP (pB l) now q).2.mark = (plStep l now p m).1.mark) := by
  rw [stepP_go (B := pB l) (now := now) (q := q) ho]
  have hrun := h.2 (q.2.start now) [] (by show q.2.log = _; simp) rfl rfl rfl rfl
  show ((bodyP l false 0 []).run (q.2.start now)).2.stop.marked = _ ∧ (_ → ((bodyP l false 0 []).run (q.2.start now)).2.stop.mark = _)
  rw [hrun]
  by_cases hi : p.i < l.length
  · obtain ⟨x, hx⟩ : ∃ x, l[p.i]? = some x := ⟨_, List.getElem?_eq_getElem hi⟩
    have hpl : plStep l now p m = (p.next x ((insOp x p.last).eff m).1 now, ((insOp x p.last).eff m).2) := by unfold plStep; rw [hx]
    rw [hpl] at hend ⊢
    have hend' : l.length ≤ p.i + 1 + (if x.skip && isOdd p.last then 1 else 0) := hend
    rw [body_run l p.i x hx p.last p.got (at_ (q.2.start now) p), ins_fresh (s := at_ (q.2.start now) p) rfl (by show p.n = q.2.log.length; rw [hr.len]) rfl, body_end l _ hend']
    have hmem : (at_ (q.2.start now) p).mem = m := hr.mem
    have hlog : (at_ (q.2.start now) p).log = q.2.log := rfl
    have hnow : (at_ (q.2.start now) p).now = now := rfl
    cases hm : x.mark with
    | false =>
      simp only [hm, Bool.false_eq_true, if_false]
      simp only [St.stop, at_, Pl.next, hm, Bool.or_false, Bool.false_eq_true, if_false]
      exact ⟨trivial, fun hh => by rw [if_pos hh]⟩
    | true =>
      simp only [hm, if_true]
      have hg : (q.2.log ++ [(((insOp x p.last).eff m).1, now)]).getD p.n (0, 0) = (((insOp x p.last).eff m).1, now) := by
        rw [← hr.len]
        simp [List.getD]
      rw [List.getD_eq_getElem?_getD] at hg
      unfold St.markIt
      simp only [hlog, hnow, hmem]
      simp [at_, St.stop, St.start, Pl.next, hm, hg]
  · rw [plStep_end (by omega), body_end l p.i (by omega)]
    simp only [St.stop, at_]
    exact ⟨trivial, fun hh => by rw [if_pos hh]⟩
end Law02
end Go.Proofs.Ytkmamebaichboaa
