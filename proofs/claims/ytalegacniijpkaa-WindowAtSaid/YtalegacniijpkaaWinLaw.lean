/- Windows: the plain law. No Go in it. No conditions but those stated. -/
import Derived.Test.YtalegacniijpkaaBase
namespace Go.Proofs.Ytalegacniijpkaa
set_option linter.unusedVariables false
set_option linter.unusedSimpArgs false
namespace Win
/-- A window: whose, and how many ticks. -/
abbrev Wn := Int × Int
def wAt (l : List Wn) (i : Nat) : Wn := l.getD i (0, 0)
def lng (x : Wn) : Int := max x.2 1
def las (l : List Wn) (i : Nat) : Int := lng (wAt l i)
theorem las_pos (l : List Wn) (i : Nat) : 1 ≤ las l i := by unfold las lng; omega
def tickOut (l : List Wn) (s : Nat × Int) : Int × Bool := if l = [] then (0, false) else if s.2 + 1 < las l s.1 then (0, false) else ((wAt l s.1).1, true)
def tick (l : List Wn) (s : Nat × Int) : Nat × Int := if l = [] then s else if s.2 + 1 < las l s.1 then (s.1, s.2 + 1) else ((s.1 + 1) % l.length, 0)
/-- What always holds of a turn. -/
def Fine (l : List Wn) (s : Nat × Int) : Prop := (l = [] → s = (0, 0)) ∧ (l ≠ [] → s.1 < l.length ∧ 0 ≤ s.2 ∧ s.2 < las l s.1)
theorem fine_start (l : List Wn) : Fine l (0, 0) := ⟨fun _ => rfl, fun h => ⟨by cases l; exact absurd rfl h; simp, by simp, by have := las_pos l 0; simp; omega⟩⟩
theorem fine_tick (l : List Wn) (s : Nat × Int) (h : Fine l s) : Fine l (tick l s) := by
  refine ⟨fun e => ?_, fun e => ?_⟩
  · rw [show tick l s = s from if_pos e]; exact h.1 e
  · obtain ⟨h1, h2, h3⟩ := h.2 e
    unfold tick
    rw [if_neg e]
    split
    · exact ⟨h1, by simp; omega, by assumption⟩
    · have hp : 0 < l.length := by omega
      exact ⟨Nat.mod_lt _ hp, by simp, by have := las_pos l ((s.1 + 1) % l.length); simp; omega⟩
def run (l : List Wn) : Nat → Nat × Int
  | 0 => (0, 0)
  | k + 1 => tick l (run l k)
theorem fine_run (l : List Wn) (k : Nat) : Fine l (run l k) := by
  induction k with
  | zero => exact fine_start l
  | succ k ih => exact fine_tick l _ ih
/-- How many windows ended in so many ticks. -/
def ends (l : List Wn) : Nat → Nat
  | 0 => 0
  | k + 1 => ends l k + (if (tickOut l (run l k)).2 then 1 else 0)
/-- How many ticks so many windows last, again and again. -/
def cum (l : List Wn) : Nat → Int
  | 0 => 0
  | e + 1 => cum l e + las l (e % l.length)
theorem cum_lt (l : List Wn) (a b : Nat) (h : a < b) : cum l a + las l (a % l.length) ≤ cum l b := by
  induction b with
  | zero => omega
  | succ b ih =>
    by_cases e : a = b
    · subst e; exact Int.le_refl _
    · have := ih (by omega)
      have h2 := las_pos l (b % l.length)
      show _ ≤ cum l b + las l (b % l.length)
      omega
theorem cum_inj (l : List Wn) (a b : Nat) (g g' : Int) (h : cum l a + g = cum l b + g') (h1 : 0 ≤ g) (h2 : g < las l (a % l.length)) (h3 : 0 ≤ g') (h4 : g' < las l (b % l.length)) : a = b ∧ g = g' := by
  have hab : a = b := by
    rcases Nat.lt_trichotomy a b with q | q | q
    · have := cum_lt l a b q; omega
    · exact q
    · have := cum_lt l b a q; omega
  subst hab
  exact ⟨rfl, by omega⟩
theorem cum_turn (l : List Wn) (e : Nat) : cum l (e + l.length) = cum l e + cum l l.length := by
  induction e with
  | zero => simp [cum]
  | succ e ih =>
    rw [show e + 1 + l.length = (e + l.length) + 1 from by omega]
    show cum l (e + l.length) + las l ((e + l.length) % l.length) = cum l e + las l (e % l.length) + cum l l.length
    rw [ih, Nat.add_mod_right]
    omega
theorem cum_turns (l : List Wn) (e f : Nat) : cum l (e + l.length * f) = cum l e + cum l l.length * f := by
  induction f with
  | zero => simp
  | succ f ih =>
    rw [show e + l.length * (f + 1) = (e + l.length * f) + l.length from by rw [Nat.mul_succ]; omega, cum_turn, ih]
    have : cum l l.length * ((f + 1 : Nat) : Int) = cum l l.length * f + cum l l.length := by rw [Int.natCast_succ, Int.mul_add, Int.mul_one]
    omega
theorem run_cum (l : List Wn) (hl : l ≠ []) (k : Nat) : run l k = (ends l k % l.length, (run l k).2) ∧ (k : Int) = cum l (ends l k) + (run l k).2 := by
  induction k with
  | zero => exact ⟨by simp [run, ends], by simp [run, ends, cum]⟩
  | succ k ih =>
    obtain ⟨h1, h2⟩ := ih
    have hf := (fine_run l k).2 hl
    have hi : (run l k).1 = ends l k % l.length := by rw [h1]
    by_cases hlt : (run l k).2 + 1 < las l (run l k).1
    · have ho : ends l (k + 1) = ends l k := by simp [ends, tickOut, hl, hlt]
      have hr : run l (k + 1) = ((run l k).1, (run l k).2 + 1) := by simp [run, tick, hl, hlt]
      rw [ho, hr]
      exact ⟨by rw [hi], by simp; omega⟩
    · have ho : ends l (k + 1) = ends l k + 1 := by simp [ends, tickOut, hl, hlt]
      have hr : run l (k + 1) = (((run l k).1 + 1) % l.length, 0) := by simp [run, tick, hl, hlt]
      rw [ho, hr]
      refine ⟨by rw [hi]; simp [Nat.add_mod], ?_⟩
      show ((k + 1 : Nat) : Int) = cum l (ends l k) + las l (ends l k % l.length) + 0
      rw [← hi]
      omega
/-- Behind as many ticks as all windows last, some times, it is the same again. -/
theorem frames (l : List Wn) (hl : l ≠ []) (a f k : Nat) (hk : (k : Int) = cum l l.length * f) : run l (a + k) = run l a ∧ ends l (a + k) = ends l a + l.length * f := by
  obtain ⟨a1, a2⟩ := run_cum l hl a
  obtain ⟨b1, b2⟩ := run_cum l hl (a + k)
  have fa := (fine_run l a).2 hl
  have fb := (fine_run l (a + k)).2 hl
  have ha : (run l a).1 = ends l a % l.length := by rw [a1]
  have hb : (run l (a + k)).1 = ends l (a + k) % l.length := by rw [b1]
  have hc := cum_turns l (ends l a) f
  have hm : (ends l a + l.length * f) % l.length = ends l a % l.length := by simp [Nat.add_mod]
  have := cum_inj l (ends l (a + k)) (ends l a + l.length * f) (run l (a + k)).2 (run l a).2 (by rw [hc]; omega) fb.2.1 (by rw [← hb]; exact fb.2.2) fa.2.1 (by rw [hm, ← ha]; exact fa.2.2)
  refine ⟨?_, this.1⟩
  rw [b1, a1, this.1, this.2, hm]
/-- The sum over the first so many windows. -/
def pre (l : List Wn) (i : Nat) : Int := ((l.take i).map lng).sum
theorem pre_succ (l : List Wn) (i : Nat) (h : i < l.length) : pre l (i + 1) = pre l i + las l i := by
  unfold pre las wAt
  rw [List.take_succ_eq_append_getElem h, List.map_append, List.sum_append]
  simp [h]
theorem pre_cum (l : List Wn) (i : Nat) (h : i ≤ l.length) : pre l i = cum l i := by
  induction i with
  | zero => simp [pre, cum]
  | succ i ih => rw [pre_succ l i (by omega), ih (by omega), cum, Nat.mod_eq_of_lt (by omega)]
theorem pre_le (l : List Wn) (i : Nat) (h : i ≤ l.length) : 0 ≤ pre l i ∧ pre l i ≤ pre l l.length := by
  refine ⟨?_, ?_⟩
  · induction i with
    | zero => simp [pre]
    | succ i ih => have := ih (by omega); have h2 := las_pos l i; rw [pre_succ l i (by omega)]; omega
  · rw [pre_cum l i h, pre_cum l _ (Nat.le_refl _)]
    rcases Nat.lt_or_ge i l.length with q | q
    · have := cum_lt l i l.length q; have h2 := las_pos l (i % l.length); omega
    · rw [show i = l.length from by omega]; exact Int.le_refl _
theorem pre_most (l : List Wn) (m : Int) (hm : 1 ≤ m) (hl : ∀ i, i < l.length → (wAt l i).2 ≤ m) (i : Nat) (h : i ≤ l.length) : pre l i ≤ m * i := by
  induction i with
  | zero => simp [pre]
  | succ i ih =>
    have h1 := ih (by omega)
    have h2 := hl i (by omega)
    rw [pre_succ l i (by omega)]
    have h3 : las l i ≤ m := by unfold las lng; omega
    have : m * ((i + 1 : Nat) : Int) = m * i + m := by rw [Int.natCast_succ, Int.mul_add, Int.mul_one]
    omega
/-- The window that is told of behind so many ticks: the first whose end is behind them. -/
def At (l : List Wn) (t : Int) (i : Nat) (g : Int) : Prop := i < l.length ∧ t = pre l i + g ∧ 0 ≤ g ∧ g < las l i
theorem at_run (l : List Wn) (hl : l ≠ []) (n : Nat) (t : Int) (ht : t = (n : Int) % pre l l.length) (i : Nat) (g : Int) (h : At l t i g) : run l n = (i, g) := by
  obtain ⟨h1, h2, h3, h4⟩ := h
  obtain ⟨b1, b2⟩ := run_cum l hl n
  have fb := (fine_run l n).2 hl
  have hb : (run l n).1 = ends l n % l.length := by rw [b1]
  have hpl := pre_cum l l.length (Nat.le_refl _)
  have hpi := pre_cum l i (by omega)
  have hdm := Int.emod_add_mul_ediv (n : Int) (pre l l.length)
  have hpos : 0 < pre l l.length := by
    have := pre_succ l 0 (by omega); have h5 := las_pos l 0; have h6 := (pre_le l 1 (by omega)).2; simp [pre] at this; simp [pre] at h6 ⊢; omega
  obtain ⟨q, hq⟩ : ∃ q : Nat, (n : Int) / pre l l.length = q := ⟨((n : Int) / pre l l.length).toNat, by have := Int.ediv_nonneg (a := (n : Int)) (b := pre l l.length) (by omega) (by omega); omega⟩
  have hc := cum_turns l i q
  have hm : (i + l.length * q) % l.length = i := by rw [Nat.add_mul_mod_self_left, Nat.mod_eq_of_lt h1]
  rw [hq, ← ht] at hdm
  have := cum_inj l (ends l n) (i + l.length * q) (run l n).2 g (by rw [hc, ← hpl, ← hpi]; omega) fb.2.1 (by rw [← hb]; exact fb.2.2) h3 (by rw [hm]; exact h4)
  rw [b1, this.1, this.2, hm]
theorem at_one (l : List Wn) (t : Int) (i j : Nat) (g h : Int) (a : At l t i g) (b : At l t j h) : i = j ∧ g = h := by
  obtain ⟨a1, a2, a3, a4⟩ := a
  obtain ⟨b1, b2, b3, b4⟩ := b
  have hi := pre_cum l i (by omega)
  have hj := pre_cum l j (by omega)
  refine cum_inj l i j g h (by rw [← hi, ← hj]; omega) a3 ?_ b3 ?_
  · rw [Nat.mod_eq_of_lt a1]; exact a4
  · rw [Nat.mod_eq_of_lt b1]; exact b4
end Win
end Go.Proofs.Ytalegacniijpkaa
