/- Law 7: DeltaLong: the plain law: removal, the end, the rows. No Go in it. No conditions but those stated. -/
import Derived.Test.YtkmamebaichboaaDelta4
namespace Go.Proofs.Ytkmamebaichboaa
open Go.ChangeShapes Go.WideShapes Go.ChangeAt Go.RowKit
set_option linter.unusedVariables false
set_option linter.unusedSimpArgs false
namespace Law07
open LinkL Prog
section
variable {n : Nat} {N T : Nat → Int} {m : List Int}
def outF (F : Nat → Int) (z : Int) (i : Nat) : Int := if i = 0 then z else F (i + 1)
def outM (m : List Int) (c v : Int) : List Int := wordPut (wordPut (wordPut (wordPut m 2 v) (v + 1) 2) c c) (c + 1) c
def outW (n : Nat) (N T : Nat → Int) (m : List Int) : List Int := outM (if 1 < n then wordPut m (N 2 + 2) (T 2) else m) (N 1) (N 2)
theorem outW_get (h : Dl n N T m) (x : Int) (hn : 1 ≤ n) : wordGet (outW n N T m) x = if x = N 1 + 1 then N 1 else if x = N 1 then N 1 else if x = N 2 + 1 then 2 else if x = 2 then N 2 else if 1 < n ∧ x = N 2 + 2 then T 2 else wordGet m x := by
  have f1 := h.form 1
  have f2 := h.form 2
  have hl := h.len
  unfold outW outM
  by_cases h1 : 1 < n
  · rw [if_pos h1, gp (by simp only [wordPut_length]; omega), gp (by simp only [wordPut_length]; omega), gp (by simp only [wordPut_length]; omega), gp (by simp only [wordPut_length]; omega), gp (by omega)]
    simp only [h1, true_and]
  · rw [if_neg h1, gp (by simp only [wordPut_length]; omega), gp (by simp only [wordPut_length]; omega), gp (by simp only [wordPut_length]; omega), gp (by omega)]
    simp only [h1, false_and, if_false]
theorem Dl.out {p : Nat} (h : Dl (p + 1) N T m) : Dl p (outF N 2) (outF T 0) (outW (p + 1) N T m) := by
  have G := fun x => outW_get h x (by omega)
  have f1 := h.nd 1 (by omega) (by omega)
  have f2 := h.form 2
  have n12 : N 1 ≠ N 2 := by
    by_cases e : 1 < p + 1
    · exact h.ne 1 2 (by omega) (by omega) (by omega)
    · rw [h.hd 2 (by omega)]; omega
  have s0 : outF N 2 0 = 2 ∧ outF T 0 0 = 0 := ⟨rfl, rfl⟩
  have s1 : ∀ i, outF N 2 (i + 1) = N (i + 2) ∧ outF T 0 (i + 1) = T (i + 2) := fun i => ⟨rfl, rfl⟩
  refine ⟨?_, fun i hi => ?_, fun i hi1 hi2 => ?_, fun a c ha hc hac => ?_, fun i hi => ?_, fun i hi => ?_, fun i hi => ?_, rfl, fun i hi => ?_, fun i hi => ?_⟩
  · unfold outW outM
    simp only [wordPut_length]
    split
    · rw [wordPut_length]; exact h.len
    · exact h.len
  · rcases hi with rfl | hi
    · rfl
    · obtain ⟨i', rfl⟩ : ∃ i', i = i' + 1 := ⟨i - 1, by omega⟩
      exact h.hd (i' + 2) (.inr (by omega))
  · obtain ⟨i', rfl⟩ : ∃ i', i = i' + 1 := ⟨i - 1, by omega⟩
    exact h.nd (i' + 2) (by omega) (by omega)
  · match a, c with
    | 0, 0 => omega
    | 0, c + 1 => rw [s0.1, (s1 c).1]; have := h.nd (c + 2) (by omega) (by omega); omega
    | a + 1, 0 => rw [s0.1, (s1 a).1]; have := h.nd (a + 2) (by omega) (by omega); omega
    | a + 1, c + 1 => rw [(s1 a).1, (s1 c).1]; exact h.ne (a + 2) (c + 2) (by omega) (by omega) (by omega)
  · match i with
    | 0 =>
      rw [s0.1, (s1 0).1, G]
      simp only [Nat.zero_add]
      rw [if_neg (by omega), if_neg (by omega), if_neg (by omega), if_pos trivial]
    | i + 1 =>
      rw [(s1 i).1, (s1 (i + 1)).1, G]
      have f := h.nd (i + 2) (by omega) (by omega)
      have n1 := h.ne (i + 2) 1 (by omega) (by omega) (by omega)
      rw [if_neg (by omega), if_neg (by omega), if_neg (by omega), if_neg (by omega), if_neg (by rintro ⟨_, e⟩; omega)]
      exact h.nx (i + 2) (by omega)
  · match i with
    | 0 =>
      rw [s0.1, (s1 0).1, G]
      simp only [Nat.zero_add]
      rw [if_neg (by omega), if_neg (by omega), if_pos trivial]
    | i + 1 =>
      rw [(s1 i).1, (s1 (i + 1)).1, G]
      have f := h.form (i + 3)
      have f2' := h.nd 2 (by omega) (by omega)
      have n1 : N (i + 3) ≠ N 1 := by
        by_cases e : i + 3 ≤ p + 1
        · exact h.ne (i + 3) 1 e (by omega) (by omega)
        · rw [h.hd (i + 3) (by omega)]; omega
      have n2 : N (i + 3) ≠ N 2 := by
        by_cases e : i + 3 ≤ p + 1
        · exact h.ne (i + 3) 2 e (by omega) (by omega)
        · rw [h.hd (i + 3) (by omega)]; omega
      simp only [show i + 1 + 2 = i + 3 from rfl]
      rw [if_neg (by omega), if_neg (by omega), if_neg (by omega), if_neg (by omega), if_neg (by rintro ⟨_, e⟩; omega)]
      exact h.ah (i + 2) (by omega)
  · match i with
    | 0 =>
      rw [s0.2, (s1 0).1, (s1 0).2, G]
      have f2' := h.nd 2 (by omega) (by omega)
      simp only [Nat.zero_add]
      rw [if_neg (by omega), if_neg (by omega), if_neg (by omega), if_neg (by omega), if_pos ⟨by omega, trivial⟩]
      omega
    | i + 1 =>
      rw [(s1 i).2, (s1 (i + 1)).1, (s1 (i + 1)).2, G]
      have f := h.nd (i + 3) (by omega) (by omega)
      have n1 := h.ne (i + 3) 1 (by omega) (by omega) (by omega)
      have n2 := h.ne (i + 3) 2 (by omega) (by omega) (by omega)
      simp only [show i + 1 + 2 = i + 3 from rfl]
      rw [if_neg (by omega), if_neg (by omega), if_neg (by omega), if_neg (by omega), if_neg (by rintro ⟨_, e⟩; omega)]
      exact h.dl (i + 2) (by omega)
  · match i with
    | 0 => rw [s0.2, (s1 0).2]; exact (h.pos (i := 2) (by omega)).1
    | i + 1 => rw [(s1 i).2, (s1 (i + 1)).2]; exact h.up (i + 2) (by omega)
  · match i with
    | 0 => rw [s0.2]; omega
    | i + 1 => rw [(s1 i).2]; exact h.hi (i + 2) (by omega)
/-- The removal of the first one, alone. -/
theorem Dl.dropS {p : Nat} (h : Dl (p + 1) N T m) : ((dropP 2 (N 1)).solo m).2 = outW (p + 1) N T m ∧ (dropP 2 (N 1)).cost m ≤ 100 := by
  have f1 := h.nd 1 (by omega) (by omega)
  have f2 := h.form 2
  have hl := h.len
  obtain ⟨g1, g2⟩ := h.nextS (i := 1) (by omega)
  have hd := h.dl 0 (by omega)
  rw [h.t0, Int.sub_zero] at hd
  have hd : wordGet m (N 1 + 2) = T 1 := hd
  have a0 : wordGet m (N 1 + 1) = 2 := by have := h.ah 0 (by omega); rw [h.hd 0 (.inl rfl)] at this; exact this
  have a1 : wordGet m (N 1) = N 2 := h.nx 1 (by omega)
  have w1 : wrap64 (N 1) = N 1 := w_in (by omega)
  have w11 : wrap64 (N 1 + 1) = N 1 + 1 := w_in (by omega)
  have w12 : wrap64 (N 1 + 2) = N 1 + 2 := w_in (by omega)
  have w2 : wrap64 2 = 2 := w_in (by omega)
  have w21 : wrap64 (N 2 + 1) = N 2 + 1 := w_in (by omega)
  have w22 : wrap64 (N 2 + 2) = N 2 + 2 := w_in (by omega)
  have hR : ∀ m' : List Int, m'.length = 60 → wordGet m' (N 1 + 1) = 2 → wordGet m' (N 1) = N 2 → ((removeP (N 1)).solo m').2 = outM m' (N 1) (N 2) ∧ (removeP (N 1)).cost m' = 6 := by
    intro m' hl' e1 e2
    unfold removeP initP linkP outM
    simp [w11, e1, w1, e2, w2, w21]
  unfold dropP outW
  by_cases h1 : 1 < p + 1
  · have hv : V (p + 1) N 1 = N 2 := if_pos h1
    have n12 := h.ne 1 2 (by omega) (by omega) (by omega)
    have f2' := h.nd 2 (by omega) (by omega)
    have hd2 : wordGet m (N 2 + 2) = T 2 - T 1 := h.dl 1 (by omega)
    have hp1 := h.pos (i := 1) (by omega)
    have hp2 := h.pos (i := 2) (by omega)
    have hw : wrap64 (T 2 - T 1 + T 1) = T 2 := by rw [IntWalk.wrap64_in _ (by omega)]; omega
    obtain ⟨r1, r2⟩ := hR (wordPut m (N 2 + 2) (T 2)) (by rw [wordPut_length]; exact hl) (by rw [get_put_ne (by omega)]; exact a0) (by rw [get_put_ne (by omega)]; exact a1)
    rw [if_pos h1]
    constructor
    · simp only [solo_bind, solo_load, w12, hd, g1, solo_isOff, Bool.false_eq_true, if_false, h1, decide_true, if_true, hv, laterP, w22, hd2, hw, solo_store, r1]
    · simp only [solo_bind, cost_bind, solo_load, cost_load, w12, hd, g1, g2, solo_isOff, cost_isOff, Bool.false_eq_true, if_false, h1, decide_true, if_true, hv, laterP, w22, hd2, hw, solo_store, cost_store, r1, r2]
      omega
  · obtain ⟨r1, r2⟩ := hR m hl a0 a1
    rw [if_neg h1]
    constructor
    · simp only [solo_bind, solo_load, w12, hd, g1, solo_isOff, Bool.false_eq_true, if_false, h1, decide_false, r1]
    · simp only [solo_bind, cost_bind, solo_load, cost_load, w12, hd, g1, g2, solo_isOff, cost_isOff, Bool.false_eq_true, if_false, h1, decide_false, r1, r2]
      omega
theorem Dl.dueS (h : Dl 0 N T m) : ((dueP 2).solo m).1 = (0, false) ∧ (dueP 2).cost m ≤ 100 := by
  obtain ⟨g1, g2⟩ := h.nextS (i := 0) (Nat.le_refl _)
  rw [h.hd 0 (.inl rfl)] at g1 g2
  unfold dueP
  constructor
  · simp [g1]
  · simp [g1, g2]
theorem Dl.start : Dl 0 (fun _ => 2) (fun _ => 0) M0 := by
  refine ⟨by decide, fun _ _ => rfl, fun i h1 h2 => absurd h2 (by omega), fun i j hi hj hne => absurd hne (by omega), fun i hi => ?_, fun i hi => ?_, fun i hi => absurd hi (by omega), rfl, fun i hi => absurd hi (by omega), fun i hi => ?_⟩
  · show wordGet M0 2 = 2
    decide
  · show wordGet M0 (2 + 1) = 2
    decide
  · show (0 : Int) ≤ _
    omega
/-- What the document's row of timers is. -/
def rws (N T : Nat → Int) : Nat → Nat → List (Int × Int)
  | i, 0 => []
  | i, r + 1 => (N (i + 1), T (i + 1)) :: rws N T (i + 1) r
theorem rws_len (N T : Nat → Int) : ∀ r i, (rws N T i r).length = r
  | 0, i => rfl
  | r + 1, i => by simp [rws, rws_len N T r]
def insL (k t : Int) : List (Int × Int) → List (Int × Int)
  | [] => [(k, t)]
  | q :: r => if t < q.2 then (k, t) :: q :: r else q :: insL k t r
theorem insL_len (k t : Int) : ∀ l, (insL k t l).length = l.length + 1
  | [] => rfl
  | q :: r => by
    unfold insL
    split
    · rfl
    · simp [insL_len k t r]
theorem rws_past {N' T' : Nat → Int} {j : Nat} (hg : ∀ i, j + 1 ≤ i → N' (i + 1) = N i ∧ T' (i + 1) = T i) : ∀ r i, j ≤ i → rws N' T' (i + 1) r = rws N T i r
  | 0, i, h => rfl
  | r + 1, i, h => by
    have h1 := hg (i + 1) (by omega)
    have h2 := rws_past hg r (i + 1) (by omega)
    simp only [rws, h1.1, h1.2, h2]
theorem ins_rws {j : Nat} {k t : Int} (hT : ∀ i, i ≤ j → T i ≤ t) (hj : j ≤ n) (h2 : j < n → t < T (j + 1)) : ∀ d i, i + d = j → insL k t (rws N T i (n - i)) = rws (insF N j k) (insF T j t) i (n - i + 1)
  | 0, i, hd => by
    have e : i = j := by omega
    subst e
    have at1 : insF N i k (i + 1) = k ∧ insF T i t (i + 1) = t := by
      unfold insF
      rw [if_neg (by omega), if_pos rfl, if_neg (by omega), if_pos rfl]
      exact ⟨rfl, rfl⟩
    have hg : ∀ q, i + 1 ≤ q → insF N i k (q + 1) = N q ∧ insF T i t (q + 1) = T q := by
      intro q hq
      unfold insF
      rw [if_neg (by omega), if_neg (by omega), if_neg (by omega), if_neg (by omega)]
      exact ⟨rfl, rfl⟩
    have hp := rws_past (N := N) (T := T) hg (n - i) i (Nat.le_refl _)
    have hR : rws (insF N i k) (insF T i t) i (n - i + 1) = (k, t) :: rws N T i (n - i) := by
      simp only [rws, at1.1, at1.2, hp]
    rw [hR]
    by_cases hin : i < n
    · obtain ⟨r, hr⟩ : ∃ r, n - i = r + 1 := ⟨n - i - 1, by omega⟩
      rw [hr]
      simp only [rws, insL]
      rw [if_pos (h2 hin)]
    · have hr : n - i = 0 := by omega
      rw [hr]
      rfl
  | d + 1, i, hd => by
    obtain ⟨r, hr⟩ : ∃ r, n - i = r + 1 := ⟨n - i - 1, by omega⟩
    have hr2 : n - (i + 1) = r := by omega
    have ih := ins_rws (k := k) hT hj h2 d (i + 1) (by omega)
    rw [hr2] at ih
    rw [hr]
    have lo : insF N j k (i + 1) = N (i + 1) ∧ insF T j t (i + 1) = T (i + 1) := ⟨if_pos (by omega), if_pos (by omega)⟩
    show insL k t ((N (i + 1), T (i + 1)) :: rws N T (i + 1) r) = (insF N j k (i + 1), insF T j t (i + 1)) :: rws (insF N j k) (insF T j t) (i + 1) (r + 1)
    unfold insL
    rw [if_neg (by have := hT (i + 1) (by omega); show ¬ t < T (i + 1); omega), ih, lo.1, lo.2]
theorem Dl.rowsI (h : Dl n N T m) {j : Nat} (hj : j ≤ n) {k t : Int} (h1 : T j ≤ t) (h2 : j < n → t < T (j + 1)) : insL k t (rws N T 0 n) = rws (insF N j k) (insF T j t) 0 (n + 1) := by
  have := ins_rws (N := N) (T := T) (n := n) (j := j) (k := k) (t := t) (fun i hi => Int.le_trans (by have := h.mono (j - i) i (by omega); rw [show i + (j - i) = j by omega] at this; exact this) h1) hj h2 j 0 (by omega)
  simpa using this
theorem rws_out (N T : Nat → Int) (z u : Int) : ∀ r i, rws (outF N z) (outF T u) i r = rws N T (i + 1) r
  | 0, i => rfl
  | r + 1, i => by
    have h2 := rws_out N T z u r (i + 1)
    simp only [rws, h2]
    rfl
theorem mem_rws {N T : Nat → Int} {q : Int × Int} : ∀ r i, q ∈ rws N T i r → ∃ c, i < c ∧ c ≤ i + r ∧ q = (N c, T c)
  | 0, i, h => by simp [rws] at h
  | r + 1, i, h => by
    rcases List.mem_cons.1 h with h | h
    · exact ⟨i + 1, by omega, by omega, h⟩
    · obtain ⟨c, h1, h2, h3⟩ := mem_rws r (i + 1) h
      exact ⟨c, by omega, by omega, h3⟩
theorem Dl.rowsO {p : Nat} (h : Dl (p + 1) N T m) : (rws N T 0 (p + 1)).filter (fun q => q.1 != N 1) = rws (outF N 2) (outF T 0) 0 p := by
  rw [rws_out]
  show ((N (0 + 1), T (0 + 1)) :: rws N T (0 + 1) p).filter _ = _
  rw [List.filter_cons_of_neg (by simp)]
  refine List.filter_eq_self.2 fun q hq => ?_
  obtain ⟨c, h1, h2, rfl⟩ := mem_rws p 1 hq
  have := h.ne c 1 (by omega) (by omega) (by omega)
  simpa using this
end
end Law07
end Go.Proofs.Ytkmamebaichboaa
