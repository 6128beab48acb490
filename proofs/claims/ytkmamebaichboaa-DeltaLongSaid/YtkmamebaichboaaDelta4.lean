/- Law 7: DeltaLong: the plain law of the list of timers. No Go in it. No conditions but those stated. -/
import Derived.Test.YtkmamebaichboaaDelta3
namespace Go.Proofs.Ytkmamebaichboaa
open Go.ChangeShapes Go.WideShapes Go.ChangeAt Go.RowKit
set_option linter.unusedVariables false
set_option linter.unusedSimpArgs false
namespace Law07
open LinkL Prog
/-- n nodes N 1 .. N n, due at T 1 .. T n, behind the head 2. -/
structure Dl (n : Nat) (N T : Nat → Int) (m : List Int) : Prop where
  len : m.length = 60
  hd : ∀ i, i = 0 ∨ n < i → N i = 2
  nd : ∀ i, 1 ≤ i → i ≤ n → 10 ≤ N i ∧ N i ≤ 37 ∧ N i % 3 = 1
  ne : ∀ i j, i ≤ n → j ≤ n → i ≠ j → N i ≠ N j
  nx : ∀ i, i ≤ n → wordGet m (N i) = N (i + 1)
  ah : ∀ i, i ≤ n → wordGet m (N (i + 1) + 1) = N i
  dl : ∀ i, i < n → wordGet m (N (i + 1) + 2) = T (i + 1) - T i
  t0 : T 0 = 0
  up : ∀ i, i < n → T i ≤ T (i + 1)
  hi : ∀ i, i ≤ n → T i ≤ 1152921504606846976
theorem gp {l : List Int} {a v x : Int} (h : 0 ≤ a ∧ a < l.length) : wordGet (wordPut l a v) x = if x = a then v else wordGet l x := by
  split
  · rename_i e; subst e; exact get_put h
  · rename_i e; exact get_put_ne (fun h => e h.symm)
section
variable {n : Nat} {N T : Nat → Int} {m : List Int}
theorem Dl.form (h : Dl n N T m) (i : Nat) : N i = 2 ∨ (10 ≤ N i ∧ N i ≤ 37 ∧ N i % 3 = 1) := by
  by_cases h1 : 1 ≤ i ∧ i ≤ n
  · exact .inr (h.nd i h1.1 h1.2)
  · exact .inl (h.hd i (by omega))
theorem Dl.mono (h : Dl n N T m) : ∀ d i, i + d ≤ n → T i ≤ T (i + d)
  | 0, i, _ => Int.le_refl _
  | d + 1, i, hd => Int.le_trans (h.mono d i (by omega)) (h.up (i + d) (by omega))
theorem Dl.pos (h : Dl n N T m) {i : Nat} (hi : i ≤ n) : 0 ≤ T i ∧ T i ≤ 1152921504606846976 := by
  have := h.mono i 0 (by omega)
  rw [h.t0, Nat.zero_add] at this
  exact ⟨this, h.hi i hi⟩
def V (n : Nat) (N : Nat → Int) (i : Nat) : Int := if i < n then N (i + 1) else 0
theorem w_in {x : Int} (h : 0 ≤ x ∧ x ≤ 100) : wrap64 x = x := IntWalk.wrap64_in _ (by omega)
theorem Dl.nextS (h : Dl n N T m) {i : Nat} (hi : i ≤ n) : (nextP 2 (N i)).solo m = ((V n N i, decide (i < n)), m) ∧ (nextP 2 (N i)).cost m = 1 := by
  have hf := h.form i
  have hw : wrap64 (N i) = N i := w_in (by omega)
  unfold nextP
  rw [hw]
  by_cases hl : i < n
  · have h2 : N (i + 1) ≠ 2 := by have := h.nd (i + 1) (by omega) (by omega); omega
    have hv : V n N i = N (i + 1) := if_pos hl
    simp [h.nx i hi, h2, hl, hv]
  · have h2 : N (i + 1) = 2 := h.hd (i + 1) (by omega)
    have hv : V n N i = 0 := if_neg hl
    simp [h.nx i hi, h2, hl, hv]
theorem Dl.loopS (h : Dl n N T m) {t : Int} (ht : 0 ≤ t ∧ t ≤ 1152921504606846976) : ∀ (r i k : Nat), i + r = n → r < k → T i ≤ t →
    ∃ j, i ≤ j ∧ j ≤ n ∧ T j ≤ t ∧ (j < n → t < T (j + 1)) ∧ (loopP 2 k (V n N i) (decide (i < n)) (t - T i)).solo m = ((V n N j, decide (j < n), t - T j), m) ∧ (loopP 2 k (V n N i) (decide (i < n)) (t - T i)).cost m ≤ 2 * r
  | 0, i, k + 1, hr, hk, hT => by
    have hin : ¬ i < n := by omega
    refine ⟨i, Nat.le_refl _, by omega, hT, fun h => absurd h hin, ?_, ?_⟩
    · simp [loopP, hin]
    · simp [loopP, hin]
  | r + 1, i, k + 1, hr, hk, hT => by
    have hin : i < n := by omega
    have hf := h.nd (i + 1) (by omega) (by omega)
    have hw : wrap64 (N (i + 1) + 2) = N (i + 1) + 2 := w_in (by omega)
    have hv : V n N i = N (i + 1) := if_pos hin
    have hd := h.dl i hin
    have hp1 := h.pos (show i ≤ n by omega)
    have hp2 := h.pos (show i + 1 ≤ n by omega)
    by_cases hlt : t < T (i + 1)
    · refine ⟨i, Nat.le_refl _, by omega, hT, fun _ => hlt, ?_, ?_⟩
      · have hc : t - T i < T (i + 1) - T i := by omega
        simp [loopP, hin, hv, hw, hd, hc]
      · have hc : t - T i < T (i + 1) - T i := by omega
        simp [loopP, hin, hv, hw, hd, hc]
        omega
    · have hc : ¬ t - T i < T (i + 1) - T i := by omega
      obtain ⟨j, h1, h2, h3, h4, h5, h6⟩ := h.loopS ht r (i + 1) k (by omega) (by omega) (by omega)
      obtain ⟨g1, g2⟩ := h.nextS (show i + 1 ≤ n by omega)
      have hwt : wrap64 (t - T i - (T (i + 1) - T i)) = t - T (i + 1) := by rw [IntWalk.wrap64_in _ (by omega)]; omega
      refine ⟨j, by omega, h2, h3, h4, ?_, ?_⟩
      · rw [← h5]
        simp [loopP, hin, hv, hw, hd, hc, g1, hwt]
      · simp [loopP, hin, hv, hw, hd, hc, g1, g2, hwt]
        omega
/-- What the insertion of the node k behind the j-th one makes of the words. -/
def insM (m : List Int) (b k v d : Int) : List Int := wordPut (wordPut (wordPut (wordPut (wordPut m (k + 2) d) b k) (k + 1) b) k v) (v + 1) k
def insF (F : Nat → Int) (j : Nat) (x : Int) (i : Nat) : Int := if i ≤ j then F i else if i = j + 1 then x else F (i - 1)
theorem insM_get {b k v d x : Int} (hl : m.length = 60) (hb : 0 ≤ b ∧ b ≤ 40) (hk : 0 ≤ k ∧ k ≤ 40) (hv : 0 ≤ v ∧ v ≤ 40) :
    wordGet (insM m b k v d) x = if x = v + 1 then k else if x = k then v else if x = k + 1 then b else if x = b then k else if x = k + 2 then d else wordGet m x := by
  unfold insM
  rw [gp (by simp only [wordPut_length]; omega), gp (by simp only [wordPut_length]; omega), gp (by simp only [wordPut_length]; omega), gp (by simp only [wordPut_length]; omega), gp (by omega)]
theorem insM_len (b k v d : Int) : (insM m b k v d).length = m.length := by unfold insM; simp only [wordPut_length]
/-- The words behind an insertion. -/
def insW (n : Nat) (N T : Nat → Int) (m : List Int) (j : Nat) (k t : Int) : List Int := if j < n then wordPut (insM m (N j) k (N (j + 1)) (t - T j)) (N (j + 1) + 2) (T (j + 1) - t) else insM m (N j) k (N (j + 1)) (t - T j)
theorem insW_get (h : Dl n N T m) {j : Nat} (hj : j ≤ n) {k : Int} (hk : 10 ≤ k ∧ k ≤ 37) (t x : Int) :
    wordGet (insW n N T m j k t) x = if j < n ∧ x = N (j + 1) + 2 then T (j + 1) - t else if x = N (j + 1) + 1 then k else if x = k then N (j + 1) else if x = k + 1 then N j else if x = N j then k else if x = k + 2 then t - T j else wordGet m x := by
  have f1 := h.form j
  have f2 := h.form (j + 1)
  unfold insW
  by_cases hjn : j < n
  · rw [if_pos hjn, gp (by rw [insM_len, h.len]; omega), insM_get h.len (by omega) (by omega) (by omega)]
    simp only [hjn, true_and]
  · rw [if_neg hjn, insM_get h.len (by omega) (by omega) (by omega)]
    simp only [hjn, false_and, if_false]
theorem Dl.ins (h : Dl n N T m) {j : Nat} (hj : j ≤ n) {k t : Int} (hk : 10 ≤ k ∧ k ≤ 37 ∧ k % 3 = 1) (hnew : ∀ i, i ≤ n → N i ≠ k) (ht : t ≤ 1152921504606846976) (h1 : T j ≤ t) (h2 : j < n → t < T (j + 1)) :
    Dl (n + 1) (insF N j k) (insF T j t) (insW n N T m j k t) := by
  have G := fun x => insW_get h hj (k := k) (by omega) t x
  have lo : ∀ i, i ≤ j → insF N j k i = N i ∧ insF T j t i = T i := fun i hi => ⟨if_pos hi, if_pos hi⟩
  have at1 : insF N j k (j + 1) = k ∧ insF T j t (j + 1) = t := by
    unfold insF
    rw [if_neg (by omega), if_pos rfl, if_neg (by omega), if_pos rfl]
    exact ⟨rfl, rfl⟩
  have hg : ∀ i, j + 1 ≤ i → insF N j k (i + 1) = N i ∧ insF T j t (i + 1) = T i := by
    intro i hi
    unfold insF
    rw [if_neg (by omega), if_neg (by omega), if_neg (by omega), if_neg (by omega)]
    exact ⟨rfl, rfl⟩
  have fj := h.form j
  have fj1 := h.form (j + 1)
  have nkj := hnew j hj
  have vk : N (j + 1) ≠ k := by
    by_cases e : j < n
    · exact hnew (j + 1) (by omega)
    · rw [h.hd (j + 1) (by omega)]; omega
  refine ⟨?_, fun i hi => ?_, fun i hi1 hi2 => ?_, fun a c ha hc hac => ?_, fun i hi => ?_, fun i hi => ?_, fun i hi => ?_, ?_, fun i hi => ?_, fun i hi => ?_⟩
  · unfold insW
    split
    · rw [wordPut_length, insM_len]; exact h.len
    · rw [insM_len]; exact h.len
  · rcases hi with rfl | hi
    · rw [(lo 0 (by omega)).1]; exact h.hd 0 (.inl rfl)
    · obtain ⟨i', rfl⟩ : ∃ i', i = i' + 1 := ⟨i - 1, by omega⟩
      rw [(hg i' (by omega)).1]
      exact h.hd i' (.inr (by omega))
  · by_cases e1 : i ≤ j
    · rw [(lo i e1).1]; exact h.nd i hi1 (by omega)
    · by_cases e2 : i = j + 1
      · rw [e2, at1.1]; exact hk
      · obtain ⟨i', rfl⟩ : ∃ i', i = i' + 1 := ⟨i - 1, by omega⟩
        rw [(hg i' (by omega)).1]
        exact h.nd i' (by omega) (by omega)
  · have val : ∀ a, a ≤ n + 1 → a ≠ j + 1 → ∃ a', a' ≤ n ∧ insF N j k a = N a' ∧ (a' = if a ≤ j then a else a - 1) := by
      intro a ha hne
      by_cases e1 : a ≤ j
      · exact ⟨a, by omega, (lo a e1).1, by rw [if_pos e1]⟩
      · obtain ⟨i', rfl⟩ : ∃ i', a = i' + 1 := ⟨a - 1, by omega⟩
        exact ⟨i', by omega, (hg i' (by omega)).1, by rw [if_neg e1]; omega⟩
    by_cases ea : a = j + 1
    · by_cases ec : c = j + 1
      · omega
      · obtain ⟨c', hc1, hc2, _⟩ := val c hc ec
        rw [ea, at1.1, hc2]
        exact fun e => hnew c' hc1 e.symm
    · obtain ⟨a', ha1, ha2, ha3⟩ := val a ha ea
      by_cases ec : c = j + 1
      · rw [ec, at1.1, ha2]
        exact hnew a' ha1
      · obtain ⟨c', hc1, hc2, hc3⟩ := val c hc ec
        rw [ha2, hc2]
        refine h.ne a' c' ha1 hc1 ?_
        split at ha3 <;> split at hc3 <;> omega
  · by_cases e1 : i < j
    · rw [(lo i (by omega)).1, (lo (i + 1) (by omega)).1, G]
      have f := h.form i
      have n1 := h.ne i j (by omega) hj (by omega)
      have n2 := hnew i (by omega)
      rw [if_neg (by omega), if_neg (by omega), if_neg (by omega), if_neg (by omega), if_neg n1, if_neg (by omega)]
      exact h.nx i (by omega)
    · by_cases e2 : i = j
      · subst e2
        rw [(lo i (by omega)).1, at1.1, G]
        rw [if_neg (by omega), if_neg (by omega), if_neg nkj, if_neg (by omega), if_pos rfl]
      · by_cases e3 : i = j + 1
        · subst e3
          rw [at1.1, (hg (j + 1) (by omega)).1, G]
          rw [if_neg (by omega), if_neg (by omega), if_pos rfl]
        · obtain ⟨i', rfl⟩ : ∃ i', i = i' + 1 := ⟨i - 1, by omega⟩
          rw [(hg i' (by omega)).1, (hg (i' + 1) (by omega)).1, G]
          have f := h.form i'
          have n1 := h.ne i' j (by omega) hj (by omega)
          have n2 := hnew i' (by omega)
          rw [if_neg (by omega), if_neg (by omega), if_neg (by omega), if_neg (by omega), if_neg n1, if_neg (by omega)]
          exact h.nx i' (by omega)
  · by_cases e1 : i < j
    · rw [(lo i (by omega)).1, (lo (i + 1) (by omega)).1, G]
      have f := h.form (i + 1)
      have n1 := h.ne (i + 1) 0 (by omega) (by omega) (by omega)
      rw [h.hd 0 (.inl rfl)] at n1
      have n2 := hnew (i + 1) (by omega)
      have n3 : N (i + 1) ≠ N (j + 1) := by
        by_cases e : j < n
        · exact h.ne (i + 1) (j + 1) (by omega) (by omega) (by omega)
        · rw [h.hd (j + 1) (by omega)]; exact n1
      rw [if_neg (by omega), if_neg (by omega), if_neg (by omega), if_neg (by omega), if_neg (by omega), if_neg (by omega)]
      exact h.ah i (by omega)
    · by_cases e2 : i = j
      · subst e2
        rw [(lo i (by omega)).1, at1.1, G]
        rw [if_neg (by omega), if_neg (by omega), if_neg (by omega), if_pos rfl]
      · by_cases e3 : i = j + 1
        · subst e3
          rw [at1.1, (hg (j + 1) (by omega)).1, G]
          rw [if_neg (by omega), if_pos rfl]
        · obtain ⟨i', rfl⟩ : ∃ i', i = i' + 1 := ⟨i - 1, by omega⟩
          rw [(hg i' (by omega)).1, (hg (i' + 1) (by omega)).1, G]
          have f := h.form (i' + 1)
          have n3 : N (i' + 1) ≠ N (j + 1) := by
            by_cases e : i' + 1 ≤ n
            · exact h.ne (i' + 1) (j + 1) (by omega) (by omega) (by omega)
            · rw [h.hd (i' + 1) (by omega)]
              have := h.nd (j + 1) (by omega) (by omega)
              omega
          have n2 : N (i' + 1) ≠ k := by
            by_cases e : i' + 1 ≤ n
            · exact hnew (i' + 1) e
            · rw [h.hd (i' + 1) (by omega)]; omega
          have n4 : N (i' + 1) + 1 ≠ N j := by omega
          rw [if_neg (by omega), if_neg (by omega), if_neg (by omega), if_neg (by omega), if_neg n4, if_neg (by omega)]
          exact h.ah i' (by omega)
  · by_cases e1 : i < j
    · rw [(lo i (by omega)).2, (lo (i + 1) (by omega)).1, (lo (i + 1) (by omega)).2, G]
      have f := h.nd (i + 1) (by omega) (by omega)
      have n2 := hnew (i + 1) (by omega)
      have n3 : j < n → N (i + 1) ≠ N (j + 1) := fun e => h.ne (i + 1) (j + 1) (by omega) (by omega) (by omega)
      rw [if_neg (by rintro ⟨a1, a2⟩; have := n3 a1; omega), if_neg (by omega), if_neg (by omega), if_neg (by omega), if_neg (by omega), if_neg (by omega)]
      exact h.dl i (by omega)
    · by_cases e2 : i = j
      · subst e2
        rw [(lo i (by omega)).2, at1.1, at1.2, G]
        rw [if_neg (by rintro ⟨a1, a2⟩; omega), if_neg (by omega), if_neg (by omega), if_neg (by omega), if_neg (by omega), if_pos rfl]
      · by_cases e3 : i = j + 1
        · subst e3
          rw [at1.2, (hg (j + 1) (by omega)).1, (hg (j + 1) (by omega)).2, G]
          rw [if_pos ⟨by omega, rfl⟩]
        · obtain ⟨i', rfl⟩ : ∃ i', i = i' + 1 := ⟨i - 1, by omega⟩
          rw [(hg i' (by omega)).2, (hg (i' + 1) (by omega)).1, (hg (i' + 1) (by omega)).2, G]
          have f := h.nd (i' + 1) (by omega) (by omega)
          have n2 := hnew (i' + 1) (by omega)
          have n3 := h.ne (i' + 1) (j + 1) (by omega) (by omega) (by omega)
          rw [if_neg (by rintro ⟨a1, a2⟩; omega), if_neg (by omega), if_neg (by omega), if_neg (by omega), if_neg (by omega), if_neg (by omega)]
          exact h.dl i' (by omega)
  · rw [(lo 0 (by omega)).2]; exact h.t0
  · by_cases e1 : i < j
    · rw [(lo i (by omega)).2, (lo (i + 1) (by omega)).2]; exact h.up i (by omega)
    · by_cases e2 : i = j
      · subst e2; rw [(lo i (by omega)).2, at1.2]; exact h1
      · by_cases e3 : i = j + 1
        · subst e3; rw [at1.2, (hg (j + 1) (by omega)).2]; have := h2 (by omega); omega
        · obtain ⟨i', rfl⟩ : ∃ i', i = i' + 1 := ⟨i - 1, by omega⟩
          rw [(hg i' (by omega)).2, (hg (i' + 1) (by omega)).2]; exact h.up i' (by omega)
  · by_cases e1 : i ≤ j
    · rw [(lo i e1).2]; exact h.hi i (by omega)
    · by_cases e2 : i = j + 1
      · subst e2; rw [at1.2]; exact ht
      · obtain ⟨i', rfl⟩ : ∃ i', i = i' + 1 := ⟨i - 1, by omega⟩
        rw [(hg i' (by omega)).2]; exact h.hi i' (by omega)
/-- An insertion, alone. -/
theorem Dl.insertS (h : Dl n N T m) (hn : n ≤ 10) {k t : Int} (hk : 10 ≤ k ∧ k ≤ 37 ∧ k % 3 = 1) (hnew : ∀ i, i ≤ n → N i ≠ k) (ht : 0 ≤ t ∧ t ≤ 1152921504606846976) :
    ∃ j, j ≤ n ∧ T j ≤ t ∧ (j < n → t < T (j + 1)) ∧ ((insertP 2 k t).solo m).2 = insW n N T m j k t ∧ (insertP 2 k t).cost m ≤ 100 := by
  obtain ⟨g1, g2⟩ := h.nextS (i := 0) (Nat.zero_le _)
  rw [h.hd 0 (.inl rfl)] at g1 g2
  obtain ⟨j, _, h2, h3, h4, h5, h6⟩ := h.loopS ht n 0 WN (by omega) (by unfold WN; omega) (by rw [h.t0]; exact ht.1)
  rw [h.t0, Int.sub_zero] at h5 h6
  refine ⟨j, h2, h3, h4, ?_⟩
  have fj := h.form j
  have fj1 := h.form (j + 1)
  have nkj := hnew j h2
  have hpj := h.pos h2
  have wk2 : wrap64 (k + 2) = k + 2 := w_in (by omega)
  have wk1 : wrap64 (k + 1) = k + 1 := w_in (by omega)
  have wk : wrap64 k = k := w_in (by omega)
  have wv1 : wrap64 (N (j + 1) + 1) = N (j + 1) + 1 := w_in (by omega)
  have wv2 : wrap64 (N (j + 1) + 2) = N (j + 1) + 2 := w_in (by omega)
  have wb : wrap64 (N j) = N j := w_in (by omega)
  have hah := h.ah j h2
  have hg1 : wordGet (wordPut m (k + 2) (t - T j)) (N (j + 1) + 1) = N j := by
    rw [get_put_ne (by omega)]; exact hah
  have hA : ((aheadP (N (j + 1)) k).solo (wordPut m (k + 2) (t - T j))).2 = insM m (N j) k (N (j + 1)) (t - T j) ∧ (aheadP (N (j + 1)) k).cost (wordPut m (k + 2) (t - T j)) = 5 := by
    unfold aheadP linkP insM
    simp [wv1, hg1, wk1, wk, wb]
  have hR : ((restI 2 k (V n N j, decide (j < n), t - T j)).solo m).2 = insW n N T m j k t ∧ (restI 2 k (V n N j, decide (j < n), t - T j)).cost m ≤ 20 := by
    unfold restI insW
    by_cases hjn : j < n
    · have hv : V n N j = N (j + 1) := if_pos hjn
      have hT := h4 hjn
      have hp1 := h.pos (show j + 1 ≤ n by omega)
      have vk := hnew (j + 1) (by omega)
      have hd := h.dl j hjn
      have hg2 : wordGet (insM m (N j) k (N (j + 1)) (t - T j)) (N (j + 1) + 2) = T (j + 1) - T j := by
        have f := h.nd (j + 1) (by omega) (by omega)
        rw [insM_get h.len (by omega) (by omega) (by omega), if_neg (by omega), if_neg (by omega), if_neg (by omega), if_neg (by omega), if_neg (by omega)]
        exact hd
      have hw1 : wrap64 (-(t - T j)) = -(t - T j) := IntWalk.wrap64_in _ (by omega)
      have hw2 : wrap64 (T (j + 1) - T j + -(t - T j)) = T (j + 1) - t := by rw [IntWalk.wrap64_in _ (by omega)]; omega
      rw [if_pos hjn]
      constructor
      · simp only [solo_bind, solo_isOff, Bool.false_eq_true, if_false, solo_store, hjn, decide_true, if_true, hv, wk2, hA.1, laterP, solo_load, wv2, hg2, hw1, hw2]
      · simp only [solo_bind, solo_isOff, cost_bind, cost_isOff, Bool.false_eq_true, if_false, solo_store, cost_store, hjn, decide_true, if_true, hv, wk2, hA.1, hA.2, laterP, solo_load, cost_load, wv2]
        omega
    · have hv2 : N (j + 1) = 2 := h.hd (j + 1) (by omega)
      rw [hv2] at hA
      rw [if_neg hjn, hv2]
      constructor
      · simp only [solo_bind, solo_isOff, Bool.false_eq_true, if_false, solo_store, hjn, decide_false, wk2, hA.1]
      · simp only [solo_bind, solo_isOff, cost_bind, cost_isOff, Bool.false_eq_true, if_false, solo_store, cost_store, hjn, decide_false, wk2, hA.2]
        omega
  unfold insertP
  constructor
  · simp only [solo_bind, g1, h5, hR.1]
  · simp only [solo_bind, cost_bind, g1, g2, h5]
    have := hR.2
    omega
end
end Law07
end Go.Proofs.Ytkmamebaichboaa
