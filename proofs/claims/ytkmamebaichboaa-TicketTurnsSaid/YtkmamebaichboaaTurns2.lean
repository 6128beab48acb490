/- Law 3: TicketTurns: the plain law of the lock. No Go in it. No conditions but those stated. -/
import Derived.Test.YtkmamebaichboaaTurns1
namespace Go.Proofs.Ytkmamebaichboaa
open Go.ChangeShapes Go.WideShapes Go.ChangeAt Go.RowKit
set_option linter.unusedVariables false
set_option linter.unusedSimpArgs false
namespace Law03
namespace User
open Prog
def set1 {α : Type} (g : Nat → α) (i : Nat) (v : α) : Nat → α := fun j => if j = i then v else g j
theorem set1_same {α : Type} (g : Nat → α) (i : Nat) (v : α) : set1 g i v i = v := if_pos rfl
theorem set1_ne {α : Type} {g : Nat → α} {i j : Nat} {v : α} (h : j ≠ i) : set1 g i v j = g j := if_neg h
def tot (f ph : Nat → Nat) : Nat → Nat
  | 0 => 0
  | k + 1 => tot f ph k + f (ph k)
theorem tot_past (f ph : Nat → Nat) (i v : Nat) : ∀ k, k ≤ i → tot f (set1 ph i v) k = tot f ph k
  | 0, _ => rfl
  | k + 1, h => by
    have := tot_past f ph i v k (by omega)
    simp only [tot, this, set1_ne (show k ≠ i by omega)]
theorem tot_set (f ph : Nat → Nat) (i v : Nat) : ∀ k, i < k → tot f (set1 ph i v) k + f (ph i) = tot f ph k + f v
  | 0, h => absurd h (by omega)
  | k + 1, h => by
    by_cases e : i = k
    · subst e
      have := tot_past f ph i v i (Nat.le_refl _)
      simp only [tot, this, set1_same]
      omega
    · have := tot_set f ph i v k (by omega)
      simp only [tot, set1_ne (show k ≠ i by omega)]
      omega
theorem tot_le (f ph : Nat → Nat) (c : Nat) : ∀ k, (∀ i, i < k → f (ph i) ≤ c) → tot f ph k ≤ k * c
  | 0, _ => Nat.zero_le _
  | k + 1, h => by
    have h1 := tot_le f ph c k (fun i hi => h i (by omega))
    have h2 := h k (by omega)
    simp only [tot]
    rw [Nat.succ_mul]
    omega
theorem tot_mono (f g ph : Nat → Nat) : ∀ k, (∀ i, i < k → f (ph i) ≤ g (ph i)) → tot f ph k ≤ tot g ph k
  | 0, _ => Nat.le_refl _
  | k + 1, h => by
    have h1 := tot_mono f g ph k (fun i hi => h i (by omega))
    have h2 := h k (by omega)
    simp only [tot]
    omega
theorem tot_zero (f ph : Nat → Nat) : ∀ k, tot f ph k = 0 → ∀ i, i < k → f (ph i) = 0
  | 0, _, i, h => absurd h (by omega)
  | k + 1, h, i, hi => by
    simp only [tot] at h
    by_cases e : i = k
    · subst e; omega
    · exact tot_zero f ph k (by omega) i (by omega)
theorem tot_const (f ph : Nat → Nat) (c : Nat) : ∀ k, (∀ i, i < k → f (ph i) = c) → tot f ph k = k * c
  | 0, _ => by simp [tot]
  | k + 1, h => by
    have h1 := tot_const f ph c k (fun i hi => h i (by omega))
    have h2 := h k (by omega)
    simp only [tot]
    rw [Nat.succ_mul]
    omega
def drawn (p : Nat) : Nat := if p = 0 then 0 else 1
def gone (p : Nat) : Nat := if p = 5 then 1 else 0
def left (p : Nat) : Nat := 5 - p
structure Lock (k : Nat) (F : Int) (S T : Nat) (ph tk : Nat → Nat) (m : List Int) : Prop where
  len : m.length = 6
  w0 : wordGet m 0 = wrap64 (F + (T : Int))
  w1 : wordGet m 1 = wrap64 (F + (S : Int))
  w5a : ∀ i, i < k → ph i = 4 → wordGet m 5 = (S : Int) + 1
  w5b : (∀ i, i < k → ph i ≠ 4) → wordGet m 5 = S
  hT : T = tot drawn ph k
  hS : S = tot gone ph k
  p5 : ∀ i, i < k → ph i ≤ 5
  done : ∀ i, i < k → ph i = 5 → tk i < S
  busy : ∀ i, i < k → 2 ≤ ph i → ph i ≤ 4 → tk i = S
  wait : ∀ i, i < k → 1 ≤ ph i → ph i ≤ 4 → S ≤ tk i ∧ tk i < T
  inj : ∀ i j, i < k → j < k → ph i ≠ 0 → ph j ≠ 0 → tk i = tk j → i = j
  sur : ∀ t, t < T → ∃ i, i < k ∧ ph i ≠ 0 ∧ tk i = t
def Can (S : Nat) (ph tk : Nat → Nat) (q : Nat) : Prop := ph q = 0 ∨ (1 ≤ ph q ∧ ph q ≤ 4 ∧ tk q = S)
theorem wrap_succ (x : Int) : wrap64 (wrap64 x + 1) = wrap64 (x + 1) := by unfold wrap64; omega
section
variable {k : Nat} {F : Int} {S T : Nat} {ph tk : Nat → Nat} {m m' : List Int}
theorem Lock.le (h : Lock k F S T ph tk m) : S ≤ T ∧ T ≤ k := by
  constructor
  · rw [h.hS, h.hT]
    refine tot_mono _ _ _ _ fun i hi => ?_
    unfold gone drawn
    split <;> split <;> omega
  · rw [h.hT]
    have := tot_le drawn ph 1 k (fun i hi => by unfold drawn; split <;> omega)
    omega
theorem Lock.only (h : Lock k F S T ph tk m) {i j : Nat} (hi : i < k) (hj : j < k) (h1 : ph i ≠ 0) (h2 : tk i = S) (h3 : ph j ≠ 0) (h4 : tk j = S) : j = i := h.inj j i hj hi h3 h1 (by omega)
theorem Lock.start (hk : 1 ≤ k) (hF : -9223372036854775808 ≤ F ∧ F ≤ 9223372036854775807) : Lock k F 0 0 (fun _ => 0) (fun _ => 0) [F, F, 0, 0, 0, 0] := by
  have e : wrap64 (F + ((0 : Nat) : Int)) = F := by unfold wrap64; omega
  refine ⟨rfl, by rw [e]; rfl, by rw [e]; rfl, by simp, fun _ => rfl, ?_, ?_, by simp, by simp, by simp, by simp, by simp, by simp⟩
  · rw [tot_const drawn _ 0 k (fun i hi => rfl)]; omega
  · rw [tot_const gone _ 0 k (fun i hi => rfl)]; omega
/-- One more ticket. -/
theorem Lock.draw (h : Lock k F S T ph tk m) {i : Nat} (hi : i < k) (h0 : ph i = 0) : Lock k F S (T + 1) (set1 ph i 1) (set1 tk i T) (wordPut m 0 (wordSum m 0 1)) := by
  have hlen := h.len
  have hle := h.le.1
  have hlow : ∀ j, j < k → ph j ≠ 0 → tk j < T := by
    intro j hj hne
    have := h.p5 j hj
    by_cases e : ph j = 5
    · have := h.done j hj e; omega
    · exact (h.wait j hj (by omega) (by omega)).2
  refine ⟨by rw [wordPut_length]; exact hlen, ?_, by rw [get_put_ne (by omega)]; exact h.w1, fun j hj hp => ?_, fun hp => ?_, ?_, ?_, fun j hj => ?_, fun j hj hp => ?_, fun j hj hp hp2 => ?_, fun j hj hp hp2 => ?_, fun a c ha hc hpa hpc hac => ?_, fun t ht => ?_⟩
  · rw [get_put (by omega), sum_eq (by omega), h.w0, wrap_succ]
    congr 1
    omega
  · rw [get_put_ne (by omega)]
    by_cases e : j = i
    · subst e; rw [set1_same] at hp; omega
    · rw [set1_ne e] at hp; exact h.w5a j hj hp
  · rw [get_put_ne (by omega)]
    refine h.w5b fun j hj hp4 => ?_
    by_cases e : j = i
    · subst e; omega
    · exact hp j hj (by rw [set1_ne e]; exact hp4)
  · have := tot_set drawn ph i 1 k hi
    have e := h.hT
    unfold drawn at this e ⊢
    rw [h0] at this
    simp at this
    omega
  · have := tot_set gone ph i 1 k hi
    have e := h.hS
    unfold gone at this e ⊢
    rw [h0] at this
    simp at this
    omega
  · unfold set1; split
    · omega
    · exact h.p5 j hj
  · by_cases e : j = i
    · subst e; rw [set1_same] at hp; omega
    · rw [set1_ne e] at hp ⊢; exact h.done j hj hp
  · by_cases e : j = i
    · subst e; rw [set1_same] at hp; omega
    · rw [set1_ne e] at hp hp2 ⊢; exact h.busy j hj hp hp2
  · by_cases e : j = i
    · subst e; rw [set1_same]; omega
    · rw [set1_ne e] at hp hp2 ⊢
      have := h.wait j hj hp hp2
      omega
  · by_cases ea : a = i
    · by_cases ec : c = i
      · omega
      · subst ea
        rw [set1_same, set1_ne ec] at hac
        rw [set1_ne ec] at hpc
        have := hlow c hc hpc
        omega
    · by_cases ec : c = i
      · subst ec
        rw [set1_same, set1_ne ea] at hac
        rw [set1_ne ea] at hpa
        have := hlow a ha hpa
        omega
      · rw [set1_ne ea, set1_ne ec] at hac
        rw [set1_ne ea] at hpa
        rw [set1_ne ec] at hpc
        exact h.inj a c ha hc hpa hpc hac
  · by_cases e : t = T
    · exact ⟨i, hi, by rw [set1_same]; omega, by rw [set1_same]; exact e.symm⟩
    · obtain ⟨j, hj, hp, htk⟩ := h.sur t (by omega)
      have hji : j ≠ i := fun e => hp (e ▸ h0)
      exact ⟨j, hj, by rw [set1_ne hji]; exact hp, by rw [set1_ne hji]; exact htk⟩
/-- Who is served goes on. -/
theorem Lock.move (h : Lock k F S T ph tk m) {i p : Nat} (hi : i < k) (h1 : 1 ≤ ph i ∧ ph i ≤ 4) (hp : 1 ≤ p ∧ p ≤ 4) (hs : tk i = S) (hm : m'.length = 6 ∧ wordGet m' 0 = wordGet m 0 ∧ wordGet m' 1 = wordGet m 1) (h5 : wordGet m' 5 = if p = 4 then (S : Int) + 1 else S) : Lock k F S T (set1 ph i p) tk m' := by
  have only : ∀ j, j < k → j ≠ i → 2 ≤ ph j → ph j ≤ 4 → False := fun j hj hji a1 a2 => hji (h.only hi hj (by omega) hs (by omega) (h.busy j hj a1 a2))
  refine ⟨hm.1, by rw [hm.2.1]; exact h.w0, by rw [hm.2.2]; exact h.w1, fun j hj hp => ?_, fun hp => ?_, ?_, ?_, fun j hj => ?_, fun j hj hp => ?_, fun j hj hp hp2 => ?_, fun j hj hp hp2 => ?_, fun a c ha hc hpa hpc hac => ?_, fun t ht => ?_⟩
  · by_cases e : j = i
    · subst e; rw [set1_same] at hp; rw [h5, if_pos hp]
    · rw [set1_ne e] at hp; exact (only j hj e (by omega) (by omega)).elim
  · have := hp i hi
    rw [set1_same] at this
    rw [h5, if_neg this]
  · have := tot_set drawn ph i p k hi
    have e := h.hT
    unfold drawn at this e ⊢
    rw [if_neg (by omega), if_neg (by omega)] at this
    omega
  · have := tot_set gone ph i p k hi
    have e := h.hS
    unfold gone at this e ⊢
    rw [if_neg (by omega), if_neg (by omega)] at this
    omega
  · unfold set1; split
    · omega
    · exact h.p5 j hj
  · by_cases e : j = i
    · subst e; rw [set1_same] at hp; omega
    · rw [set1_ne e] at hp; exact h.done j hj hp
  · by_cases e : j = i
    · subst e; exact hs
    · rw [set1_ne e] at hp hp2; exact h.busy j hj hp hp2
  · by_cases e : j = i
    · subst e; exact h.wait j hj h1.1 h1.2
    · rw [set1_ne e] at hp hp2; exact h.wait j hj hp hp2
  · refine h.inj a c ha hc (fun e => ?_) (fun e => ?_) hac
    · by_cases ea : a = i
      · subst ea; omega
      · rw [set1_ne ea] at hpa; exact hpa e
    · by_cases ec : c = i
      · subst ec; omega
      · rw [set1_ne ec] at hpc; exact hpc e
  · obtain ⟨j, hj, hp, htk⟩ := h.sur t ht
    refine ⟨j, hj, fun e => ?_, htk⟩
    by_cases ej : j = i
    · subst ej; rw [set1_same] at e; omega
    · rw [set1_ne ej] at e; exact hp e
/-- Who was served leaves. -/
theorem Lock.leave (h : Lock k F S T ph tk m) {i : Nat} (hi : i < k) (h4 : ph i = 4) : Lock k F (S + 1) T (set1 ph i 5) tk (wordPut m 1 (wrap64 (wrap64 (F + (tk i : Int)) + 1))) := by
  have hs := h.busy i hi (by omega) (by omega)
  have hlen := h.len
  have only : ∀ j, j < k → j ≠ i → ph j ≠ 0 → tk j = S → False := fun j hj hji a1 a2 => hji (h.only hi hj (by omega) hs a1 a2)
  refine ⟨by rw [wordPut_length]; exact hlen, by rw [get_put_ne (by omega)]; exact h.w0, ?_, fun j hj hp => ?_, fun hp => ?_, ?_, ?_, fun j hj => ?_, fun j hj hp => ?_, fun j hj hp hp2 => ?_, fun j hj hp hp2 => ?_, fun a c ha hc hpa hpc hac => ?_, fun t ht => ?_⟩
  · rw [get_put (by omega), wrap_succ, hs]
    congr 1
    omega
  · by_cases e : j = i
    · subst e; rw [set1_same] at hp; omega
    · rw [set1_ne e] at hp; exact (only j hj e (by omega) (h.busy j hj (by omega) (by omega))).elim
  · rw [get_put_ne (by omega), h.w5a i hi h4]
    omega
  · have := tot_set drawn ph i 5 k hi
    have e := h.hT
    unfold drawn at this e ⊢
    rw [if_neg (by omega), if_neg (by omega)] at this
    omega
  · have := tot_set gone ph i 5 k hi
    have e := h.hS
    unfold gone at this e ⊢
    rw [if_neg (by omega), if_pos rfl] at this
    omega
  · unfold set1; split
    · omega
    · exact h.p5 j hj
  · by_cases e : j = i
    · subst e; omega
    · rw [set1_ne e] at hp; have := h.done j hj hp; omega
  · by_cases e : j = i
    · subst e; rw [set1_same] at hp2; omega
    · rw [set1_ne e] at hp hp2; exact (only j hj e (by omega) (h.busy j hj hp hp2)).elim
  · by_cases e : j = i
    · subst e; rw [set1_same] at hp2; omega
    · rw [set1_ne e] at hp hp2
      have h1 := h.wait j hj hp hp2
      have h2 : tk j ≠ S := fun e2 => only j hj e (by omega) e2
      omega
  · refine h.inj a c ha hc (fun e => ?_) (fun e => ?_) hac
    · by_cases ea : a = i
      · subst ea; omega
      · rw [set1_ne ea] at hpa; exact hpa e
    · by_cases ec : c = i
      · subst ec; omega
      · rw [set1_ne ec] at hpc; exact hpc e
  · obtain ⟨j, hj, hp, htk⟩ := h.sur t ht
    refine ⟨j, hj, fun e => ?_, htk⟩
    by_cases ej : j = i
    · subst ej; rw [set1_same] at e; omega
    · rw [set1_ne ej] at e; exact hp e
theorem wrap_ne {F : Int} {a c : Nat} (h : a ≠ c) (ha : a ≤ 1000) (hc : c ≤ 1000) : wrap64 (F + (a : Int)) ≠ wrap64 (F + (c : Int)) := by unfold wrap64; omega
theorem wrap_back {F : Int} {a : Nat} (ha : a ≤ 1000) : wrap64 (wrap64 (F + (a : Int)) - F) = a := by unfold wrap64; omega
/-- What a step does. -/
theorem Lock.step {u : Usr} {s : St} (h : Lock k F S T ph tk s.mem) (hk : k ≤ 5) {i : Nat} (hi : i < k) (hu : u.pos = 0) (hlen : s.log.length ≤ 1000) (ha : At (wrap64 (F + (tk i : Int))) (tk i) u s (ph i)) (now : Int) :
    ∃ S' T' ph' tk' lm', Lock k F S' T' ph' tk' lm' ∧ After (wrap64 (F + (tk' i : Int))) (tk' i) s (stepP (progB usP usU) now (u, s)) (ph' i) lm' ∧ (∀ j, j ≠ i → ph' j = ph j ∧ tk' j = tk j) ∧ ph i ≤ ph' i ∧ (Can S ph tk i → ph i < ph' i) ∧ (∀ q, q < k → q ≠ i → Can S ph tk q → Can S' ph' tk' q) := by
  have hle := h.le
  have hp5 := h.p5 i hi
  have hlen6 := h.len
  have keepC : ∀ (p : Nat) (tk' : Nat → Nat), (∀ j, j ≠ i → tk' j = tk j) → ∀ q, q < k → q ≠ i → Can S ph tk q → Can S (set1 ph i p) tk' q := by
    intro p tk' ht q hq hqi hc
    unfold Can at hc ⊢
    rw [set1_ne hqi, ht q hqi]
    exact hc
  have hcase : ph i = 0 ∨ ph i = 1 ∨ ph i = 2 ∨ ph i = 3 ∨ ph i = 4 ∨ ph i = 5 := by omega
  rcases hcase with e | e | e | e | e | e
  · rw [e] at ha
    refine ⟨S, T + 1, set1 ph i 1, set1 tk i T, _, h.draw hi e, ?_, fun j hj => ⟨set1_ne hj, set1_ne hj⟩, by rw [set1_same]; omega, fun _ => by rw [set1_same]; omega, keepC 1 _ (fun j hj => set1_ne hj)⟩
    rw [set1_same, set1_same, ← h.w0]
    exact at_0 hu (t := wrap64 (F + (tk i : Int))) (n := T) ⟨ha.1, ha.2.1, ha.2.2⟩ now
  · rw [e] at ha
    have hw := h.wait i hi (by omega) (by omega)
    by_cases hs : tk i = S
    · have hv : wordGet s.mem 1 = wrap64 (F + (tk i : Int)) := by rw [h.w1, hs]
      have h5 : wordGet s.mem 5 = S := h.w5b fun j hj h4 => by
        have := h.only hi hj (by omega) hs (by omega) (h.busy j hj (by omega) (by omega))
        subst this
        omega
      refine ⟨S, T, set1 ph i 2, tk, s.mem, h.move hi (by omega) (by omega) hs ⟨hlen6, rfl, rfl⟩ (by rw [h5]; simp), ?_, fun j hj => ⟨set1_ne hj, rfl⟩, by rw [set1_same]; omega, fun _ => by rw [set1_same]; omega, keepC 2 _ (fun j hj => rfl)⟩
      rw [set1_same]
      exact at_1s hu ha hv now
    · have hv : wordGet s.mem 1 ≠ wrap64 (F + (tk i : Int)) := by rw [h.w1]; exact wrap_ne (Ne.symm hs) (by omega) (by omega)
      refine ⟨S, T, ph, tk, s.mem, h, ?_, fun j hj => ⟨rfl, rfl⟩, Nat.le_refl _, fun hc => ?_, fun q hq hqi hc => hc⟩
      · rw [e]
        exact at_1w hu hlen ha hv now
      · rcases hc with hc | hc
        · omega
        · exact absurd hc.2.2 hs
  · rw [e] at ha
    have hs := h.busy i hi (by omega) (by omega)
    have h5 : wordGet s.mem 5 = S := h.w5b fun j hj h4 => by
      have := h.only hi hj (by omega) hs (by omega) (h.busy j hj (by omega) (by omega))
      subst this
      omega
    refine ⟨S, T, set1 ph i 3, tk, s.mem, h.move hi (by omega) (by omega) hs ⟨hlen6, rfl, rfl⟩ (by rw [h5]; simp), ?_, fun j hj => ⟨set1_ne hj, rfl⟩, by rw [set1_same]; omega, fun _ => by rw [set1_same]; omega, keepC 3 _ (fun j hj => rfl)⟩
    rw [set1_same]
    exact at_2 hu ha (by rw [h5, hs]) now
  · rw [e] at ha
    have hs := h.busy i hi (by omega) (by omega)
    have hw5 : wrap64 ((tk i : Int) + 1) = (S : Int) + 1 := by rw [hs]; unfold wrap64; omega
    refine ⟨S, T, set1 ph i 4, tk, _, h.move hi (by omega) (by omega) hs (m' := wordPut s.mem 5 (wrap64 ((tk i : Int) + 1))) ⟨by rw [wordPut_length]; exact hlen6, get_put_ne (by omega), get_put_ne (by omega)⟩ (by rw [get_put (by omega), if_pos rfl]; exact hw5), ?_, fun j hj => ⟨set1_ne hj, rfl⟩, by rw [set1_same]; omega, fun _ => by rw [set1_same]; omega, keepC 4 _ (fun j hj => rfl)⟩
    rw [set1_same]
    exact at_3 hu ha now
  · rw [e] at ha
    have hs := h.busy i hi (by omega) (by omega)
    refine ⟨S + 1, T, set1 ph i 5, tk, _, h.leave hi e, ?_, fun j hj => ⟨set1_ne hj, rfl⟩, by rw [set1_same]; omega, fun _ => by rw [set1_same]; omega, fun q hq hqi hc => ?_⟩
    · rw [set1_same]
      exact at_4 hu ha now
    · unfold Can at hc ⊢
      rw [set1_ne hqi]
      rcases hc with hc | ⟨c1, c2, c3⟩
      · exact .inl hc
      · exact absurd (h.only hi hq (by omega) hs (by omega) c3) hqi
  · rw [e] at ha
    refine ⟨S, T, ph, tk, s.mem, h, ?_, fun j hj => ⟨rfl, rfl⟩, Nat.le_refl _, fun hc => ?_, fun q hq hqi hc => hc⟩
    · rw [e]
      exact at_5 hu (Nat.le_refl 5) ha now
    · rcases hc with hc | hc <;> omega
theorem Lock.can (h : Lock k F S T ph tk m) (hl : tot left ph k ≠ 0) : ∃ p, p < k ∧ Can S ph tk p := by
  by_cases hz : ∃ p, p < k ∧ ph p = 0
  · obtain ⟨p, h1, h2⟩ := hz
    exact ⟨p, h1, .inl h2⟩
  · have hnz : ∀ p, p < k → ph p ≠ 0 := fun p hp e => hz ⟨p, hp, e⟩
    by_cases hST : S < T
    · obtain ⟨i, hi, hp, ht⟩ := h.sur S hST
      have h5 := h.p5 i hi
      have h6 : ph i ≠ 5 := fun e => by have := h.done i hi e; omega
      exact ⟨i, hi, .inr ⟨by omega, by omega, ht⟩⟩
    · refine absurd ?_ hl
      have := tot_const left ph 0 k (fun i hi => by
        have h5 := h.p5 i hi
        have h0 := hnz i hi
        by_cases e : ph i = 5
        · unfold left; omega
        · have := h.wait i hi (by omega) (by omega); omega)
      omega
theorem Lock.end (h : Lock k F S T ph tk m) (hl : tot left ph k = 0) : (∀ i, i < k → ph i = 5) ∧ T = k ∧ S = k := by
  have h5 : ∀ i, i < k → ph i = 5 := fun i hi => by
    have := tot_zero left ph k hl i hi
    have := h.p5 i hi
    unfold left at *
    omega
  refine ⟨h5, ?_, ?_⟩
  · rw [h.hT, tot_const drawn ph 1 k (fun i hi => by rw [h5 i hi]; rfl)]; omega
  · rw [h.hS, tot_const gone ph 1 k (fun i hi => by rw [h5 i hi]; rfl)]; omega
def Live (k E now S : Nat) (ph tk : Nat → Nat) : Prop := tot left ph k = 0 ∨ ∃ p e, p < k ∧ Can S ph tk p ∧ e % k = p ∧ now ≤ e ∧ (tot left ph k - 1) * k + e + 1 ≤ E
theorem next_turn (now : Nat) {p : Nat} (hk : k ≤ 5) (hp : p < k) : ∃ e, e % k = p ∧ now ≤ e ∧ e < now + k := by
  refine ⟨now + (p + k - now % k) % k, ?_⟩
  have hc : k = 1 ∨ k = 2 ∨ k = 3 ∨ k = 4 ∨ k = 5 := by omega
  rcases hc with rfl | rfl | rfl | rfl | rfl <;> omega
theorem Live.start (h : Lock k F S T ph tk m) (hk : 1 ≤ k ∧ k ≤ 5) {E now : Nat} (hE : now + 60 * k ≤ E) : Live k E now S ph tk := by
  by_cases hl : tot left ph k = 0
  · exact .inl hl
  · obtain ⟨p, hp, hc⟩ := h.can hl
    obtain ⟨e, h1, h2, h3⟩ := next_turn now hk.2 hp
    have h25 := tot_le left ph 5 k (fun i hi => by unfold left; omega)
    refine .inr ⟨p, e, hp, hc, h1, h2, ?_⟩
    have : (tot left ph k - 1) * k ≤ 24 * k := Nat.mul_le_mul_right _ (by omega)
    omega
theorem Live.step {E now i S' T' : Nat} {ph' tk' : Nat → Nat} (hL : Live k E now S ph tk) (h : Lock k F S T ph tk m) (h' : Lock k F S' T' ph' tk' m') (hk : 1 ≤ k ∧ k ≤ 5) (hi : i = now % k) (hph : ∀ j, j ≠ i → ph' j = ph j ∧ tk' j = tk j) (h1 : ph i ≤ ph' i) (h2 : Can S ph tk i → ph i < ph' i) (h3 : ∀ q, q < k → q ≠ i → Can S ph tk q → Can S' ph' tk' q) : Live k E (now + 1) S' ph' tk' := by
  have hik : i < k := hi ▸ Nat.mod_lt _ (by omega)
  have e : ph' = set1 ph i (ph' i) := by
    funext j
    unfold set1
    split
    · rename_i hj; rw [hj]
    · rename_i hj; exact (hph j hj).1
  have ht := tot_set left ph i (ph' i) k hik
  rw [← e] at ht
  have h5 := h'.p5 i hik
  unfold left at ht
  generalize hA : tot (fun p => 5 - p) ph k = A at ht
  generalize hB : tot (fun p => 5 - p) ph' k = B at ht
  have hA' : tot left ph k = A := hA
  have hB' : tot left ph' k = B := hB
  by_cases hB0 : B = 0
  · exact .inl (hB'.trans hB0)
  rcases hL with hL | ⟨p, t, hp, hc, ht1, ht2, ht3⟩
  · omega
  · rw [hA'] at ht3
    by_cases hlt : B < A
    · obtain ⟨p', hp', hc'⟩ := h'.can (by omega)
      obtain ⟨t', g1, g2, g3⟩ := next_turn (now + 1) hk.2 hp'
      refine .inr ⟨p', t', hp', hc', g1, g2, ?_⟩
      rw [hB']
      have : (B - 1) * k + k ≤ (A - 1) * k := by
        have h7 : (B - 1) + 1 ≤ A - 1 := by omega
        have := Nat.mul_le_mul_right k h7
        rw [Nat.succ_mul] at this
        exact this
      omega
    · have hAB : B = A := by omega
      have hne : p ≠ i := by
        intro e2
        subst e2
        have := h2 hc
        omega
      refine .inr ⟨p, t, hp, h3 p hp hne hc, ht1, ?_, by rw [hB', hAB]; exact ht3⟩
      by_cases e3 : now = t
      · subst e3; omega
      · omega
end
end User
end Law03
end Go.Proofs.Ytkmamebaichboaa
