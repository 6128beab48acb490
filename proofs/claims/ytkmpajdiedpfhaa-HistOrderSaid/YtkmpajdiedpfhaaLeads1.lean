/- The plain law of Leads: a search over channels tells what can be reached. No conditions. -/
import Derived.Test.YtkmpajdiedpfhaaBase
namespace Go.Proofs.Ytkmpajdiedpfhaa
set_option linter.unusedVariables false
namespace Leads
abbrev Ch := List (Int × Int)
def step1 (x : Int) (R : List Int) (c : Int × Int) : List Int := if c.1 = x ∧ c.2 ∉ R then R ++ [c.2] else R
def scan (x : Int) (cs : Ch) (R : List Int) : List Int := cs.foldl (step1 x) R
def bfs (cs : Ch) (to : Int) : Nat → Nat → List Int → Bool
  | 0, _, _ => false
  | f + 1, i, R => match R[i]? with | none => false | some x => if x = to then true else bfs cs to f (i + 1) (scan x cs R)
/-- Whether channels lead from one to another. -/
def leads (cs : Ch) (a b : Int) : Bool := bfs cs b (cs.length + 2) 0 [a]
theorem step1_sub (x : Int) (R : List Int) (c : Int × Int) : ∀ y, y ∈ R → y ∈ step1 x R c := by
  intro y h; unfold step1; split
  · simp [h]
  · exact h
theorem scan_sub (x : Int) : ∀ (cs : Ch) (R : List Int), ∀ y, y ∈ R → y ∈ scan x cs R
  | [], R, y, h => h
  | c :: r, R, y, h => scan_sub x r _ y (step1_sub x R c y h)
theorem step1_pre (x : Int) (R : List Int) (c : Int × Int) : ∃ t, step1 x R c = R ++ t := by
  unfold step1; split
  · exact ⟨_, rfl⟩
  · exact ⟨[], by simp⟩
theorem scan_pre (x : Int) : ∀ (cs : Ch) (R : List Int), ∃ t, scan x cs R = R ++ t
  | [], R => ⟨[], by simp [scan]⟩
  | c :: r, R => by
    obtain ⟨t, e⟩ := step1_pre x R c
    obtain ⟨u, e2⟩ := scan_pre x r (step1 x R c)
    exact ⟨t ++ u, by show scan x r (step1 x R c) = _; rw [e2, e, List.append_assoc]⟩
theorem step1_nodup (x : Int) (R : List Int) (c : Int × Int) (h : R.Nodup) : (step1 x R c).Nodup := by
  unfold step1; split
  · rename_i hc
    rw [List.nodup_append]
    exact ⟨h, by simp, fun a ha b hb => by simp at hb; subst hb; exact fun e => hc.2 (e ▸ ha)⟩
  · exact h
theorem scan_nodup (x : Int) : ∀ (cs : Ch) (R : List Int), R.Nodup → (scan x cs R).Nodup
  | [], R, h => h
  | c :: r, R, h => scan_nodup x r _ (step1_nodup x R c h)
theorem scan_in (x : Int) : ∀ (cs : Ch) (R : List Int) (y : Int), y ∈ scan x cs R → y ∈ R ∨ ∃ c, c ∈ cs ∧ c.1 = x ∧ c.2 = y
  | [], R, y, h => .inl h
  | c :: r, R, y, h => by
    rcases scan_in x r (step1 x R c) y h with h | ⟨c', h1, h2⟩
    · unfold step1 at h
      split at h
      · rename_i hc
        rw [List.mem_append] at h
        rcases h with h | h
        · exact .inl h
        · simp at h; exact .inr ⟨c, by simp, hc.1, h.symm⟩
      · exact .inl h
    · exact .inr ⟨c', by simp [h1], h2⟩
theorem scan_all (x : Int) : ∀ (cs : Ch) (R : List Int) (c : Int × Int), c ∈ cs → c.1 = x → c.2 ∈ scan x cs R
  | [], R, c, h, _ => by cases h
  | d :: r, R, c, h, hx => by
    rcases List.mem_cons.1 h with rfl | h
    · refine scan_sub x r _ _ ?_
      unfold step1
      split
      · simp
      · rename_i hn
        by_cases hm : c.2 ∈ R
        · exact hm
        · exact absurd ⟨hx, hm⟩ hn
    · exact scan_all x r _ c h hx
theorem scan_take_succ (x : Int) (cs : Ch) (R : List Int) (k : Nat) (h : k < cs.length) : scan x (cs.take (k + 1)) R = step1 x (scan x (cs.take k) R) (cs[k]) := by
  unfold scan
  have e : cs.take (k + 1) = cs.take k ++ [cs[k]] := List.take_succ_eq_append_getElem h
  rw [e, List.foldl_append]
  rfl
/-- How it stands at the head of a round. -/
structure At (cs : Ch) (a b : Int) (i : Nat) (R : List Int) : Prop where
  le : i ≤ R.length
  nd : R.Nodup
  sub : ∀ y, y ∈ R → y = a ∨ ∃ c, c ∈ cs ∧ c.2 = y
  same : bfs cs b (cs.length + 2 - i) i R = leads cs a b
theorem nodup_len : ∀ (R L : List Int), R.Nodup → (∀ y, y ∈ R → y ∈ L) → R.length ≤ L.length
  | [], L, _, _ => Nat.zero_le _
  | x :: r, L, hn, hs => by
    have hx : x ∈ L := hs x (by simp)
    have hn' := List.nodup_cons.1 hn
    have := nodup_len r (L.erase x) hn'.2 (fun y hy => (List.mem_erase_of_ne (fun e : y = x => hn'.1 (by rw [← e]; exact hy))).2 (hs y (by simp [hy])))
    rw [List.length_erase_of_mem hx] at this
    have h0 : 0 < L.length := List.length_pos_of_mem hx
    simp; omega
theorem bound {cs : Ch} {a : Int} {R : List Int} (nd : R.Nodup) (sub : ∀ y, y ∈ R → y = a ∨ ∃ c, c ∈ cs ∧ c.2 = y) : R.length ≤ cs.length + 1 := by
  have := nodup_len R (a :: cs.map (·.2)) nd (fun y hy => by
    rcases sub y hy with rfl | ⟨c, h1, h2⟩
    · simp
    · simp only [List.mem_cons, List.mem_map]; exact .inr ⟨c, h1, h2⟩)
  simpa using this
theorem At.start (cs : Ch) (a b : Int) : At cs a b 0 [a] := ⟨by simp, by simp, fun y hy => .inl (by simpa using hy), rfl⟩
theorem At.len {cs : Ch} {a b : Int} {i : Nat} {R : List Int} (h : At cs a b i R) : R.length ≤ cs.length + 1 := bound h.nd h.sub
theorem scan_sub' {cs cs' : Ch} {a x : Int} {R : List Int} (hs : ∀ c, c ∈ cs' → c ∈ cs) (sub : ∀ y, y ∈ R → y = a ∨ ∃ c, c ∈ cs ∧ c.2 = y) : ∀ y, y ∈ scan x cs' R → y = a ∨ ∃ c, c ∈ cs ∧ c.2 = y := by
  intro y hy
  rcases scan_in x cs' R y hy with h | ⟨c, h1, _, h3⟩
  · exact sub y h
  · exact .inr ⟨c, hs c h1, h3⟩
theorem At.hit {cs : Ch} {a b : Int} {i : Nat} {R : List Int} (h : At cs a b i R) (x : Int) (hx : R[i]? = some x) (e : x = b) : leads cs a b = true := by
  have hl := h.len
  have hi : i < R.length := (List.getElem?_eq_some_iff.1 hx).1
  rw [← h.same, show cs.length + 2 - i = (cs.length + 1 - i) + 1 by omega, bfs, hx]
  simp [e]
theorem At.next {cs : Ch} {a b : Int} {i : Nat} {R : List Int} (h : At cs a b i R) (x : Int) (hx : R[i]? = some x) (e : x ≠ b) : At cs a b (i + 1) (scan x cs R) := by
  have hl := h.len
  have hi : i < R.length := (List.getElem?_eq_some_iff.1 hx).1
  obtain ⟨t, ht⟩ := scan_pre x cs R
  refine ⟨by rw [ht, List.length_append]; omega, scan_nodup x cs R h.nd, scan_sub' (fun c hc => hc) h.sub, ?_⟩
  rw [← h.same, show cs.length + 2 - i = (cs.length + 2 - (i + 1)) + 1 by omega, bfs, hx]
  simp [e]
theorem At.over {cs : Ch} {a b : Int} {i : Nat} {R : List Int} (h : At cs a b i R) (hi : R.length ≤ i) : leads cs a b = false := by
  have hl := h.len
  have := h.le
  rw [← h.same, show cs.length + 2 - i = (cs.length + 1 - i) + 1 by omega, bfs, List.getElem?_eq_none hi]
/-- What can be reached. -/
inductive Rch (cs : Ch) (a : Int) : Int → Prop
  | here : Rch cs a a
  | go {x : Int} (c : Int × Int) : Rch cs a x → c ∈ cs → c.1 = x → Rch cs a c.2
theorem Rch.trans {cs : Ch} {a b d : Int} (h : Rch cs a b) (k : Rch cs b d) : Rch cs a d := by
  induction k with
  | here => exact h
  | go c _ h1 h2 ih => exact .go c ih h1 h2
theorem bfs_sound (cs : Ch) (a b : Int) : ∀ (f i : Nat) (R : List Int), (∀ y, y ∈ R → Rch cs a y) → bfs cs b f i R = true → Rch cs a b
  | 0, i, R, _, h => by simp [bfs] at h
  | f + 1, i, R, hR, h => by
    rw [bfs] at h
    split at h
    · cases h
    · rename_i x hx
      split at h
      · rename_i e; subst e; exact hR x (List.mem_of_getElem? hx)
      · refine bfs_sound cs a b f (i + 1) _ (fun y hy => ?_) h
        rcases scan_in x cs R y hy with h1 | ⟨c, h1, h2, h3⟩
        · exact hR y h1
        · exact h3 ▸ .go c (hR x (List.mem_of_getElem? hx)) h1 h2
theorem bfs_complete (cs : Ch) (a b : Int) : ∀ (f i : Nat) (R : List Int), R.Nodup → (∀ y, y ∈ R → y = a ∨ ∃ c, c ∈ cs ∧ c.2 = y) → a ∈ R → cs.length + 2 ≤ f + i → (∀ j x, j < i → R[j]? = some x → x ≠ b ∧ ∀ c, c ∈ cs → c.1 = x → c.2 ∈ R) →
    bfs cs b f i R = false → ¬ Rch cs a b := by
  intro f
  induction f with
  | zero =>
    intro i R nd sub ha hf hd _ hr
    have hl := bound nd sub
    have hcl : ∀ y, Rch cs a y → y ∈ R := by
      intro y hy
      induction hy with
      | here => exact ha
      | go c _ h1 h2 ih =>
        obtain ⟨j, hj, hjx⟩ := List.getElem_of_mem ih
        exact (hd j _ (by omega) (List.getElem?_eq_getElem hj)).2 c h1 (h2.trans hjx.symm)
    obtain ⟨j, hj, hjx⟩ := List.getElem_of_mem (hcl b hr)
    exact (hd j _ (by omega) (List.getElem?_eq_getElem hj)).1 hjx
  | succ f ih =>
    intro i R nd sub ha hf hd h hr
    rw [bfs] at h
    split at h
    · rename_i hi
      have hlen : R.length ≤ i := List.getElem?_eq_none_iff.1 hi
      have hcl : ∀ y, Rch cs a y → y ∈ R := by
        intro y hy
        induction hy with
        | here => exact ha
        | go c _ h1 h2 ih =>
          obtain ⟨j, hj, hjx⟩ := List.getElem_of_mem ih
          exact (hd j _ (by omega) (List.getElem?_eq_getElem hj)).2 c h1 (h2.trans hjx.symm)
      obtain ⟨j, hj, hjx⟩ := List.getElem_of_mem (hcl b hr)
      exact (hd j _ (by omega) (List.getElem?_eq_getElem hj)).1 hjx
    · rename_i x hx
      split at h
      · cases h
      · rename_i hne
        have hi : i < R.length := (List.getElem?_eq_some_iff.1 hx).1
        obtain ⟨t, ht⟩ := scan_pre x cs R
        refine ih (i + 1) (scan x cs R) (scan_nodup x cs R nd) (scan_sub' (fun c hc => hc) sub) (scan_sub x cs R a ha) (by omega) (fun j y hj hy => ?_) h hr
        by_cases hji : j = i
        · subst hji
          rw [ht, List.getElem?_append_left hi, hx] at hy
          cases hy
          exact ⟨hne, fun c hc hcx => scan_all x cs R c hc hcx⟩
        · rw [ht, List.getElem?_append_left (by omega)] at hy
          obtain ⟨h1, h2⟩ := hd j y (by omega) hy
          exact ⟨h1, fun c hc hcx => scan_sub x cs R _ (h2 c hc hcx)⟩
theorem leads_iff (cs : Ch) (a b : Int) : leads cs a b = true ↔ Rch cs a b := by
  constructor
  · exact bfs_sound cs a b _ 0 [a] (fun y hy => by simp at hy; subst hy; exact .here)
  · intro h
    cases hl : leads cs a b with
    | true => rfl
    | false => exact absurd h (bfs_complete cs a b _ 0 [a] (by simp) (fun y hy => .inl (by simpa using hy)) (by simp) (by omega) (fun j x hj => absurd hj (Nat.not_lt_zero _)) hl)
theorem leads_trans (cs : Ch) (a b d : Int) (h : leads cs a b = true) (k : leads cs b d = true) : leads cs a d = true :=
  (leads_iff cs a d).2 (((leads_iff cs a b).1 h).trans ((leads_iff cs b d).1 k))
end Leads
end Go.Proofs.Ytkmpajdiedpfhaa
