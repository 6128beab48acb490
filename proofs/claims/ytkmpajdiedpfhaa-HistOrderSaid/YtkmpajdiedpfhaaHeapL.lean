/- The plain law of a heap: up, down, swaps, the sorted order is one. No conditions but those stated. -/
import Init
set_option linter.unusedVariables false
namespace Go.Proofs.Ytkmpajdiedpfhaa
namespace HeapL
variable {α : Type}
/-- A strict weak order. -/
structure Wk (lt : α → α → Prop) : Prop where
  asymm : ∀ a b, lt a b → ¬ lt b a
  ntrans : ∀ a b c, ¬ lt a b → ¬ lt b c → ¬ lt a c
def swp (f : Nat → α) (i j : Nat) : Nat → α := fun k => if k = i then f j else if k = j then f i else f k
theorem swp_l (f : Nat → α) (i j : Nat) : swp f i j i = f j := by simp [swp]
theorem swp_r (f : Nat → α) (i j : Nat) : swp f i j j = f i := by unfold swp; split <;> simp_all
theorem swp_o (f : Nat → α) {i j k : Nat} (h1 : k ≠ i) (h2 : k ≠ j) : swp f i j k = f k := by simp [swp, h1, h2]
def par (i : Nat) : Nat := (i - 1) / 2
/-- A heap of n but at j: below j's place fits j's parent. -/
def UpI (lt : α → α → Prop) (f : Nat → α) (n j : Nat) : Prop :=
  (∀ i, 0 < i → i < n → i ≠ j → ¬ lt (f i) (f (par i))) ∧ (0 < j → ∀ i, 0 < i → i < n → par i = j → ¬ lt (f i) (f (par j)))
def Hp (lt : α → α → Prop) (f : Nat → α) (n : Nat) : Prop := ∀ i, 0 < i → i < n → ¬ lt (f i) (f (par i))
variable {lt : α → α → Prop}
theorem UpI.done {f : Nat → α} {n j : Nat} (h : UpI lt f n j) (hj : j = 0 ∨ ¬ lt (f j) (f (par j))) : Hp lt f n := by
  intro i h0 hn
  by_cases hi : i = j
  · subst hi
    rcases hj with hj | hj
    · omega
    · exact hj
  · exact h.1 i h0 hn hi
theorem UpI.step (w : Wk lt) {f : Nat → α} {n j : Nat} (h : UpI lt f n j) (h0 : 0 < j) (hj : j < n) (hl : lt (f j) (f (par j))) : UpI lt (swp f (par j) j) n (par j) := by
  have hp : par j < j := by unfold par; omega
  refine ⟨fun i hi0 hin hne => ?_, fun hp0 i hi0 hin hpi => ?_⟩
  · by_cases hij : i = j
    · subst hij
      rw [swp_r, swp_l]
      exact w.asymm _ _ hl
    · rw [swp_o f hne hij]
      by_cases h1 : par i = par j
      · rw [h1, swp_l]
        refine w.ntrans _ _ _ (h.1 i hi0 hin hij) ?_
        rw [h1]
        exact w.asymm _ _ hl
      · by_cases h2 : par i = j
        · rw [h2, swp_r]
          exact h.2 h0 i hi0 hin h2
        · rw [swp_o f h1 h2]
          exact h.1 i hi0 hin hij
  · have hpp : par (par j) < par j := by unfold par at hp0 ⊢; omega
    have e : swp f (par j) j (par (par j)) = f (par (par j)) := swp_o f (by omega) (by omega)
    rw [e]
    have hb := h.1 (par j) hp0 (by omega) (by omega)
    by_cases hij : i = j
    · subst hij
      rw [swp_r]
      exact hb
    · have : par i < i := by unfold par; omega
      rw [swp_o f (by omega) hij]
      refine w.ntrans _ _ _ (h.1 i hi0 hin hij) ?_
      rw [hpi]
      exact hb
theorem UpI.start {f : Nat → α} {n : Nat} (h : Hp lt f n) : UpI lt f (n + 1) n := by
  refine ⟨fun i h0 hn hne => h i h0 (by omega), fun h0 i hi0 hin hp => ?_⟩
  unfold par at hp
  omega
def DnI (lt : α → α → Prop) (f : Nat → α) (n i : Nat) : Prop :=
  (∀ c, 0 < c → c < n → par c ≠ i → ¬ lt (f c) (f (par c))) ∧ (0 < i → ∀ c, 0 < c → c < n → par c = i → ¬ lt (f c) (f (par i)))
theorem DnI.done (w : Wk lt) {f : Nat → α} {n i : Nat} (h : DnI lt f n i) (hd : ∀ c, 0 < c → c < n → par c = i → ¬ lt (f c) (f i)) : Hp lt f n := by
  intro c h0 hn
  by_cases hp : par c = i
  · rw [hp]; exact hd c h0 hn hp
  · exact h.1 c h0 hn hp
theorem DnI.step (w : Wk lt) {f : Nat → α} {n i j : Nat} (h : DnI lt f n i) (h0 : 0 < j) (hn : j < n) (hj : par j = i) (hm : ∀ c, 0 < c → c < n → par c = i → ¬ lt (f c) (f j)) (hl : lt (f j) (f i)) : DnI lt (swp f i j) n j := by
  have hij : i < j := by unfold par at hj; omega
  refine ⟨fun c hc0 hcn hne => ?_, fun _ c hc0 hcn hpc => ?_⟩
  · by_cases hcj : c = j
    · subst hcj
      rw [swp_r, hj, swp_l]
      exact w.asymm _ _ hl
    · by_cases hpi : par c = i
      · have : c ≠ i := by unfold par at hpi; omega
        rw [swp_o f this hcj, hpi, swp_l]
        exact hm c hc0 hcn hpi
      · rw [swp_o f hpi hne]
        by_cases hci : c = i
        · subst hci
          rw [swp_l]
          exact h.2 hc0 j h0 hn hj
        · rw [swp_o f hci hcj]
          exact h.1 c hc0 hcn hpi
  · have : c ≠ i := by unfold par at hpc; omega
    have h2 : c ≠ j := by unfold par at hpc; omega
    rw [swp_o f this h2, hj, swp_l]
    have h3 := h.1 c hc0 hcn (by omega)
    rw [hpc] at h3
    exact h3
theorem Hp.min (w : Wk lt) {f : Nat → α} {n : Nat} (h : Hp lt f n) (hirr : ∀ a, ¬ lt a a) : ∀ i, i < n → ¬ lt (f i) (f 0) := by
  intro i
  induction i using Nat.strongRecOn with
  | _ i ih =>
    intro hi
    by_cases h0 : i = 0
    · subst h0; exact hirr _
    · have hp : par i < i := by unfold par; omega
      exact w.ntrans _ _ _ (h i (by omega) hi) (ih (par i) hp (by omega))
/-- What the last place and the first are swapped to. -/
theorem Hp.popped {f : Nat → α} {n : Nat} (h : Hp lt f (n + 1)) : DnI lt (swp f 0 n) n 0 := by
  refine ⟨fun c h0 hn hp => ?_, fun h0 => absurd h0 (Nat.lt_irrefl _)⟩
  have : par c < c := by unfold par; omega
  rw [swp_o f (by omega) (by omega), swp_o f (by omega) (by omega)]
  exact h c h0 (by omega)
/-- The same things, otherwise ordered. -/
def SameF (n : Nat) (f g : Nat → α) : Prop := ∃ s : Nat → Nat, (∀ i, i < n → s i < n) ∧ (∀ i j, i < n → j < n → s i = s j → i = j) ∧ ∀ i, i < n → g i = f (s i)
theorem SameF.refl (n : Nat) (f : Nat → α) : SameF n f f := ⟨id, fun _ h => h, fun _ _ _ _ h => h, fun _ _ => rfl⟩
theorem SameF.trans {n : Nat} {f g h : Nat → α} (a : SameF n f g) (b : SameF n g h) : SameF n f h := by
  obtain ⟨s, s1, s2, s3⟩ := a
  obtain ⟨t, t1, t2, t3⟩ := b
  exact ⟨fun i => s (t i), fun i hi => s1 _ (t1 i hi), fun i j hi hj e => t2 i j hi hj (s2 _ _ (t1 i hi) (t1 j hj) e), fun i hi => (t3 i hi).trans (s3 _ (t1 i hi))⟩
theorem SameF.swp (f : Nat → α) {n i j : Nat} (hi : i < n) (hj : j < n) : SameF n f (swp f i j) := by
  refine ⟨fun k => if k = i then j else if k = j then i else k, fun k hk => ?_, fun a b ha hb => ?_, fun k hk => ?_⟩
  · dsimp; split
    · exact hj
    · split
      · exact hi
      · exact hk
  · dsimp; intro e; split at e <;> split at e <;> (try split at e) <;> (try split at e) <;> omega
  · unfold HeapL.swp; dsimp; split
    · rfl
    · split <;> rfl
theorem SameF.perm {n : Nat} {f g : Nat → α} (h : SameF n f g) : ((List.range n).map g).Perm ((List.range n).map f) := by
  obtain ⟨s, s1, s2, s3⟩ := h
  have e : (List.range n).map g = ((List.range n).map s).map f := by
    rw [List.map_map]
    exact List.map_congr_left fun i hi => s3 i (List.mem_range.1 hi)
  rw [e]
  refine List.Perm.map f ?_
  have nd : ((List.range n).map s).Nodup := by
    rw [List.Nodup, List.pairwise_map]
    refine List.Pairwise.imp_of_mem ?_ (List.nodup_range (n := n))
    intro a b ha hb hne e
    exact hne (s2 a b (List.mem_range.1 ha) (List.mem_range.1 hb) e)
  have sub : ((List.range n).map s) ⊆ List.range n := by
    intro x hx
    obtain ⟨i, hi, rfl⟩ := List.mem_map.1 hx
    exact List.mem_range.2 (s1 i (List.mem_range.1 hi))
  refine (List.perm_ext_iff_of_nodup nd List.nodup_range).2 fun a => ⟨fun h => sub h, fun ha => Classical.byContradiction fun hn => ?_⟩
  have h2 : (a :: (List.range n).map s).Nodup := List.nodup_cons.2 ⟨hn, nd⟩
  have h3 := h2.length_le_of_subset (l₂ := List.range n) (by
    intro x hx
    rcases List.mem_cons.1 hx with rfl | hx
    · exact ha
    · exact sub hx)
  simp at h3
  omega
theorem SameF.up {n : Nat} {f g : Nat → α} (h : SameF n f g) (hs : ∀ i, n ≤ i → g i = f i) (m : Nat) : SameF (n + m) f g := by
  obtain ⟨s, s1, s2, s3⟩ := h
  refine ⟨fun i => if i < n then s i else i, fun i hi => ?_, fun i j hi hj e => ?_, fun i hi => ?_⟩
  · dsimp; split
    · rename_i h; have := s1 i h; omega
    · exact hi
  · dsimp at e
    split at e <;> split at e
    · rename_i a b; exact s2 i j a b e
    · rename_i a b; have := s1 i a; omega
    · rename_i a b; have := s1 j b; omega
    · exact e
  · dsimp; split
    · rename_i h; exact s3 i h
    · exact hs i (by omega)
theorem SameF.all {n : Nat} {f g : Nat → α} (h : SameF n f g) {P : α → Prop} (hp : ∀ i, i < n → P (f i)) : ∀ i, i < n → P (g i) := by
  obtain ⟨s, s1, _, s3⟩ := h
  intro i hi
  rw [s3 i hi]
  exact hp _ (s1 i hi)
/-- The list of the first n. -/
def toL (f : Nat → α) (n : Nat) : List α := (List.range n).map f
theorem toL_succ (f : Nat → α) (n : Nat) : toL f (n + 1) = toL f n ++ [f n] := by simp [toL, List.range_succ]
theorem toL_congr {f g : Nat → α} {n : Nat} (h : ∀ i, i < n → f i = g i) : toL f n = toL g n := List.map_congr_left fun i hi => h i (List.mem_range.1 hi)
/-- The sorted order of a list is one. -/
theorem sorted_unique (w : Wk lt) {l1 l2 : List α} (h : l1.Perm l2) (s1 : l1.Pairwise lt) (s2 : l2.Pairwise lt) : l1 = l2 :=
  List.Perm.eq_of_pairwise (fun a b _ _ h1 h2 => absurd h2 (w.asymm _ _ h1)) s1 s2 h
theorem ins_sorted {β : Type} (key : β → Int) (ix : β → Nat) (l : List β) (x : β) (k : Nat) (hs : l.Pairwise fun a b => key a < key b ∨ (key a = key b ∧ ix a < ix b)) (hx : ∀ y, y ∈ l → ix y < ix x) (hk : k ≤ l.length)
    (h1 : ∀ i y, k ≤ i → l[i]? = some y → key x < key y) (h2 : k = 0 ∨ ∃ y, l[k - 1]? = some y ∧ key y ≤ key x) : (l.take k ++ x :: l.drop k).Pairwise fun a b => key a < key b ∨ (key a = key b ∧ ix a < ix b) := by
  have hd : ∀ y, y ∈ l.drop k → key x < key y := by
    intro y hy
    obtain ⟨i, hi⟩ := List.mem_iff_getElem?.1 hy
    rw [List.getElem?_drop] at hi
    exact h1 _ y (by omega) hi
  have hsplit : (l.take k ++ l.drop k).Pairwise fun a b => key a < key b ∨ (key a = key b ∧ ix a < ix b) := by rw [List.take_append_drop]; exact hs
  rw [List.pairwise_append] at hsplit ⊢
  obtain ⟨p1, p2, p3⟩ := hsplit
  have ht : ∀ y, y ∈ l.take k → key y ≤ key x := by
    intro y hy
    rcases h2 with h2 | ⟨z, hz, hzx⟩
    · subst h2; simp at hy
    · by_cases hk0 : k = 0
      · subst hk0; simp at hy
      · have e : l.take k = l.take (k - 1) ++ [z] := by
          have : k = (k - 1) + 1 := by omega
          rw [this, List.take_add_one]
          simp [hz]
        rw [e] at hy p1
        rcases List.mem_append.1 hy with hy | hy
        · have := (List.pairwise_append.1 p1).2.2 y hy z (by simp)
          omega
        · simp at hy; subst hy; exact hzx
  refine ⟨p1, List.pairwise_cons.2 ⟨fun y hy => .inl (hd y hy), p2⟩, fun a ha b hb => ?_⟩
  rcases List.mem_cons.1 hb with rfl | hb
  · have h3 := ht a ha
    have h4 := hx a (List.mem_of_mem_take ha)
    by_cases h5 : key a < key b
    · exact .inl h5
    · exact .inr ⟨by omega, h4⟩
  · exact p3 a ha b hb
theorem ins_perm {β : Type} (l : List β) (x : β) (k : Nat) : (l.take k ++ x :: l.drop k).Perm (l ++ [x]) := by
  have h : (l.take k ++ x :: l.drop k).Perm (x :: (l.take k ++ l.drop k)) := List.perm_middle
  rw [List.take_append_drop] at h
  exact h.trans (List.perm_append_comm (l₁ := [x]) (l₂ := l))
end HeapL
end Go.Proofs.Ytkmpajdiedpfhaa
