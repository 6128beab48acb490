/- Slices in new memory: slices.Clone at the types of a configuration. No conditions but those stated. -/
import Derived.Test.YtkmpajdiedpfhaaConf
import Derived.Test.YtkmpajdiedpfhaaFlat
import Derived.Laws.AppendOwn
namespace Go.Proofs.Ytkmpajdiedpfhaa
open Go.ChangeShapes Go.WideShapes Go.ChangeAt Go.RowKit
set_option linter.unusedVariables false
set_option linter.unusedSimpArgs false
/-- The row reads as the list. -/
def RowD {α : Type} (w : World) (g : Nat) (e : TypeId) (size : Nat) (Rep : α → List Value → Prop) (l : List α) : Prop :=
  ∃ f : Nat → List Value, OwnRow w g e (flatR f l.length) ∧ ∀ (i : Nat) (x : α), l[i]? = some x → (f i).length = size ∧ Rep x (f i)
/-- The slice, in a row of its own from block lo on, reads as the list. -/
def FreshSl {α : Type} (lo : Nat) (w : World) (e : TypeId) (size : Nat) (Rep : α → List Value → Prop) (v : Value) (l : List α) : Prop :=
  (l = [] ∧ ∃ ao cap, v = .slice ao 0 cap ∧ cap ≤ maxLen) ∨ ∃ g cap, v = .slice (some ⟨g, 0, none⟩) l.length cap ∧ lo ≤ g ∧ l.length ≤ cap ∧ cap ≤ maxLen ∧ RowD w g e size Rep l
section
variable {α : Type} {w w' : World} {e size lo : Nat} {Rep Rep' : α → List Value → Prop} {l : List α} {v : Value}
theorem RowD.cell {g : Nat} (h : RowD w g e size Rep l) (i : Nat) (x : α) (hx : l[i]? = some x) : ∃ cs, cs.length = size ∧ (∀ (j : Nat) (u : Value), cs[j]? = some u → w.cell? ⟨g, 0 + i * size + j, none⟩ = some u) ∧ Rep x cs := by
  obtain ⟨f, ho, hf⟩ := h
  have hi : i < l.length := (List.getElem?_eq_some_iff.1 hx).1
  obtain ⟨h1, h2⟩ := hf i x hx
  refine ⟨f i, h1, fun j u hu => ?_, h2⟩
  have hj : j < size := by rw [← h1]; exact (List.getElem?_eq_some_iff.1 hu).1
  rw [Nat.zero_add]
  exact ho.cell _ _ ((flatR_get l.length (fun i' hi' => (hf i' _ (List.getElem?_eq_getElem hi')).1) i j hi hj).trans hu)
theorem FreshSl.sld (h : FreshSl lo w e size Rep v l) : SlD (fun b => lo ≤ b) w size Rep v l := by
  rcases h with ⟨rfl, ao, cap, rfl, hc⟩ | ⟨g, cap, rfl, hg, hle, hc, hr⟩
  · exact ⟨ao, cap, rfl, Nat.zero_le _, hc, fun i x hi => by simp at hi⟩
  · refine ⟨_, cap, rfl, hle, hc, fun i x hi => ?_⟩
    obtain ⟨cs, h1, h2, h3⟩ := hr.cell i x hi
    obtain ⟨f, ho, _⟩ := hr
    exact ⟨g, 0, cs, rfl, hg, ho.lt, h1, h2, h3⟩
theorem RowD.keep {g : Nat} {S : List Nat} (h : RowD w g e size Rep l) (k : Keep S w w') (hg : g ∉ S) (hR : ∀ x cs, x ∈ l → Rep x cs → Rep' x cs) : RowD w' g e size Rep' l := by
  obtain ⟨f, ho, hf⟩ := h
  exact ⟨f, ho.keep k hg, fun i x hi => ⟨(hf i x hi).1, hR x _ (List.mem_of_getElem? hi) (hf i x hi).2⟩⟩
theorem FreshSl.keep0 (h : FreshSl lo w e size Rep v l) (k : Keep [] w w') (hR : ∀ x cs, x ∈ l → Rep x cs → Rep' x cs) : FreshSl lo w' e size Rep' v l := by
  rcases h with h | ⟨g, cap, e1, hg, hle, hc, hr⟩
  · exact .inl h
  · exact .inr ⟨g, cap, e1, hg, hle, hc, hr.keep k (by simp) hR⟩
/-- The cells of a slice, one behind the other. -/
theorem sld_flat {B : Nat → Prop} (h : SlD B w size Rep v l) (hne : l ≠ []) (hpos : 0 < size) : ∃ b o cap, ∃ f : Nat → List Value, v = .slice (some ⟨b, o, none⟩) l.length cap ∧ (∀ (i : Nat) (x : α), l[i]? = some x → (f i).length = size ∧ Rep x (f i)) ∧
    ∀ (j : Nat) (u : Value), (flatR f l.length)[j]? = some u → w.cell? ((⟨b, o, none⟩ : Addr).add j) = some u := by
  obtain ⟨ao, cap, rfl, h1, h2, h3⟩ := h
  have hl : 0 < l.length := by cases l with | nil => exact absurd rfl hne | cons _ _ => simp
  obtain ⟨b, o, _, rfl, _⟩ := h3 0 l[0] (List.getElem?_eq_getElem hl)
  have hc : ∀ i : Nat, ∃ cs : List Value, ∀ x, l[i]? = some x → cs.length = size ∧ Rep x cs ∧ ∀ (j : Nat) (u : Value), cs[j]? = some u → w.cell? ⟨b, o + i * size + j, none⟩ = some u := by
    intro i
    by_cases hi : i < l.length
    · obtain ⟨b', o', cs, e, _, _, q1, q2, q3⟩ := h3 i l[i] (List.getElem?_eq_getElem hi)
      cases e
      exact ⟨cs, fun x hx => by rw [List.getElem?_eq_getElem hi] at hx; cases hx; exact ⟨q1, q3, q2⟩⟩
    · exact ⟨[], fun x hx => absurd (List.getElem?_eq_some_iff.1 hx).1 hi⟩
  obtain ⟨f, hf⟩ := Classical.axiomOfChoice hc
  refine ⟨b, o, cap, f, rfl, fun i x hx => ⟨(hf i x hx).1, (hf i x hx).2.1⟩, ?_⟩
  exact flatR_cells l.length hpos (fun i hi => (hf i _ (List.getElem?_eq_getElem hi)).1) (fun i hi j u hu => (hf i _ (List.getElem?_eq_getElem hi)).2.2 j u hu)
theorem flat_one {f : Nat → List Value} (hf : ∀ (i : Nat) (x : α), l[i]? = some x → (f i).length = size ∧ Rep x (f i)) (h1 : ∀ x cs, Rep x cs → ∀ u ∈ cs, u.oneCell' = true) : ∀ u ∈ flatR f l.length, u.oneCell' = true := by
  intro u hu
  obtain ⟨i, hi, hm⟩ := flatR_mem _ hu
  exact h1 _ _ (hf i _ (List.getElem?_eq_getElem hi)).2 u hm
theorem flat_len {f : Nat → List Value} (hf : ∀ (i : Nat) (x : α), l[i]? = some x → (f i).length = size ∧ Rep x (f i)) : (flatR f l.length).length = l.length * size :=
  flatR_length _ (fun i hi => (hf i _ (List.getElem?_eq_getElem hi)).1)
end
def ClonePost {α : Type} (w : World) (T size : Nat) (Rep : α → List Value → Prop) (l : List α) (e : Ending) (w' : World) : Prop := ∃ v', e = .returned v' ∧ FreshSl w.heap.size w' T size Rep v' l ∧ Keep [] w w'

theorem cloneI_info : (Try.prog.info? 2).map (fun i => (i.zero, i.size, i.bytes)) = some (some (.int .i64 0), 1, 8) := by kernel_rfl
theorem cloneI_nil (w : World) (n c : Nat) : Calls Try.prog 53 #[.slice none n c] w fun e w' => e = .returned (.slice none 0 0) ∧ w = w' := by
  have hnil := Lib.run_eql_slice_nil (P := Try.prog) w 40 2 none n c 0 0 Try.underlying40
  go_enter Try.func53, Try.ntmps53
  go_wp2
  go_ret
  exact ⟨rfl, rfl⟩
theorem cloneI_some {w : World} (ad : Addr) (n c : Nat) (xs : List Value) (hx : xs.length = n * 1) (h1 : ∀ u ∈ xs, u.oneCell' = true)
    (hc : ∀ (j : Nat) (u : Value), xs[j]? = some u → w.cell? (ad.add j) = some u) (hm : n * 8 ≤ 140737488355328) :
    Calls Try.prog 53 #[.slice (some ad) n c] w fun e w' =>
      ∃ g cap, e = .returned (.slice (some ⟨g, 0, none⟩) n cap) ∧ OwnRow w' g 2 xs ∧ w.heap.size ≤ g ∧ n ≤ cap ∧ cap ≤ maxLen ∧ Keep [] w w' := by
  obtain ⟨i, hi, hz0, hz1, hz2⟩ := info_parts cloneI_info
  have hnil := Lib.run_eql_slice_nil (P := Try.prog) w 40 2 (some ad) n c 0 0 Try.underlying40
  have hblt : ∀ (j : Nat) (u : Value), xs[j]? = some u → (w.alloc (.cells #[] 2)).cell? (ad.add j) = some u := by
    intro j u hu
    have h2 := hc j u hu
    have h3 := World.block_lt_of_cell? w _ h2
    rw [World.cell?_of_block (w := w) (Below.heap_alloc _ _ _ h3)]
    exact h2
  have hown : (w.alloc (.cells #[] 2)).ownsRow w.heap.size 2 1 (.slice (some ⟨w.heap.size, 0, none⟩) 0 0) 0 [] :=
    World.ownsRow_made w #[] 0 (Nat.le_refl _) (by simp [maxLen]) (by simp)
  have fin : ∀ v' w', w'.ownsRow w.heap.size 2 1 v' n xs → (w.alloc (.cells #[] 2)).grownBy w' (Value.ownBlock (.slice (some ⟨w.heap.size, 0, none⟩) 0 0)) →
      ¬ v' = Value.slice none 0 0 →
      ∃ g cap, v' = (.slice (some ⟨g, 0, none⟩) n cap) ∧ OwnRow w' g 2 xs ∧ w.heap.size ≤ g ∧ n ≤ cap ∧ cap ≤ maxLen ∧ Keep [] w w' := by
    intro v' w' h2 h3 h4
    rcases h2.2 with ⟨rfl, h5⟩ | ⟨g, cap, cur, rfl, hb, hg, hnc, hcm, hcs, htake⟩
    · exact absurd rfl h4
    · exact ⟨g, cap, rfl, ⟨cur, hg, by rw [hx]; exact htake⟩, hb, hnc, hcm, ((Keep.refl _ _).alloc _).of_grown h3 (fun k hk => .inl (by simp [Value.ownBlock] at hk; omega))⟩
  have Hc := Lib.hid hblt
  have Hx := Lib.hid hx
  have H1 := Lib.hid h1
  have Ho := Lib.hid hown
  have Hf := Lib.hid fin
  clear hblt hx h1 hown hc fin
  go_enter Try.func53, Try.ntmps53
  go_wp2_with (at_builtin; refine wpList_append_own _ rfl _ _ 40 rfl w.heap.size 2 i _ 1 8 Try.underlying40 hi hz0 hz1 hz2 rfl (by omega) _ 0 [] rfl Ho.out ad n c xs rfl Hx.out Hc.out H1.out (by unfold maxLen; omega) (by omega) (by simp) ?_)
  intro v' w' h2 h3 h4
  have hf := Lib.hid (Hf.out v' w' h2 h3 h4)
  clear h2 h3 h4
  go_wp2
  go_ret
  obtain ⟨g, cap, rfl, h5⟩ := hf.out
  exact ⟨g, cap, rfl, h5⟩
theorem cloneI_sl {α : Type} {B : Nat → Prop} {w : World} {Rep : α → List Value → Prop} {v : Value} {l : List α} (h : SlD B w 1 Rep v l) (h1 : ∀ x cs, Rep x cs → ∀ u ∈ cs, u.oneCell' = true) (hb : l.length ≤ 1000) :
    Calls Try.prog 53 #[v] w (ClonePost w 2 1 Rep l) := by
  by_cases hne : l = []
  · subst hne
    obtain ⟨ao, cap, rfl, _⟩ := h
    cases ao with
    | none => exact (cloneI_nil w _ _).mono fun e w' ⟨he, hw⟩ => ⟨_, he, .inl ⟨rfl, none, 0, rfl, by simp [maxLen]⟩, hw ▸ Keep.refl _ _⟩
    | some ad => exact (cloneI_some ad _ cap [] rfl (by simp) (fun j u hu => by simp at hu) (by simp)).mono fun e w' ⟨g, cp, he, ho, hg, hle, hcm, hk⟩ => ⟨_, he, .inr ⟨g, cp, rfl, hg, hle, hcm, fun _ => [], ho, fun i x hi => by simp at hi⟩, hk⟩
  · obtain ⟨b, o, cap, f, rfl, hf, hc⟩ := sld_flat h hne (by decide)
    exact (cloneI_some ⟨b, o, none⟩ _ cap (flatR f l.length) (flat_len hf) (flat_one hf h1) hc (by omega)).mono fun e w' ⟨g, cp, he, ho, hg, hle, hcm, hk⟩ => ⟨_, he, .inr ⟨g, cp, rfl, hg, hle, hcm, f, ho, hf⟩, hk⟩

theorem cloneCl_info : (Try.prog.info? 42).map (fun i => (i.zero, i.size, i.bytes)) = some (some (.agg #[.int .i64 0, .int .i64 0, .int .i64 0, .int .i64 0, .slice none 0 0, .int .i64 0]), 6, 64) := by kernel_rfl
theorem cloneCl_nil (w : World) (n c : Nat) : Calls Try.prog 57 #[.slice none n c] w fun e w' => e = .returned (.slice none 0 0) ∧ w = w' := by
  have hnil := Lib.run_eql_slice_nil (P := Try.prog) w 56 42 none n c 0 0 Try.underlying56
  go_enter Try.func57, Try.ntmps57
  go_wp2
  go_ret
  exact ⟨rfl, rfl⟩
theorem cloneCl_some {w : World} (ad : Addr) (n c : Nat) (xs : List Value) (hx : xs.length = n * 6) (h1 : ∀ u ∈ xs, u.oneCell' = true)
    (hc : ∀ (j : Nat) (u : Value), xs[j]? = some u → w.cell? (ad.add j) = some u) (hm : n * 64 ≤ 140737488355328) :
    Calls Try.prog 57 #[.slice (some ad) n c] w fun e w' =>
      ∃ g cap, e = .returned (.slice (some ⟨g, 0, none⟩) n cap) ∧ OwnRow w' g 42 xs ∧ w.heap.size ≤ g ∧ n ≤ cap ∧ cap ≤ maxLen ∧ Keep [] w w' := by
  obtain ⟨i, hi, hz0, hz1, hz2⟩ := info_parts cloneCl_info
  have hnil := Lib.run_eql_slice_nil (P := Try.prog) w 56 42 (some ad) n c 0 0 Try.underlying56
  have hblt : ∀ (j : Nat) (u : Value), xs[j]? = some u → (w.alloc (.cells #[] 42)).cell? (ad.add j) = some u := by
    intro j u hu
    have h2 := hc j u hu
    have h3 := World.block_lt_of_cell? w _ h2
    rw [World.cell?_of_block (w := w) (Below.heap_alloc _ _ _ h3)]
    exact h2
  have hown : (w.alloc (.cells #[] 42)).ownsRow w.heap.size 42 6 (.slice (some ⟨w.heap.size, 0, none⟩) 0 0) 0 [] :=
    World.ownsRow_made w #[] 0 (Nat.le_refl _) (by simp [maxLen]) (by simp)
  have fin : ∀ v' w', w'.ownsRow w.heap.size 42 6 v' n xs → (w.alloc (.cells #[] 42)).grownBy w' (Value.ownBlock (.slice (some ⟨w.heap.size, 0, none⟩) 0 0)) →
      ¬ v' = Value.slice none 0 0 →
      ∃ g cap, v' = (.slice (some ⟨g, 0, none⟩) n cap) ∧ OwnRow w' g 42 xs ∧ w.heap.size ≤ g ∧ n ≤ cap ∧ cap ≤ maxLen ∧ Keep [] w w' := by
    intro v' w' h2 h3 h4
    rcases h2.2 with ⟨rfl, h5⟩ | ⟨g, cap, cur, rfl, hb, hg, hnc, hcm, hcs, htake⟩
    · exact absurd rfl h4
    · exact ⟨g, cap, rfl, ⟨cur, hg, by rw [hx]; exact htake⟩, hb, hnc, hcm, ((Keep.refl _ _).alloc _).of_grown h3 (fun k hk => .inl (by simp [Value.ownBlock] at hk; omega))⟩
  have Hc := Lib.hid hblt
  have Hx := Lib.hid hx
  have H1 := Lib.hid h1
  have Ho := Lib.hid hown
  have Hf := Lib.hid fin
  clear hblt hx h1 hown hc fin
  go_enter Try.func57, Try.ntmps57
  go_wp2_with (at_builtin; refine wpList_append_own _ rfl _ _ 56 rfl w.heap.size 42 i _ 6 64 Try.underlying56 hi hz0 hz1 hz2 rfl (by omega) _ 0 [] rfl Ho.out ad n c xs rfl Hx.out Hc.out H1.out (by unfold maxLen; omega) (by omega) (by simp) ?_)
  intro v' w' h2 h3 h4
  have hf := Lib.hid (Hf.out v' w' h2 h3 h4)
  clear h2 h3 h4
  go_wp2
  go_ret
  obtain ⟨g, cap, rfl, h5⟩ := hf.out
  exact ⟨g, cap, rfl, h5⟩
theorem cloneCl_sl {α : Type} {B : Nat → Prop} {w : World} {Rep : α → List Value → Prop} {v : Value} {l : List α} (h : SlD B w 6 Rep v l) (h1 : ∀ x cs, Rep x cs → ∀ u ∈ cs, u.oneCell' = true) (hb : l.length ≤ 1000) :
    Calls Try.prog 57 #[v] w (ClonePost w 42 6 Rep l) := by
  by_cases hne : l = []
  · subst hne
    obtain ⟨ao, cap, rfl, _⟩ := h
    cases ao with
    | none => exact (cloneCl_nil w _ _).mono fun e w' ⟨he, hw⟩ => ⟨_, he, .inl ⟨rfl, none, 0, rfl, by simp [maxLen]⟩, hw ▸ Keep.refl _ _⟩
    | some ad => exact (cloneCl_some ad _ cap [] rfl (by simp) (fun j u hu => by simp at hu) (by simp)).mono fun e w' ⟨g, cp, he, ho, hg, hle, hcm, hk⟩ => ⟨_, he, .inr ⟨g, cp, rfl, hg, hle, hcm, fun _ => [], ho, fun i x hi => by simp at hi⟩, hk⟩
  · obtain ⟨b, o, cap, f, rfl, hf, hc⟩ := sld_flat h hne (by decide)
    exact (cloneCl_some ⟨b, o, none⟩ _ cap (flatR f l.length) (flat_len hf) (flat_one hf h1) hc (by omega)).mono fun e w' ⟨g, cp, he, ho, hg, hle, hcm, hk⟩ => ⟨_, he, .inr ⟨g, cp, rfl, hg, hle, hcm, f, ho, hf⟩, hk⟩

theorem cloneT_info : (Try.prog.info? 58).map (fun i => (i.zero, i.size, i.bytes)) = some (some (.agg #[.int .i64 0, .int .u32 0, .bool false, .slice none 0 0]), 4, 40) := by kernel_rfl
theorem cloneT_nil (w : World) (n c : Nat) : Calls Try.prog 56 #[.slice none n c] w fun e w' => e = .returned (.slice none 0 0) ∧ w = w' := by
  have hnil := Lib.run_eql_slice_nil (P := Try.prog) w 51 58 none n c 0 0 Try.underlying51
  go_enter Try.func56, Try.ntmps56
  go_wp2
  go_ret
  exact ⟨rfl, rfl⟩
theorem cloneT_some {w : World} (ad : Addr) (n c : Nat) (xs : List Value) (hx : xs.length = n * 4) (h1 : ∀ u ∈ xs, u.oneCell' = true)
    (hc : ∀ (j : Nat) (u : Value), xs[j]? = some u → w.cell? (ad.add j) = some u) (hm : n * 40 ≤ 140737488355328) :
    Calls Try.prog 56 #[.slice (some ad) n c] w fun e w' =>
      ∃ g cap, e = .returned (.slice (some ⟨g, 0, none⟩) n cap) ∧ OwnRow w' g 58 xs ∧ w.heap.size ≤ g ∧ n ≤ cap ∧ cap ≤ maxLen ∧ Keep [] w w' := by
  obtain ⟨i, hi, hz0, hz1, hz2⟩ := info_parts cloneT_info
  have hnil := Lib.run_eql_slice_nil (P := Try.prog) w 51 58 (some ad) n c 0 0 Try.underlying51
  have hblt : ∀ (j : Nat) (u : Value), xs[j]? = some u → (w.alloc (.cells #[] 58)).cell? (ad.add j) = some u := by
    intro j u hu
    have h2 := hc j u hu
    have h3 := World.block_lt_of_cell? w _ h2
    rw [World.cell?_of_block (w := w) (Below.heap_alloc _ _ _ h3)]
    exact h2
  have hown : (w.alloc (.cells #[] 58)).ownsRow w.heap.size 58 4 (.slice (some ⟨w.heap.size, 0, none⟩) 0 0) 0 [] :=
    World.ownsRow_made w #[] 0 (Nat.le_refl _) (by simp [maxLen]) (by simp)
  have fin : ∀ v' w', w'.ownsRow w.heap.size 58 4 v' n xs → (w.alloc (.cells #[] 58)).grownBy w' (Value.ownBlock (.slice (some ⟨w.heap.size, 0, none⟩) 0 0)) →
      ¬ v' = Value.slice none 0 0 →
      ∃ g cap, v' = (.slice (some ⟨g, 0, none⟩) n cap) ∧ OwnRow w' g 58 xs ∧ w.heap.size ≤ g ∧ n ≤ cap ∧ cap ≤ maxLen ∧ Keep [] w w' := by
    intro v' w' h2 h3 h4
    rcases h2.2 with ⟨rfl, h5⟩ | ⟨g, cap, cur, rfl, hb, hg, hnc, hcm, hcs, htake⟩
    · exact absurd rfl h4
    · exact ⟨g, cap, rfl, ⟨cur, hg, by rw [hx]; exact htake⟩, hb, hnc, hcm, ((Keep.refl _ _).alloc _).of_grown h3 (fun k hk => .inl (by simp [Value.ownBlock] at hk; omega))⟩
  have Hc := Lib.hid hblt
  have Hx := Lib.hid hx
  have H1 := Lib.hid h1
  have Ho := Lib.hid hown
  have Hf := Lib.hid fin
  clear hblt hx h1 hown hc fin
  go_enter Try.func56, Try.ntmps56
  go_wp2_with (at_builtin; refine wpList_append_own _ rfl _ _ 51 rfl w.heap.size 58 i _ 4 40 Try.underlying51 hi hz0 hz1 hz2 rfl (by omega) _ 0 [] rfl Ho.out ad n c xs rfl Hx.out Hc.out H1.out (by unfold maxLen; omega) (by omega) (by simp) ?_)
  intro v' w' h2 h3 h4
  have hf := Lib.hid (Hf.out v' w' h2 h3 h4)
  clear h2 h3 h4
  go_wp2
  go_ret
  obtain ⟨g, cap, rfl, h5⟩ := hf.out
  exact ⟨g, cap, rfl, h5⟩
theorem cloneT_sl {α : Type} {B : Nat → Prop} {w : World} {Rep : α → List Value → Prop} {v : Value} {l : List α} (h : SlD B w 4 Rep v l) (h1 : ∀ x cs, Rep x cs → ∀ u ∈ cs, u.oneCell' = true) (hb : l.length ≤ 1000) :
    Calls Try.prog 56 #[v] w (ClonePost w 58 4 Rep l) := by
  by_cases hne : l = []
  · subst hne
    obtain ⟨ao, cap, rfl, _⟩ := h
    cases ao with
    | none => exact (cloneT_nil w _ _).mono fun e w' ⟨he, hw⟩ => ⟨_, he, .inl ⟨rfl, none, 0, rfl, by simp [maxLen]⟩, hw ▸ Keep.refl _ _⟩
    | some ad => exact (cloneT_some ad _ cap [] rfl (by simp) (fun j u hu => by simp at hu) (by simp)).mono fun e w' ⟨g, cp, he, ho, hg, hle, hcm, hk⟩ => ⟨_, he, .inr ⟨g, cp, rfl, hg, hle, hcm, fun _ => [], ho, fun i x hi => by simp at hi⟩, hk⟩
  · obtain ⟨b, o, cap, f, rfl, hf, hc⟩ := sld_flat h hne (by decide)
    exact (cloneT_some ⟨b, o, none⟩ _ cap (flatR f l.length) (flat_len hf) (flat_one hf h1) hc (by omega)).mono fun e w' ⟨g, cp, he, ho, hg, hle, hcm, hk⟩ => ⟨_, he, .inr ⟨g, cp, rfl, hg, hle, hcm, f, ho, hf⟩, hk⟩

theorem cloneO_info : (Try.prog.info? 99).map (fun i => (i.zero, i.size, i.bytes)) = some (some (.agg #[.int .i64 0, .int .i64 0, .bool false]), 3, 24) := by kernel_rfl
theorem cloneO_nil (w : World) (n c : Nat) : Calls Try.prog 58 #[.slice none n c] w fun e w' => e = .returned (.slice none 0 0) ∧ w = w' := by
  have hnil := Lib.run_eql_slice_nil (P := Try.prog) w 52 99 none n c 0 0 Try.underlying52
  go_enter Try.func58, Try.ntmps58
  go_wp2
  go_ret
  exact ⟨rfl, rfl⟩
theorem cloneO_some {w : World} (ad : Addr) (n c : Nat) (xs : List Value) (hx : xs.length = n * 3) (h1 : ∀ u ∈ xs, u.oneCell' = true)
    (hc : ∀ (j : Nat) (u : Value), xs[j]? = some u → w.cell? (ad.add j) = some u) (hm : n * 24 ≤ 140737488355328) :
    Calls Try.prog 58 #[.slice (some ad) n c] w fun e w' =>
      ∃ g cap, e = .returned (.slice (some ⟨g, 0, none⟩) n cap) ∧ OwnRow w' g 99 xs ∧ w.heap.size ≤ g ∧ n ≤ cap ∧ cap ≤ maxLen ∧ Keep [] w w' := by
  obtain ⟨i, hi, hz0, hz1, hz2⟩ := info_parts cloneO_info
  have hnil := Lib.run_eql_slice_nil (P := Try.prog) w 52 99 (some ad) n c 0 0 Try.underlying52
  have hblt : ∀ (j : Nat) (u : Value), xs[j]? = some u → (w.alloc (.cells #[] 99)).cell? (ad.add j) = some u := by
    intro j u hu
    have h2 := hc j u hu
    have h3 := World.block_lt_of_cell? w _ h2
    rw [World.cell?_of_block (w := w) (Below.heap_alloc _ _ _ h3)]
    exact h2
  have hown : (w.alloc (.cells #[] 99)).ownsRow w.heap.size 99 3 (.slice (some ⟨w.heap.size, 0, none⟩) 0 0) 0 [] :=
    World.ownsRow_made w #[] 0 (Nat.le_refl _) (by simp [maxLen]) (by simp)
  have fin : ∀ v' w', w'.ownsRow w.heap.size 99 3 v' n xs → (w.alloc (.cells #[] 99)).grownBy w' (Value.ownBlock (.slice (some ⟨w.heap.size, 0, none⟩) 0 0)) →
      ¬ v' = Value.slice none 0 0 →
      ∃ g cap, v' = (.slice (some ⟨g, 0, none⟩) n cap) ∧ OwnRow w' g 99 xs ∧ w.heap.size ≤ g ∧ n ≤ cap ∧ cap ≤ maxLen ∧ Keep [] w w' := by
    intro v' w' h2 h3 h4
    rcases h2.2 with ⟨rfl, h5⟩ | ⟨g, cap, cur, rfl, hb, hg, hnc, hcm, hcs, htake⟩
    · exact absurd rfl h4
    · exact ⟨g, cap, rfl, ⟨cur, hg, by rw [hx]; exact htake⟩, hb, hnc, hcm, ((Keep.refl _ _).alloc _).of_grown h3 (fun k hk => .inl (by simp [Value.ownBlock] at hk; omega))⟩
  have Hc := Lib.hid hblt
  have Hx := Lib.hid hx
  have H1 := Lib.hid h1
  have Ho := Lib.hid hown
  have Hf := Lib.hid fin
  clear hblt hx h1 hown hc fin
  go_enter Try.func58, Try.ntmps58
  go_wp2_with (at_builtin; refine wpList_append_own _ rfl _ _ 52 rfl w.heap.size 99 i _ 3 24 Try.underlying52 hi hz0 hz1 hz2 rfl (by omega) _ 0 [] rfl Ho.out ad n c xs rfl Hx.out Hc.out H1.out (by unfold maxLen; omega) (by omega) (by simp) ?_)
  intro v' w' h2 h3 h4
  have hf := Lib.hid (Hf.out v' w' h2 h3 h4)
  clear h2 h3 h4
  go_wp2
  go_ret
  obtain ⟨g, cap, rfl, h5⟩ := hf.out
  exact ⟨g, cap, rfl, h5⟩
theorem cloneO_sl {α : Type} {B : Nat → Prop} {w : World} {Rep : α → List Value → Prop} {v : Value} {l : List α} (h : SlD B w 3 Rep v l) (h1 : ∀ x cs, Rep x cs → ∀ u ∈ cs, u.oneCell' = true) (hb : l.length ≤ 1000) :
    Calls Try.prog 58 #[v] w (ClonePost w 99 3 Rep l) := by
  by_cases hne : l = []
  · subst hne
    obtain ⟨ao, cap, rfl, _⟩ := h
    cases ao with
    | none => exact (cloneO_nil w _ _).mono fun e w' ⟨he, hw⟩ => ⟨_, he, .inl ⟨rfl, none, 0, rfl, by simp [maxLen]⟩, hw ▸ Keep.refl _ _⟩
    | some ad => exact (cloneO_some ad _ cap [] rfl (by simp) (fun j u hu => by simp at hu) (by simp)).mono fun e w' ⟨g, cp, he, ho, hg, hle, hcm, hk⟩ => ⟨_, he, .inr ⟨g, cp, rfl, hg, hle, hcm, fun _ => [], ho, fun i x hi => by simp at hi⟩, hk⟩
  · obtain ⟨b, o, cap, f, rfl, hf, hc⟩ := sld_flat h hne (by decide)
    exact (cloneO_some ⟨b, o, none⟩ _ cap (flatR f l.length) (flat_len hf) (flat_one hf h1) hc (by omega)).mono fun e w' ⟨g, cp, he, ho, hg, hle, hcm, hk⟩ => ⟨_, he, .inr ⟨g, cp, rfl, hg, hle, hcm, f, ho, hf⟩, hk⟩

theorem cloneP_info : (Try.prog.info? 54).map (fun i => (i.zero, i.size, i.bytes)) = some (some (.agg #[.slice none 0 0, .slice none 0 0]), 2, 48) := by kernel_rfl
theorem cloneP_nil (w : World) (n c : Nat) : Calls Try.prog 40 #[.slice none n c] w fun e w' => e = .returned (.slice none 0 0) ∧ w = w' := by
  have hnil := Lib.run_eql_slice_nil (P := Try.prog) w 22 54 none n c 0 0 Try.underlying22
  go_enter Try.func40, Try.ntmps40
  go_wp2
  go_ret
  exact ⟨rfl, rfl⟩
theorem cloneP_some {w : World} (ad : Addr) (n c : Nat) (xs : List Value) (hx : xs.length = n * 2) (h1 : ∀ u ∈ xs, u.oneCell' = true)
    (hc : ∀ (j : Nat) (u : Value), xs[j]? = some u → w.cell? (ad.add j) = some u) (hm : n * 48 ≤ 140737488355328) :
    Calls Try.prog 40 #[.slice (some ad) n c] w fun e w' =>
      ∃ g cap, e = .returned (.slice (some ⟨g, 0, none⟩) n cap) ∧ OwnRow w' g 54 xs ∧ w.heap.size ≤ g ∧ n ≤ cap ∧ cap ≤ maxLen ∧ Keep [] w w' := by
  obtain ⟨i, hi, hz0, hz1, hz2⟩ := info_parts cloneP_info
  have hnil := Lib.run_eql_slice_nil (P := Try.prog) w 22 54 (some ad) n c 0 0 Try.underlying22
  have hblt : ∀ (j : Nat) (u : Value), xs[j]? = some u → (w.alloc (.cells #[] 54)).cell? (ad.add j) = some u := by
    intro j u hu
    have h2 := hc j u hu
    have h3 := World.block_lt_of_cell? w _ h2
    rw [World.cell?_of_block (w := w) (Below.heap_alloc _ _ _ h3)]
    exact h2
  have hown : (w.alloc (.cells #[] 54)).ownsRow w.heap.size 54 2 (.slice (some ⟨w.heap.size, 0, none⟩) 0 0) 0 [] :=
    World.ownsRow_made w #[] 0 (Nat.le_refl _) (by simp [maxLen]) (by simp)
  have fin : ∀ v' w', w'.ownsRow w.heap.size 54 2 v' n xs → (w.alloc (.cells #[] 54)).grownBy w' (Value.ownBlock (.slice (some ⟨w.heap.size, 0, none⟩) 0 0)) →
      ¬ v' = Value.slice none 0 0 →
      ∃ g cap, v' = (.slice (some ⟨g, 0, none⟩) n cap) ∧ OwnRow w' g 54 xs ∧ w.heap.size ≤ g ∧ n ≤ cap ∧ cap ≤ maxLen ∧ Keep [] w w' := by
    intro v' w' h2 h3 h4
    rcases h2.2 with ⟨rfl, h5⟩ | ⟨g, cap, cur, rfl, hb, hg, hnc, hcm, hcs, htake⟩
    · exact absurd rfl h4
    · exact ⟨g, cap, rfl, ⟨cur, hg, by rw [hx]; exact htake⟩, hb, hnc, hcm, ((Keep.refl _ _).alloc _).of_grown h3 (fun k hk => .inl (by simp [Value.ownBlock] at hk; omega))⟩
  have Hc := Lib.hid hblt
  have Hx := Lib.hid hx
  have H1 := Lib.hid h1
  have Ho := Lib.hid hown
  have Hf := Lib.hid fin
  clear hblt hx h1 hown hc fin
  go_enter Try.func40, Try.ntmps40
  go_wp2_with (at_builtin; refine wpList_append_own _ rfl _ _ 22 rfl w.heap.size 54 i _ 2 48 Try.underlying22 hi hz0 hz1 hz2 rfl (by omega) _ 0 [] rfl Ho.out ad n c xs rfl Hx.out Hc.out H1.out (by unfold maxLen; omega) (by omega) (by simp) ?_)
  intro v' w' h2 h3 h4
  have hf := Lib.hid (Hf.out v' w' h2 h3 h4)
  clear h2 h3 h4
  go_wp2
  go_ret
  obtain ⟨g, cap, rfl, h5⟩ := hf.out
  exact ⟨g, cap, rfl, h5⟩
theorem cloneP_sl {α : Type} {B : Nat → Prop} {w : World} {Rep : α → List Value → Prop} {v : Value} {l : List α} (h : SlD B w 2 Rep v l) (h1 : ∀ x cs, Rep x cs → ∀ u ∈ cs, u.oneCell' = true) (hb : l.length ≤ 1000) :
    Calls Try.prog 40 #[v] w (ClonePost w 54 2 Rep l) := by
  by_cases hne : l = []
  · subst hne
    obtain ⟨ao, cap, rfl, _⟩ := h
    cases ao with
    | none => exact (cloneP_nil w _ _).mono fun e w' ⟨he, hw⟩ => ⟨_, he, .inl ⟨rfl, none, 0, rfl, by simp [maxLen]⟩, hw ▸ Keep.refl _ _⟩
    | some ad => exact (cloneP_some ad _ cap [] rfl (by simp) (fun j u hu => by simp at hu) (by simp)).mono fun e w' ⟨g, cp, he, ho, hg, hle, hcm, hk⟩ => ⟨_, he, .inr ⟨g, cp, rfl, hg, hle, hcm, fun _ => [], ho, fun i x hi => by simp at hi⟩, hk⟩
  · obtain ⟨b, o, cap, f, rfl, hf, hc⟩ := sld_flat h hne (by decide)
    exact (cloneP_some ⟨b, o, none⟩ _ cap (flatR f l.length) (flat_len hf) (flat_one hf h1) hc (by omega)).mono fun e w' ⟨g, cp, he, ho, hg, hle, hcm, hk⟩ => ⟨_, he, .inr ⟨g, cp, rfl, hg, hle, hcm, f, ho, hf⟩, hk⟩

theorem cloneW_info : (Try.prog.info? 60).map (fun i => (i.zero, i.size, i.bytes)) = some (some (.agg #[.int .i64 0, .int .i64 0]), 2, 16) := by kernel_rfl
theorem cloneW_nil (w : World) (n c : Nat) : Calls Try.prog 42 #[.slice none n c] w fun e w' => e = .returned (.slice none 0 0) ∧ w = w' := by
  have hnil := Lib.run_eql_slice_nil (P := Try.prog) w 23 60 none n c 0 0 Try.underlying23
  go_enter Try.func42, Try.ntmps42
  go_wp2
  go_ret
  exact ⟨rfl, rfl⟩
theorem cloneW_some {w : World} (ad : Addr) (n c : Nat) (xs : List Value) (hx : xs.length = n * 2) (h1 : ∀ u ∈ xs, u.oneCell' = true)
    (hc : ∀ (j : Nat) (u : Value), xs[j]? = some u → w.cell? (ad.add j) = some u) (hm : n * 16 ≤ 140737488355328) :
    Calls Try.prog 42 #[.slice (some ad) n c] w fun e w' =>
      ∃ g cap, e = .returned (.slice (some ⟨g, 0, none⟩) n cap) ∧ OwnRow w' g 60 xs ∧ w.heap.size ≤ g ∧ n ≤ cap ∧ cap ≤ maxLen ∧ Keep [] w w' := by
  obtain ⟨i, hi, hz0, hz1, hz2⟩ := info_parts cloneW_info
  have hnil := Lib.run_eql_slice_nil (P := Try.prog) w 23 60 (some ad) n c 0 0 Try.underlying23
  have hblt : ∀ (j : Nat) (u : Value), xs[j]? = some u → (w.alloc (.cells #[] 60)).cell? (ad.add j) = some u := by
    intro j u hu
    have h2 := hc j u hu
    have h3 := World.block_lt_of_cell? w _ h2
    rw [World.cell?_of_block (w := w) (Below.heap_alloc _ _ _ h3)]
    exact h2
  have hown : (w.alloc (.cells #[] 60)).ownsRow w.heap.size 60 2 (.slice (some ⟨w.heap.size, 0, none⟩) 0 0) 0 [] :=
    World.ownsRow_made w #[] 0 (Nat.le_refl _) (by simp [maxLen]) (by simp)
  have fin : ∀ v' w', w'.ownsRow w.heap.size 60 2 v' n xs → (w.alloc (.cells #[] 60)).grownBy w' (Value.ownBlock (.slice (some ⟨w.heap.size, 0, none⟩) 0 0)) →
      ¬ v' = Value.slice none 0 0 →
      ∃ g cap, v' = (.slice (some ⟨g, 0, none⟩) n cap) ∧ OwnRow w' g 60 xs ∧ w.heap.size ≤ g ∧ n ≤ cap ∧ cap ≤ maxLen ∧ Keep [] w w' := by
    intro v' w' h2 h3 h4
    rcases h2.2 with ⟨rfl, h5⟩ | ⟨g, cap, cur, rfl, hb, hg, hnc, hcm, hcs, htake⟩
    · exact absurd rfl h4
    · exact ⟨g, cap, rfl, ⟨cur, hg, by rw [hx]; exact htake⟩, hb, hnc, hcm, ((Keep.refl _ _).alloc _).of_grown h3 (fun k hk => .inl (by simp [Value.ownBlock] at hk; omega))⟩
  have Hc := Lib.hid hblt
  have Hx := Lib.hid hx
  have H1 := Lib.hid h1
  have Ho := Lib.hid hown
  have Hf := Lib.hid fin
  clear hblt hx h1 hown hc fin
  go_enter Try.func42, Try.ntmps42
  go_wp2_with (at_builtin; refine wpList_append_own _ rfl _ _ 23 rfl w.heap.size 60 i _ 2 16 Try.underlying23 hi hz0 hz1 hz2 rfl (by omega) _ 0 [] rfl Ho.out ad n c xs rfl Hx.out Hc.out H1.out (by unfold maxLen; omega) (by omega) (by simp) ?_)
  intro v' w' h2 h3 h4
  have hf := Lib.hid (Hf.out v' w' h2 h3 h4)
  clear h2 h3 h4
  go_wp2
  go_ret
  obtain ⟨g, cap, rfl, h5⟩ := hf.out
  exact ⟨g, cap, rfl, h5⟩
theorem cloneW_sl {α : Type} {B : Nat → Prop} {w : World} {Rep : α → List Value → Prop} {v : Value} {l : List α} (h : SlD B w 2 Rep v l) (h1 : ∀ x cs, Rep x cs → ∀ u ∈ cs, u.oneCell' = true) (hb : l.length ≤ 1000) :
    Calls Try.prog 42 #[v] w (ClonePost w 60 2 Rep l) := by
  by_cases hne : l = []
  · subst hne
    obtain ⟨ao, cap, rfl, _⟩ := h
    cases ao with
    | none => exact (cloneW_nil w _ _).mono fun e w' ⟨he, hw⟩ => ⟨_, he, .inl ⟨rfl, none, 0, rfl, by simp [maxLen]⟩, hw ▸ Keep.refl _ _⟩
    | some ad => exact (cloneW_some ad _ cap [] rfl (by simp) (fun j u hu => by simp at hu) (by simp)).mono fun e w' ⟨g, cp, he, ho, hg, hle, hcm, hk⟩ => ⟨_, he, .inr ⟨g, cp, rfl, hg, hle, hcm, fun _ => [], ho, fun i x hi => by simp at hi⟩, hk⟩
  · obtain ⟨b, o, cap, f, rfl, hf, hc⟩ := sld_flat h hne (by decide)
    exact (cloneW_some ⟨b, o, none⟩ _ cap (flatR f l.length) (flat_len hf) (flat_one hf h1) hc (by omega)).mono fun e w' ⟨g, cp, he, ho, hg, hle, hcm, hk⟩ => ⟨_, he, .inr ⟨g, cp, rfl, hg, hle, hcm, f, ho, hf⟩, hk⟩

theorem cloneC_info : (Try.prog.info? 66).map (fun i => (i.zero, i.size, i.bytes)) = some (some (.agg #[.int .i64 0, .int .i64 0, .int .i64 0, .int .i64 0]), 4, 32) := by kernel_rfl
theorem cloneC_nil (w : World) (n c : Nat) : Calls Try.prog 43 #[.slice none n c] w fun e w' => e = .returned (.slice none 0 0) ∧ w = w' := by
  have hnil := Lib.run_eql_slice_nil (P := Try.prog) w 24 66 none n c 0 0 Try.underlying24
  go_enter Try.func43, Try.ntmps43
  go_wp2
  go_ret
  exact ⟨rfl, rfl⟩
theorem cloneC_some {w : World} (ad : Addr) (n c : Nat) (xs : List Value) (hx : xs.length = n * 4) (h1 : ∀ u ∈ xs, u.oneCell' = true)
    (hc : ∀ (j : Nat) (u : Value), xs[j]? = some u → w.cell? (ad.add j) = some u) (hm : n * 32 ≤ 140737488355328) :
    Calls Try.prog 43 #[.slice (some ad) n c] w fun e w' =>
      ∃ g cap, e = .returned (.slice (some ⟨g, 0, none⟩) n cap) ∧ OwnRow w' g 66 xs ∧ w.heap.size ≤ g ∧ n ≤ cap ∧ cap ≤ maxLen ∧ Keep [] w w' := by
  obtain ⟨i, hi, hz0, hz1, hz2⟩ := info_parts cloneC_info
  have hnil := Lib.run_eql_slice_nil (P := Try.prog) w 24 66 (some ad) n c 0 0 Try.underlying24
  have hblt : ∀ (j : Nat) (u : Value), xs[j]? = some u → (w.alloc (.cells #[] 66)).cell? (ad.add j) = some u := by
    intro j u hu
    have h2 := hc j u hu
    have h3 := World.block_lt_of_cell? w _ h2
    rw [World.cell?_of_block (w := w) (Below.heap_alloc _ _ _ h3)]
    exact h2
  have hown : (w.alloc (.cells #[] 66)).ownsRow w.heap.size 66 4 (.slice (some ⟨w.heap.size, 0, none⟩) 0 0) 0 [] :=
    World.ownsRow_made w #[] 0 (Nat.le_refl _) (by simp [maxLen]) (by simp)
  have fin : ∀ v' w', w'.ownsRow w.heap.size 66 4 v' n xs → (w.alloc (.cells #[] 66)).grownBy w' (Value.ownBlock (.slice (some ⟨w.heap.size, 0, none⟩) 0 0)) →
      ¬ v' = Value.slice none 0 0 →
      ∃ g cap, v' = (.slice (some ⟨g, 0, none⟩) n cap) ∧ OwnRow w' g 66 xs ∧ w.heap.size ≤ g ∧ n ≤ cap ∧ cap ≤ maxLen ∧ Keep [] w w' := by
    intro v' w' h2 h3 h4
    rcases h2.2 with ⟨rfl, h5⟩ | ⟨g, cap, cur, rfl, hb, hg, hnc, hcm, hcs, htake⟩
    · exact absurd rfl h4
    · exact ⟨g, cap, rfl, ⟨cur, hg, by rw [hx]; exact htake⟩, hb, hnc, hcm, ((Keep.refl _ _).alloc _).of_grown h3 (fun k hk => .inl (by simp [Value.ownBlock] at hk; omega))⟩
  have Hc := Lib.hid hblt
  have Hx := Lib.hid hx
  have H1 := Lib.hid h1
  have Ho := Lib.hid hown
  have Hf := Lib.hid fin
  clear hblt hx h1 hown hc fin
  go_enter Try.func43, Try.ntmps43
  go_wp2_with (at_builtin; refine wpList_append_own _ rfl _ _ 24 rfl w.heap.size 66 i _ 4 32 Try.underlying24 hi hz0 hz1 hz2 rfl (by omega) _ 0 [] rfl Ho.out ad n c xs rfl Hx.out Hc.out H1.out (by unfold maxLen; omega) (by omega) (by simp) ?_)
  intro v' w' h2 h3 h4
  have hf := Lib.hid (Hf.out v' w' h2 h3 h4)
  clear h2 h3 h4
  go_wp2
  go_ret
  obtain ⟨g, cap, rfl, h5⟩ := hf.out
  exact ⟨g, cap, rfl, h5⟩
theorem cloneC_sl {α : Type} {B : Nat → Prop} {w : World} {Rep : α → List Value → Prop} {v : Value} {l : List α} (h : SlD B w 4 Rep v l) (h1 : ∀ x cs, Rep x cs → ∀ u ∈ cs, u.oneCell' = true) (hb : l.length ≤ 1000) :
    Calls Try.prog 43 #[v] w (ClonePost w 66 4 Rep l) := by
  by_cases hne : l = []
  · subst hne
    obtain ⟨ao, cap, rfl, _⟩ := h
    cases ao with
    | none => exact (cloneC_nil w _ _).mono fun e w' ⟨he, hw⟩ => ⟨_, he, .inl ⟨rfl, none, 0, rfl, by simp [maxLen]⟩, hw ▸ Keep.refl _ _⟩
    | some ad => exact (cloneC_some ad _ cap [] rfl (by simp) (fun j u hu => by simp at hu) (by simp)).mono fun e w' ⟨g, cp, he, ho, hg, hle, hcm, hk⟩ => ⟨_, he, .inr ⟨g, cp, rfl, hg, hle, hcm, fun _ => [], ho, fun i x hi => by simp at hi⟩, hk⟩
  · obtain ⟨b, o, cap, f, rfl, hf, hc⟩ := sld_flat h hne (by decide)
    exact (cloneC_some ⟨b, o, none⟩ _ cap (flatR f l.length) (flat_len hf) (flat_one hf h1) hc (by omega)).mono fun e w' ⟨g, cp, he, ho, hg, hle, hcm, hk⟩ => ⟨_, he, .inr ⟨g, cp, rfl, hg, hle, hcm, f, ho, hf⟩, hk⟩

theorem WordRep.one (x : Int) (cs : List Value) (h : WordRep x cs) : ∀ u ∈ cs, u.oneCell' = true := by
  obtain ⟨rfl, _⟩ := h
  intro u hu
  simp at hu
  subst hu
  rfl
theorem ObjRep.one (x : ObjD) (cs : List Value) (h : ObjRep x cs) : ∀ u ∈ cs, u.oneCell' = true := by
  obtain ⟨rfl, _⟩ := h
  intro u hu
  simp at hu
  rcases hu with rfl | rfl | rfl <;> rfl
theorem WinRep.one (x : WinD) (cs : List Value) (h : WinRep x cs) : ∀ u ∈ cs, u.oneCell' = true := by
  obtain ⟨rfl, _⟩ := h
  intro u hu
  simp at hu
  rcases hu with rfl | rfl <;> rfl
theorem ChanRep.one (x : ChanD) (cs : List Value) (h : ChanRep x cs) : ∀ u ∈ cs, u.oneCell' = true := by
  obtain ⟨rfl, _⟩ := h
  intro u hu
  simp at hu
  rcases hu with rfl | rfl | rfl | rfl <;> rfl
theorem SlD.one {α : Type} {B : Nat → Prop} {w : World} {size : Nat} {Rep : α → List Value → Prop} {v : Value} {l : List α} (h : SlD B w size Rep v l) : v.oneCell' = true := by
  obtain ⟨ao, cap, rfl, _⟩ := h
  rfl
theorem CallRep.one {B : Nat → Prop} {w : World} (x : CallD) (cs : List Value) (h : CallRep B w x cs) : ∀ u ∈ cs, u.oneCell' = true := by
  obtain ⟨v, rfl, h1, _⟩ := h
  intro u hu
  simp at hu
  rcases hu with rfl | rfl | rfl | rfl | rfl | rfl
  all_goals first | rfl | exact h1.one
theorem ThreadRep.one {B : Nat → Prop} {w : World} (x : ThreadD) (cs : List Value) (h : ThreadRep B w x cs) : ∀ u ∈ cs, u.oneCell' = true := by
  obtain ⟨v, rfl, _, _, h1, _⟩ := h
  intro u hu
  simp at hu
  rcases hu with rfl | rfl | rfl | rfl
  all_goals first | rfl | exact h1.one
theorem PartRep.one {B : Nat → Prop} {w : World} (x : PartD) (cs : List Value) (h : PartRep B w x cs) : ∀ u ∈ cs, u.oneCell' = true := by
  obtain ⟨v1, v2, rfl, h1, h2⟩ := h
  intro u hu
  simp at hu
  rcases hu with rfl | rfl
  · exact h1.one
  · exact h2.one
end Go.Proofs.Ytkmpajdiedpfhaa
