/- awake, and the law HistEqual walked. No conditions but those stated. -/
import Derived.Test.YtkmpajdiedpfhaaHeap8
import Derived.Test.YtkmpajdiedpfhaaEq2
namespace Go.Proofs.Ytkmpajdiedpfhaa
open Go.ChangeShapes Go.WideShapes Go.ChangeAt Go.RowKit Go.Joins
set_option linter.unusedVariables false
set_option linter.unusedSimpArgs false
namespace Hist
open Same Clone
def ev0 : EvD := ⟨1, 3, 0, 0, ⟨0, 0, 0, 0, [], 0⟩, 0, 0, []⟩
theorem nil_sld {α : Type} {B : Nat → Prop} {w : World} {size : Nat} {Rep : α → List Value → Prop} : SlD B w size Rep (.slice none 0 0) [] := ⟨none, 0, rfl, Nat.le_refl _, by simp [maxLen], fun i x h => by simp at h⟩
theorem ev0_rep (w : World) : EvRep All w ev0 (evCells ev0 (.slice none 0 0) (.slice none 0 0)) :=
  ⟨_, _, rfl, nil_sld, nil_sld, by constructor <;> decide, by constructor <;> decide, by constructor <;> decide, by constructor <;> decide, by constructor <;> decide, by constructor <;> decide, by constructor <;> decide, by constructor <;> decide, by constructor <;> decide, by constructor <;> decide, by constructor <;> decide⟩
theorem noted_one {x : EvD} (hx : keepB x = true) {es : List (EvD × Nat)} (h : es.Perm (notedOf [x])) : es = [(x, 0)] := by
  have e : notedOf [x] = [(x, 0)] := by simp [notedOf, List.zipIdx, keepP, hx]
  rw [e] at h
  exact List.perm_singleton.1 h
theorem order_hist {lo h : Nat} {w : World} {v : Value} {l : List EvD} (hr : HRep lo w h v l) (hl : l.length ≤ 100) (hs : ∀ x, x ∈ l → smallE x) :
    Calls Try.prog 22 #[.pointer (some ⟨h, 0, none⟩)] w (OrderPost w l) := order_ev (fun w1 k => events_ev (hr.kept k) hl hs) hl
theorem order_nil (w : World) : Calls Try.prog 22 #[.pointer none] w (OrderPost w []) := order_ev (fun w1 _ => events_nil' w1) (by simp)
set_option maxHeartbeats 2000000 in
set_option maxRecDepth 100000 in
theorem awake26 (w : World) : Calls Try.prog 18 #[] w fun e w' => e = .returned (.bool true) ∧ Keep [] w w' := by
  have KK := Lib.hid ((Keep.refl [] w).alloc (.cells #[.slice none 0 0] 38))
  have H0 : Hid (HRep w.heap.size (w.alloc (.cells #[.slice none 0 0] 38)) w.heap.size (.slice none 0 0) []) := Lib.hid ⟨heap_alloc_new w _, GrowSl.nil⟩
  go_enter Try.func18, Try.ntmps18
  go_wp2_with fail
  refine (hist_add H0.out (by simp) KK.out.size (ev0_rep _) (by decide) (by decide)).mono ?_
  rintro _ w2 ⟨rfl, v', h2, k2, _⟩
  have H2 := Lib.hid h2
  have K2 := Lib.hid (KK.out.transS k2 (T := []) (by simp) (by simp [Value.ownBlock]))
  have hs : ∀ x, x ∈ [] ++ [ev0] → smallE x := by intro x hx; simp at hx; subst hx; exact ⟨by decide, by decide⟩
  clear h2 k2
  go_wp2_with fail
  refine (hist_len H2.out (by simp)).mono ?_
  rintro _ w3 ⟨rfl, k3⟩
  have H3 := Lib.hid (H2.out.kept k3)
  have K3 := Lib.hid (K2.out.trans k3)
  clear k3
  simp only [List.nil_append, List.length_cons, List.length_nil, Nat.zero_add] at *
  go_wp2_with fail
  refine (order_hist H3.out (by simp) hs).mono ?_
  rintro _ w4 ⟨v4, es, rfl, _, hp, hf, k4⟩
  rw [noted_one (by decide) hp] at hf
  obtain ⟨a4, c4, rfl, _⟩ := FreshSl.form hf
  have H4 := Lib.hid (H3.out.kept k4)
  have K4 := Lib.hid (K3.out.trans k4)
  clear k4 hp hf
  simp only [List.map_cons, List.map_nil, List.length_cons, List.length_nil, Nat.zero_add] at *
  go_wp2_with fail
  refine (order_hist H4.out (by simp) hs).mono ?_
  rintro _ w5 ⟨v5, es5, rfl, _, hp, hf, k5⟩
  rw [noted_one (by decide) hp] at hf
  obtain ⟨a5, c5, rfl, _, _, h5⟩ := FreshSl.sld hf
  obtain ⟨b, o, cs, rfl, _, _, _, hc, hev⟩ := h5 0 ev0 rfl
  obtain ⟨v1, v2, rfl, _⟩ := hev
  have g1 := hc 1 _ rfl
  have K5 := Lib.hid (K4.out.trans k5)
  clear k5 hp hf hc h5
  simp only [List.map_cons, List.map_nil, List.length_cons, List.length_nil, Nat.zero_add, Nat.zero_mul, Nat.add_zero, ev0] at g1 ⊢
  go_wp2_with fail
  go_ret
  exact ⟨rfl, K5.out⟩
end Hist
end Go.Proofs.Ytkmpajdiedpfhaa
