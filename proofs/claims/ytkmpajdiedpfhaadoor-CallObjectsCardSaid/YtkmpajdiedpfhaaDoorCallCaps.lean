/- The door law CallCaps walked: a partition of its own, without caps. No conditions. -/
import Derived.Test.YtkmpajdiedpfhaaDoorCallLaw
import Derived.Test.YtkmpajdiedpfhaaDoorFlat
import Derived.Deep.RegionLaw
import Derived.Deep.CutRange
import Derived.BigRegion
namespace Go.Proofs.YtkmpajdiedpfhaaDoor
open Go.ChangeShapes Go.WideShapes Go.ChangeAt Go.RowKit Go.Joins
set_option linter.unusedVariables false
set_option linter.unusedSimpArgs false
namespace Call24
theorem infoThread : (Tryd.prog.info? 39).map (fun i => (i.zero, i.size, i.bytes)) = some (some (.agg #[.int .i64 0, .int .u32 0, .bool false, .slice none 0 0]), 4, 40) := by kernel_rfl
def thCells (caps : Nat → Int) (ctl : Nat → Bool) (prio : Nat → Int) (pg : Nat → Option Addr × Nat × Nat) (i : Nat) : List Value := [.int .i64 (prio i), .int .u32 (caps i), .bool (ctl i), .slice (pg i).1 (pg i).2.1 (pg i).2.2]
theorem Th.src {w : World} {b o tl tc : Nat} {oa : Option Addr} {ol oc : Nat} {kd : Nat → Int} {caps : Nat → Int} {ctl : Nat → Bool} {prio : Nat → Int} {pg : Nat → Option Addr × Nat × Nat} (h : Th w ⟨some ⟨b, o, none⟩, tl, tc, oa, ol, oc, kd⟩ caps ctl prio pg) :
    ∀ (j : Nat) (u : Value), (flatR (thCells caps ctl prio pg) tl)[j]? = some u → w.cell? ((⟨b, o, none⟩ : Addr).add j) = some u :=
  flatR_cells (k := 4) tl (by decide) (fun _ _ => rfl) (fun i hi j u hu => by
    obtain ⟨_, _, b', o', e, c0, c1, c2, c3⟩ := h.cell i hi
    cases e
    match j, hu with
    | 0, hu => cases hu; exact c0
    | 1, hu => cases hu; exact c1
    | 2, hu => cases hu; exact c2
    | 3, hu => cases hu; exact c3)
theorem Th.of_row {w : World} {g tl tc : Nat} {oa : Option Addr} {ol oc : Nat} {kd : Nat → Int} {caps : Nat → Int} {ctl : Nat → Bool} {prio : Nat → Int} {pg : Nat → Option Addr × Nat × Nat} (h : OwnRow w g 39 (flatR (thCells caps ctl prio pg) tl))
    (hle : tl ≤ tc) (hm : tc ≤ maxLen) (hc : ∀ i, i < tl → 0 ≤ caps i ∧ caps i ≤ 4294967295) : Th w ⟨some ⟨g, 0, none⟩, tl, tc, oa, ol, oc, kd⟩ caps ctl prio pg :=
  ⟨hle, hm, fun i hi => ⟨(hc i hi).1, (hc i hi).2, g, 0, rfl,
    by rw [Nat.zero_add]; exact h.cell _ _ (flatR_get (k := 4) tl (fun _ _ => rfl) i 0 hi (by decide)),
    by rw [Nat.zero_add]; exact h.cell _ _ (flatR_get (k := 4) tl (fun _ _ => rfl) i 1 hi (by decide)),
    by rw [Nat.zero_add]; exact h.cell _ _ (flatR_get (k := 4) tl (fun _ _ => rfl) i 2 hi (by decide)),
    by rw [Nat.zero_add]; exact h.cell _ _ (flatR_get (k := 4) tl (fun _ _ => rfl) i 3 hi (by decide))⟩⟩
def setAt {α : Type} (f : Nat → α) (i : Nat) (x : α) (j : Nat) : α := if j = i then x else f j
theorem flatR_set {f f' : Nat → List Value} {k : Nat} (n i j : Nat) (v : Value) (hk : 0 < k) (hl : ∀ i, i < n → (f i).length = k) (hi : i < n) (hj : j < k) (he : f' i = (f i).set j v) (ho : ∀ i', i' < n → i' ≠ i → f' i' = f i') :
    (flatR f n).set (i * k + j) v = flatR f' n := by
  have hl' : ∀ i', i' < n → (f' i').length = k := by
    intro i' hi'
    by_cases e : i' = i
    · subst e; rw [he, List.length_set]; exact hl _ hi'
    · rw [ho i' hi' e]; exact hl _ hi'
  apply List.ext_getElem?
  intro x
  have hlen1 := flatR_length n hl
  have hlen2 := flatR_length n hl'
  by_cases hx : x < n * k
  · have hq : x / k < n := Nat.div_lt_of_lt_mul (by rw [Nat.mul_comm]; exact hx)
    have hr : x % k < k := Nat.mod_lt _ hk
    have hxe : x / k * k + x % k = x := by rw [Nat.mul_comm]; exact Nat.div_add_mod x k
    rw [List.getElem?_set]
    have e2 : (flatR f' n)[x]? = (f' (x / k))[x % k]? := by conv => lhs; rw [← hxe]
                                                            exact flatR_get n hl' _ _ hq hr
    have e1 : (flatR f n)[x]? = (f (x / k))[x % k]? := by conv => lhs; rw [← hxe]
                                                          exact flatR_get n hl _ _ hq hr
    rw [e2]
    by_cases hxi : x = i * k + j
    · have hdi : x / k = i := by rw [hxi, Nat.mul_comm, Nat.mul_add_div hk, Nat.div_eq_of_lt hj, Nat.add_zero]
      have hmi : x % k = j := by rw [hxi, Nat.mul_comm, Nat.mul_add_mod, Nat.mod_eq_of_lt hj]
      rw [if_pos hxi.symm, hdi, hmi, he, List.getElem?_set_self (by rw [hl i hi]; exact hj), if_pos (by rw [hlen1]; omega)]
    · rw [if_neg (fun e => hxi e.symm), e1]
      by_cases hdi : x / k = i
      · have hmj : j ≠ x % k := fun e => hxi (by rw [← hxe, hdi, e])
        rw [hdi, he, List.getElem?_set_ne hmj]
      · rw [ho _ hq hdi]
  · rw [List.getElem?_eq_none (by rw [List.length_set, hlen1]; omega), List.getElem?_eq_none (by rw [hlen2]; omega)]
theorem two_set {caps : Nat → Int} {ctl : Nat → Bool} {prio : Nat → Int} {pg : Nat → Option Addr × Nat × Nat} (tl i : Nat) (hi : i < tl) :
    ((flatR (thCells caps ctl prio pg) tl).set (i * 4 + 1) (.int .u32 0)).set (i * 4 + 2) (.bool false) = flatR (thCells (setAt caps i 0) (setAt ctl i false) prio pg) tl := by
  rw [flatR_set (f' := thCells (setAt caps i 0) ctl prio pg) (k := 4) tl i 1 _ (by decide) (fun _ _ => rfl) hi (by decide) (by simp [thCells, setAt]) (fun i' _ h => by simp [thCells, setAt, h]),
    flatR_set (f' := thCells (setAt caps i 0) (setAt ctl i false) prio pg) (k := 4) tl i 2 _ (by decide) (fun _ _ => rfl) hi (by decide) (by simp [thCells, setAt]) (fun i' _ h => by simp [thCells, setAt, h])]
theorem th_one (caps : Nat → Int) (ctl : Nat → Bool) (prio : Nat → Int) (pg : Nat → Option Addr × Nat × Nat) (n : Nat) : ∀ u ∈ flatR (thCells caps ctl prio pg) n, u.oneCell' = true := by
  intro u hu
  obtain ⟨i, _, h⟩ := flatR_mem n hu
  simp only [thCells, List.mem_cons, List.not_mem_nil, or_false] at h
  rcases h with rfl | rfl | rfl | rfl <;> rfl
section
variable {w2 w3 : World} {gg cap tl : Nat} {oa : Option Addr} {ol oc : Nat} {xs : List Value}
theorem caps_new (k3 : Keep [] w2 w3) (ho : w3.ownsRow w2.heap.size 39 4 (.slice (some ⟨gg, 0, none⟩) (0 + tl) cap) (0 + tl) ([] ++ xs)) (hb : w2.heap.size ≤ gg) (hc : 0 + tl ≤ cap) (hm : cap ≤ maxLen) (hr : OwnRow w3 gg 39 ([] ++ xs)) :
    ∃ x g cap_1 : Nat, Value.pointer (some ⟨w3.heap.size, 0, none⟩) = .pointer (some ⟨x, 0, none⟩) ∧ Keep [] w2 (w3.alloc (.cells #[.slice (some ⟨gg, 0, none⟩) tl cap, .slice oa ol oc] 28)) ∧ w2.heap.size ≤ x ∧ w2.heap.size ≤ g ∧ x ≠ g ∧ tl ≤ cap_1 ∧ cap_1 ≤ maxLen ∧
      (w3.alloc (.cells #[.slice (some ⟨gg, 0, none⟩) tl cap, .slice oa ol oc] 28)).heap[x]? = some (.cells #[.slice (some ⟨g, 0, none⟩) tl cap_1, .slice oa ol oc] 28 (0, 0)) ∧ OwnRow (w3.alloc (.cells #[.slice (some ⟨gg, 0, none⟩) tl cap, .slice oa ol oc] 28)) g 39 xs := by
  have := hr.lt
  exact ⟨_, gg, cap, rfl, k3.alloc _, k3.size, hb, by omega, by omega, hm, heap_alloc_new w3 _, hr.keep ((Keep.refl [] w3).alloc _) (by simp)⟩
theorem caps_old {x : Nat} (k3 : Keep [] w2 w3) (hx : w3.heap[x]? = some (.cells #[.slice none 0 0, .slice none 0 0] 28 (0, 0))) (hx2 : w2.heap.size ≤ x) (hb : w2.heap.size ≤ gg) (hc : 0 + tl ≤ cap) (hm : cap ≤ maxLen) (hr : OwnRow w3 gg 39 ([] ++ xs)) :
    ∃ x_1 g cap_1 : Nat, Value.pointer (some ⟨x, 0, none⟩) = .pointer (some ⟨x_1, 0, none⟩) ∧ Keep [] w2 ((w3.setCell ⟨x, 0, none⟩ (.slice (some ⟨gg, 0, none⟩) tl cap)).setCell ⟨x, 1, none⟩ (.slice oa ol oc)) ∧ w2.heap.size ≤ x_1 ∧ w2.heap.size ≤ g ∧ x_1 ≠ g ∧ tl ≤ cap_1 ∧ cap_1 ≤ maxLen ∧
      ((w3.setCell ⟨x, 0, none⟩ (.slice (some ⟨gg, 0, none⟩) tl cap)).setCell ⟨x, 1, none⟩ (.slice oa ol oc)).heap[x_1]? = some (.cells #[.slice (some ⟨g, 0, none⟩) tl cap_1, .slice oa ol oc] 28 (0, 0)) ∧ OwnRow ((w3.setCell ⟨x, 0, none⟩ (.slice (some ⟨gg, 0, none⟩) tl cap)).setCell ⟨x, 1, none⟩ (.slice oa ol oc)) g 39 xs := by
  have hne : x ≠ gg := by
    intro e
    obtain ⟨cur, h1, _⟩ := hr
    subst e
    rw [hx] at h1
    cases h1
  exact ⟨x, gg, cap, rfl, (k3.setCell (.inl hx2) _).setCell (.inl hx2) _, hx2, hb, hne, by omega, hm, block_set 1 _ (block_set 0 _ hx), hr.keep (((Keep.refl [x] w3).setCell (.inr (by simp)) _).setCell (.inr (by simp)) _) (by simpa using hne.symm)⟩
end
theorem Ob.own {w : World} {ta : Option Addr} {tl tc : Nat} {oa : Option Addr} {ol oc : Nat} {kd : Nat → Int} {g cap : Nat} (h : Ob w ⟨ta, tl, tc, oa, ol, oc, kd⟩) : Ob w ⟨some ⟨g, 0, none⟩, tl, cap, oa, ol, oc, kd⟩ := ⟨h.le, h.most, h.kind⟩
/-- A thread that may use nothing can't make such a call. -/
theorem caps_law {caps : Nat → Int} {ctl : Nat → Bool} {p : Pt} {c : Cl} {m : Nat} (hc : caps m = 0) (ht : ctl m = false) (h : checkI caps ctl p c m = 0) : objB p c = false ∧ (3 ≤ c.k → c.k ≤ 5 → c.h = m) := by
  unfold checkI at h
  split at h
  · cases h
  split at h
  · cases h
  split at h
  · cases h
  split at h
  · cases h
  split at h
  · cases h
  · rename_i hm
    simp only [Int.toNat_natCast, mayB, hc, ht, capI_zero] at hm
    cases ho : objB p c with
    | true => rw [ho] at hm; simp at hm
    | false =>
      rw [ho] at hm
      refine ⟨rfl, fun h3 h5 => ?_⟩
      have : thrB c.k = true := by simp [thrB]; omega
      rw [this] at hm
      simpa using hm
theorem caps_kept {w w3 : World} {X : Array Value} {T : TypeId} {a b : Nat} (h : ((w.alloc (.cells X T)).drew).grownBy w3 (Value.ownBlock (.slice (some ⟨w.heap.size, 0, none⟩) a b))) : Keep [] w w3 :=
  (((Keep.refl [] w).alloc _).drew).of_grown h (fun k hk => .inl (by simp [Value.ownBlock] at hk; omega))
set_option maxHeartbeats 4000000 in
set_option maxRecDepth 100000 in
theorem callCaps_walk {w : World} (h : NamesAt w) (p : Pt) (c : Cl) {caps : Nat → Int} {ctl : Nat → Bool} {prio : Nat → Int} {pg : Nat → Option Addr × Nat × Nat} (ho : Ob w p) (ht : Th w p caps ctl prio pg) (hg : Pg w p pg) (hwm : c.wl ≤ c.wc ∧ c.wc ≤ maxLen) (n : Int) :
    Calls Tryd.prog 5 #[.agg p.cells, .int .i64 n, .agg c.cells] w fun e w' => e = .returned (.bool true) ∧ Keep [] w w' := by
  obtain ⟨k, hh, a, b1, wo, wl, wcp, t⟩ := c
  obtain ⟨ta, tl, tc, oa, ol, oc, kd⟩ := p
  have H := Lib.hid h; have HO := Lib.hid ho; have HT := Lib.hid ht; have HG := Lib.hid hg; have HW := Lib.hid hwm
  have ht1 := ht.le; have ht2 := ht.most
  simp only at hwm ht1 ht2
  unfold maxLen at ht2
  clear h ho ht hg
  have hw1 := hwm.1; have hw2 := hwm.2
  unfold maxLen at hw2
  clear hwm
  have KK : Hid (Keep [] w ((w.alloc (.cells #[.slice ta tl tc, .slice oa ol oc] 28)).alloc (.cells #[.int .i64 k, .int .i64 hh, .int .i64 a, .int .i64 b1, .slice wo wl wcp, .int .i64 t] 31))) := Lib.hid (((Keep.refl [] w).alloc _).alloc _)
  have A1 := Lib.hid (two_fst w (.cells #[.slice ta tl tc, .slice oa ol oc] 28) (.cells #[.int .i64 k, .int .i64 hh, .int .i64 a, .int .i64 b1, .slice wo wl wcp, .int .i64 t] 31))
  have A2 := Lib.hid (two_snd w (.cells #[.slice ta tl tc, .slice oa ol oc] 28) (.cells #[.int .i64 k, .int .i64 hh, .int .i64 a, .int .i64 b1, .slice wo wl wcp, .int .i64 t] 31))
  unfold Pt.cells Cl.cells
  go_enter Tryd.func5, Tryd.ntmps5
  go_wp2_with fail
  refine (call_awake (H.out.keep KK.out)).mono ?_
  rintro e w1 ⟨rfl, k1⟩
  have K1 := Lib.hid (KK.out.trans k1)
  have B1 := Lib.hid (k1.to A1.out (by simp)); have B2 := Lib.hid (k1.to A2.out (by simp))
  clear k1
  obtain ⟨q0, q1⟩ := cells2 B1.out; obtain ⟨r0, r1, r2, r3, r4, r5⟩ := cells6 B2.out
  by_cases hl : (20 : Int) < wl
  case' neg => by_cases hn0 : n < 0
  case' neg => by_cases hn1 : (tl : Int) ≤ n
  all_goals
    go_wp2_with fail
    refine (few_part ⟨ta, tl, tc, oa, ol, oc, kd⟩ (HO.out.keep K1.out) (HT.out.keep K1.out) (fun i hi => ?_)).mono ?_
    · obtain ⟨g1, g2, g3⟩ := HG.out i hi
      exact ⟨g1, g2, fun j hj => let ⟨b, o, x, y, z, e1, e2, e3⟩ := g3 j hj; ⟨b, o, x, y, z, e1, cell_keep K1.out e2 (by simp), e3⟩⟩
    rintro e w2 ⟨r, rfl, hr, k2⟩
    have K2 := Lib.hid (K1.out.trans k2)
    have C1 := Lib.hid (k2.to B1.out (by simp)); have C2 := Lib.hid (k2.to B2.out (by simp))
    clear k2 q0 q1 r0 r1 r2 r3 r4 r5
    obtain ⟨q0, q1⟩ := cells2 C1.out; obtain ⟨r0, r1, r2, r3, r4, r5⟩ := cells6 C2.out
    cases r
  all_goals try
    (clear hr
     go_wp2_with fail
     refine (call_awake (H.out.keep K2.out)).mono ?_
     rintro e w3 ⟨rfl, k3⟩
     have K3 := Lib.hid (K2.out.trans k3)
     clear k3
     go_wp2_with fail
     go_ret
     exact ⟨rfl, K3.out⟩)
  · obtain ⟨m, rfl⟩ : ∃ m : Nat, n = m := ⟨n.toNat, by omega⟩
    have hm : m < tl := by omega
    have htl : tl ≤ 20 := (hr rfl).1
    clear hr
    go_upto_region 3 with fail
    go_cut [7] (fun s7 wq => ∃ x g cap : Nat, s7 = .pointer (some ⟨x, 0, none⟩) ∧ Keep [] w2 wq ∧ w2.heap.size ≤ x ∧ w2.heap.size ≤ g ∧ x ≠ g ∧ tl ≤ cap ∧ cap ≤ maxLen ∧ wq.heap[x]? = some (.cells #[.slice (some ⟨g, 0, none⟩) tl cap, .slice oa ol oc] 28 (0, 0)) ∧ OwnRow wq g 39 (flatR (thCells caps ctl prio pg) tl))
    case first =>
      obtain ⟨_, _, b, o, hta, _, _, _, _⟩ := HT.out.cell m hm
      have hta' : ta = some ⟨b, o, none⟩ := hta
      subst hta'
      clear hta
      obtain ⟨i0, hi0, hz0, hz1, hz2⟩ := info_parts infoThread
      have HoA : Hid ((w2.alloc (.cells #[] 39)).ownsRow w2.heap.size 39 4 (.slice (some ⟨w2.heap.size, 0, none⟩) 0 0) 0 []) :=
        Lib.hid (World.ownsRow_made w2 #[] 0 (Nat.le_refl _) (by simp [maxLen]) (by simp))
      have HoC : Hid (((w2.alloc (.cells #[.slice none 0 0, .slice none 0 0] 28)).alloc (.cells #[] 39)).ownsRow w2.heap.size 39 4 (.slice (some ⟨w2.heap.size + 1, 0, none⟩) 0 0) 0 []) :=
        Lib.hid (by simpa using World.ownsRow_made (w2.alloc (.cells #[.slice none 0 0, .slice none 0 0] 28)) #[] 0 (base := w2.heap.size) (by simp) (by simp [maxLen]) (by simp))
      have Hx := Lib.hid (flatR_length (f := thCells caps ctl prio pg) (k := 4) tl (fun _ _ => rfl))
      have Hc : Hid (∀ w', Keep [] w2 w' → ∀ (j : Nat) (u : Value), (flatR (thCells caps ctl prio pg) tl)[j]? = some u → w'.cell? ((⟨b, o, none⟩ : Addr).add j) = some u) := Lib.hid (fun w' kw => (HT.out.keep (K2.out.trans kw)).src)
      have kA := (Keep.refl [] w2).alloc (.cells #[] 39)
      have kX := (Keep.refl [] w2).alloc (.cells #[.slice none 0 0, .slice none 0 0] 28)
      have kB := kA.alloc (.cells #[.slice none 0 0, .slice none 0 0] 28)
      have kC := kX.alloc (.cells #[] 39)
      have KA := Lib.hid kA; have KB := Lib.hid kB; have KC := Lib.hid kC
      obtain ⟨a0, a1⟩ := cells2 (kA.to C1.out (by simp))
      obtain ⟨x0, x1⟩ := cells2 (kX.to C1.out (by simp))
      obtain ⟨y0, y1⟩ := cells2 (kB.to C1.out (by simp))
      obtain ⟨z0, z1⟩ := cells2 (kC.to C1.out (by simp))
      clear kA kX kB kC
      have hne : w2.heap.size ≠ w.heap.size := fun e => by have := lt_of_block C1.out; omega
      have hlw : w.heap.size < w2.heap.size := lt_of_block C1.out
      go_region_law (first
        | (refine step_append_lies _ (by rfl) _ _ _ (by rfl) w2.heap.size 39 i0 _ 4 40 Tryd.underlying25 hi0 hz0 hz1 hz2 rfl (by omega) _ 0 [] (by rfl) (HoA.out.drew) ⟨b, o, none⟩ tl tc (flatR (thCells caps ctl prio pg) tl) (by rfl) Hx.out (Hc.out _ (KA.out.drew)) (th_one _ _ _ _ _) (by omega) (by unfold maxLen; omega) (by omega) (by simp) _ rfl ?_; intro gg cap w3 hown3 hgrow hat hlt; have Ho3 := Lib.hid hown3; have K3 : Hid (Keep [] w2 w3) := Lib.hid (KA.out.drew.of_grown hgrow (by simp [Value.ownBlock])); have D1 := Lib.hid (K3.out.to C1.out (by simp)); have q4 := (cells2 D1.out).1; have q5 := (cells2 D1.out).2; have q6 := (cells2 (((Keep.refl [] w3).alloc (.cells #[.slice none 0 0, .slice none 0 0] 28)).to D1.out (by simp))).2; have X3 : Hid True := Lib.hid trivial; clear hown3 hgrow hat hlt)
        | (refine step_append_lies _ (by rfl) _ _ _ (by rfl) w2.heap.size 39 i0 _ 4 40 Tryd.underlying25 hi0 hz0 hz1 hz2 rfl (by omega) _ 0 [] (by rfl) ((HoA.out.alloc _).drew) ⟨b, o, none⟩ tl tc (flatR (thCells caps ctl prio pg) tl) (by rfl) Hx.out (Hc.out _ (KB.out.drew)) (th_one _ _ _ _ _) (by omega) (by unfold maxLen; omega) (by omega) (by simp; omega) _ rfl ?_; intro gg cap w3 hown3 hgrow hat hlt; have Ho3 := Lib.hid hown3; have K3 : Hid (Keep [] w2 w3) := Lib.hid (KB.out.drew.of_grown hgrow (by simp [Value.ownBlock])); have D1 := Lib.hid (K3.out.to C1.out (by simp)); have q4 := (cells2 D1.out).1; have q5 := (cells2 D1.out).2; have X3 : Hid (w3.heap[w2.heap.size + 1]? = some (.cells #[.slice none 0 0, .slice none 0 0] 28 (0, 0))) := Lib.hid ((hgrow.block _ (by simp) (by simp [Value.ownBlock])).trans (two_snd w2 _ _)); have e0 := (cells2 X3.out).1; have e1 := (cells2 X3.out).2; have f0 := free_of (i := 0) X3.out; have f1 := free_of (i := 1) X3.out; clear hown3 hgrow hat hlt)
        | (refine step_append_lies _ (by rfl) _ _ _ (by rfl) w2.heap.size 39 i0 _ 4 40 Tryd.underlying25 hi0 hz0 hz1 hz2 rfl (by omega) _ 0 [] (by rfl) (HoC.out.drew) ⟨b, o, none⟩ tl tc (flatR (thCells caps ctl prio pg) tl) (by rfl) Hx.out (Hc.out _ (KC.out.drew)) (th_one _ _ _ _ _) (by omega) (by unfold maxLen; omega) (by omega) (by simp; omega) _ rfl ?_; intro gg cap w3 hown3 hgrow hat hlt; have Ho3 := Lib.hid hown3; have K3 : Hid (Keep [] w2 w3) := Lib.hid (KC.out.drew.of_grown hgrow (by simp [Value.ownBlock])); have D1 := Lib.hid (K3.out.to C1.out (by simp)); have q4 := (cells2 D1.out).1; have q5 := (cells2 D1.out).2; have X3 : Hid (w3.heap[w2.heap.size]? = some (.cells #[.slice none 0 0, .slice none 0 0] 28 (0, 0))) := Lib.hid ((hgrow.block _ (by simp; omega) (by simp [Value.ownBlock])).trans (two_fst w2 _ _)); have e0 := (cells2 X3.out).1; have e1 := (cells2 X3.out).2; have f0 := free_of (i := 0) X3.out; have f1 := free_of (i := 1) X3.out; clear hown3 hgrow hat hlt))
      all_goals
        obtain ⟨hrow, hb3, hcap, hcm⟩ := OwnRow.of_owns Ho3.out rfl
        have Hrow := Lib.hid hrow
        clear hrow
        go_wp2_with fail
        go_meet
        first
          | exact caps_new K3.out Ho3.out hb3 hcap hcm Hrow.out
          | exact caps_old K3.out X3.out (by omega) hb3 hcap hcm Hrow.out
    case rest =>
      obtain ⟨x, g, cap, rfl, k3, hx2, hg2, hxg, hcap, hcm, bx, hrow⟩ := hcut
      have K3 := Lib.hid (K2.out.trans k3)
      have BX := Lib.hid bx
      have Hrow := Lib.hid hrow
      have HCm := Lib.hid hcm
      have C3 := Lib.hid (k3.to C2.out (by simp))
      have hlw : w.heap.size + 1 < w2.heap.size := lt_of_block C2.out
      have hcm' : cap ≤ 2 ^ 63 - 1 := hcm
      clear k3 bx hrow hcm q0 q1 r0 r1 r2 r3 r4 r5
      obtain ⟨x0, x1⟩ := cells2 BX.out
      have f1 := Hrow.out.free (m * 4 + 1)
      have f2 := Hrow.out.free (m * 4 + 2)
      have c1 := Hrow.out.cell _ _ (flatR_get (k := 4) tl (fun _ _ => rfl) m 1 hm (by decide))
      have c2 := Hrow.out.cell _ _ (flatR_get (k := 4) tl (fun _ _ => rfl) m 2 hm (by decide))
      go_upto_region 4 with fail
      go_cut [7] (fun s7 wd => s7 = .pointer (some ⟨x, 0, none⟩) ∧ Keep [g] wc wd ∧ OwnRow wd g 39 (flatR (thCells (setAt caps m 0) (setAt ctl m false) prio pg) tl))
      case first =>
        go_region
        all_goals
          go_wp2_with fail
          go_meet
          exact ⟨rfl, (((Keep.refl [g] wc).setCell (.inr (by simp)) _).setCell (.inr (by simp)) _).drew, by
            have h1 := (Hrow.out.set (m * 4 + 1) (.int .u32 0)).set (m * 4 + 2) (.bool false)
            rw [two_set tl m hm] at h1
            exact h1⟩
      case rest =>
        obtain ⟨rfl, k4, hrow4⟩ := hcut
        have K4 := Lib.hid (K3.out.transS k4 (T := []) (by simp) (by simp; omega))
        have BX4 := Lib.hid (k4.to BX.out (by simpa using hxg))
        have C4 := Lib.hid (k4.to C3.out (by simp; omega))
        have HO4 := Lib.hid (Ob.own (g := g) (cap := cap) (HO.out.keep K4.out))
        have HT4 := Lib.hid (Th.of_row (oa := oa) (ol := ol) (oc := oc) (kd := kd) hrow4 hcap HCm.out (fun i hi => by
          have := HT.out.cell i hi
          unfold setAt
          split
          · exact ⟨by decide, by decide⟩
          · exact ⟨this.1, this.2.1⟩))
        have HL := Lib.hid (caps_law (caps := setAt caps m 0) (ctl := setAt ctl m false) (p := ⟨some ⟨g, 0, none⟩, tl, cap, oa, ol, oc, kd⟩) (c := ⟨k, hh, a, b1, wo, wl, wcp, t⟩) (m := m) (by simp [setAt]) (by simp [setAt]))
        clear k4 hrow4 x0 x1 f1 f2 c1 c2
        obtain ⟨x0, x1⟩ := cells2 BX4.out; obtain ⟨r0, r1, r2, r3, r4, r5⟩ := cells6 C4.out
        go_wp2_with fail
        refine (call_check' HO4.out HT4.out HW.out m).mono ?_
        rintro e w5 ⟨rfl, k5⟩
        have K5 := Lib.hid (K4.out.trans k5)
        have BX5 := Lib.hid (k5.to BX4.out (by simp))
        have C5 := Lib.hid (k5.to C4.out (by simp))
        have HO5 := Lib.hid (HO4.out.keep k5)
        clear k5 x0 x1 r0 r1 r2 r3 r4 r5
        obtain ⟨x0, x1⟩ := cells2 BX5.out; obtain ⟨r0, r1, r2, r3, r4, r5⟩ := cells6 C5.out
        revert HL
        generalize checkI (setAt caps m 0) (setAt ctl m false) ⟨some ⟨g, 0, none⟩, tl, cap, oa, ol, oc, kd⟩ ⟨k, hh, a, b1, wo, wl, wcp, t⟩ m = E
        intro HL
        go_wp2_with fail
        refine (call_object' HO5.out).mono ?_
        rintro e w6 ⟨rfl, k6⟩
        have K6 := Lib.hid (K5.out.trans k6)
        have C6 := Lib.hid (k6.to C5.out (by simp))
        clear k6 x0 x1 r0 r1 r2 r3 r4 r5
        obtain ⟨r0, r1, r2, r3, r4, r5⟩ := cells6 C6.out
        revert HL
        generalize objI ⟨some ⟨g, 0, none⟩, tl, cap, oa, ol, oc, kd⟩ ⟨k, hh, a, b1, wo, wl, wcp, t⟩ = oi
        generalize objB ⟨some ⟨g, 0, none⟩, tl, cap, oa, ol, oc, kd⟩ ⟨k, hh, a, b1, wo, wl, wcp, t⟩ = ob
        intro HL
        by_cases hE : E = 0
        · subst hE
          obtain ⟨rfl, hother⟩ := HL.out rfl
          by_cases h3 : 3 ≤ k
          · by_cases h5 : k ≤ 5
            · obtain rfl := hother h3 h5
              go_wp2_with fail
              go_ret
              exact ⟨ret_bool (by simp), K6.out⟩
            · go_wp2_with fail
              go_ret
              exact ⟨ret_bool (by simp), K6.out⟩
          · go_wp2_with fail
            go_ret
            exact ⟨ret_bool (by simp), K6.out⟩
        · have hE' : (E != 0) = true := by simpa using hE
          have hE2 : decide (E = 0) = false := by simpa using hE
          clear HL
          go_wp2_with fail
          all_goals
            go_ret
            exact ⟨ret_bool (by simp [hE]), K6.out⟩
end Call24
end Go.Proofs.YtkmpajdiedpfhaaDoor
