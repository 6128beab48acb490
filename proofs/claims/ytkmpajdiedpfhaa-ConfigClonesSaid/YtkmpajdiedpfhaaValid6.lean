/- The contracts of the package config: what is wrong with a channel, and first. No conditions but those stated. -/
import Derived.Test.YtkmpajdiedpfhaaValid5
namespace Go.Proofs.Ytkmpajdiedpfhaa
open Go.ChangeShapes Go.WideShapes Go.ChangeAt Go.RowKit
set_option linter.unusedVariables false
set_option linter.unusedSimpArgs false
namespace Valid
theorem two_fst (w : World) (o1 o2 : Obj) : ((w.alloc o1).alloc o2).heap[w.heap.size]? = some o1 := by rw [Go.RowKit.Below.heap_alloc _ _ _ (by simp)]; exact heap_alloc_new w o1
theorem two_snd (w : World) (o1 o2 : Obj) : ((w.alloc o1).alloc o2).heap[w.heap.size + 1]? = some o2 := by
  have h := heap_alloc_new (w.alloc o1) o2
  have e : (w.alloc o1).heap.size = w.heap.size + 1 := by simp
  rw [e] at h
  exact h
def clash (x y : ChanD) : Bool := ((x.src == y.src) && (x.out == y.out)) || ((x.dst == y.dst) && (x.inn == y.inn))
def chanBad (ps : List PartD) (x : ChanD) : Bool := (x.src == x.dst) || !endB ps x.src x.out 6 || !endB ps x.dst x.inn 7
def chanI (ps : List PartD) (l : List ChanD) (i : Nat) : Int := match l[i]? with
  | none => 0
  | some x => if chanBad ps x = true then 10 else if (l.take i).any (clash x) = true then 11 else 0
theorem chanI_bad {ps : List PartD} {l : List ChanD} {i : Nat} {x : ChanD} (h : l[i]? = some x) (hb : chanBad ps x = true) : chanI ps l i = 10 := by unfold chanI; rw [h]; simp only; rw [if_pos hb]
theorem chanI_clash {ps : List PartD} {l : List ChanD} {i : Nat} {x : ChanD} (h : l[i]? = some x) (hb : chanBad ps x = false) (hc : (l.take i).any (clash x) = true) : chanI ps l i = 11 := by unfold chanI; rw [h]; simp only; rw [if_neg (by rw [hb]; simp), if_pos hc]
theorem chanI_fine {ps : List PartD} {l : List ChanD} {i : Nat} {x : ChanD} (h : l[i]? = some x) (hb : chanBad ps x = false) (hc : (l.take i).any (clash x) = false) : chanI ps l i = 0 := by unfold chanI; rw [h]; simp only; rw [if_neg (by rw [hb]; simp), if_neg (by rw [hc]; simp)]
set_option maxHeartbeats 4000000 in
set_option maxRecDepth 100000 in
theorem wrong_channel {w : World} {B : Nat → Prop} {x : ConfD} {v1 v2 v3 : Value} (h1 : SlD B w 2 (PartRep B w) v1 x.parts) (h3 : SlD B w 4 ChanRep v3 x.chans) (i : Nat) (hi : i < x.chans.length) :
    Calls Try.prog 49 #[.agg #[v1, v2, v3], .int .i64 i] w fun e w' => e = .returned (.int .i64 (chanI x.parts x.chans i)) ∧ Keep [] w w' := by
  have H1 : Hid (∀ w', Keep [] w w' → SlD B w' 2 (PartRep B w') v1 x.parts) := Lib.hid (fun w' k => h1.keep k.size (fun b _ hb => k.block b hb (by simp)) (fun _ h => h) (fun _ _ _ h => h.kept k))
  obtain ⟨ca, cc, rfl, c1, c2, c3⟩ := h3
  generalize x.parts = ps at *
  generalize x.chans = l at *
  obtain ⟨r, hr⟩ : ∃ r, chanI ps l i = r := ⟨_, rfl⟩
  rw [hr]
  obtain ⟨y, hy⟩ : ∃ y, l[i]? = some y := ⟨_, List.getElem?_eq_getElem hi⟩
  have HBad : Hid (chanBad ps y = true → r = 10) := Lib.hid (fun h => by rw [← hr]; exact chanI_bad hy h)
  have HCl : Hid (chanBad ps y = false → (l.take i).any (clash y) = true → r = 11) := Lib.hid (fun h h2 => by rw [← hr]; exact chanI_clash hy h h2)
  have HFi : Hid (chanBad ps y = false → (l.take i).any (clash y) = false → r = 0) := Lib.hid (fun h h2 => by rw [← hr]; exact chanI_fine hy h h2)
  have HY := Lib.hid hy
  generalize hcl : l.length = cl at *
  have Hcl := Lib.hid hcl
  obtain ⟨b, o, cs, rfl, _, _, hl4, hc, rfl, _⟩ := c3 i y hy
  have C3 := Lib.hid c3
  have hi' : (i : Int) < cl := by omega
  unfold maxLen at c2
  have KK : Hid (Keep [] w (w.alloc (.cells #[v1, v2, .slice (some ⟨b, o, none⟩) cl cc] 26))) := Lib.hid ((Keep.refl _ _).alloc _)
  have e0 := cell_keep KK.out (hc 0 _ rfl) (by simp)
  have e1 := cell_keep KK.out (hc 1 _ rfl) (by simp)
  have e2 := cell_keep KK.out (hc 2 _ rfl) (by simp)
  have e3 := cell_keep KK.out (hc 3 _ rfl) (by simp)
  simp only [Nat.add_zero] at e0
  clear hr hy hcl c3 hc h1 hl4
  obtain ⟨y0, y1, y2, y3⟩ := y
  simp only at e0 e1 e2 e3
  have KX : Hid (Keep [] w ((w.alloc (.cells #[v1, v2, .slice (some ⟨b, o, none⟩) cl cc] 26)).alloc (.cells #[.int .i64 y0, .int .i64 y1, .int .i64 y2, .int .i64 y3] 66))) := Lib.hid (KK.out.alloc _)
  have BX := Lib.hid (two_fst w (.cells #[v1, v2, .slice (some ⟨b, o, none⟩) cl cc] 26) (.cells #[.int .i64 y0, .int .i64 y1, .int .i64 y2, .int .i64 y3] 66))
  have XX := Lib.hid (two_snd w (.cells #[v1, v2, .slice (some ⟨b, o, none⟩) cl cc] 26) (.cells #[.int .i64 y0, .int .i64 y1, .int .i64 y2, .int .i64 y3] 66))
  have HBd : Hid (chanBad ps ⟨y0, y1, y2, y3⟩ = ((y0 == y2) || !endB ps y0 y1 6 || !endB ps y2 y3 7)) := Lib.hid rfl
  by_cases hs : y0 = y2
  · have hd : (y0 == y2) = true := by simpa using hs
    obtain rfl := HBad.out (by rw [HBd.out, hd]; rfl)
    clear hs
    go_enter Try.func49, Try.ntmps49
    go_wp2_with fail
    go_ret
    exact ⟨rfl, KX.out⟩
  · have hd : (y0 == y2) = false := by simpa using hs
    clear hs
    obtain ⟨q0, q1, q2⟩ := cells3 BX.out
    obtain ⟨x0, x1, x2, x3⟩ := cells4 XX.out
    obtain ⟨b1, hb1⟩ : ∃ b, endB ps y0 y1 6 = b := ⟨_, rfl⟩
    obtain ⟨b2, hb2⟩ : ∃ b, endB ps y2 y3 7 = b := ⟨_, rfl⟩
    have HB1 := Lib.hid hb1
    have HB2 := Lib.hid hb2
    rw [hb1, hb2, hd] at HBd
    clear hb1 hb2
    go_enter Try.func49, Try.ntmps49
    go_wp2_with fail
    refine (has_end (H1.out _ KX.out) _ _ _).mono ?_
    rintro e w3 ⟨rfl, k3⟩
    rw [HB1.out]
    have K3 := Lib.hid (KX.out.trans k3)
    have B3 := Lib.hid (k3.to BX.out (by simp))
    have X3 := Lib.hid (k3.to XX.out (by simp))
    clear k3 q0 q1 q2 x0 x1 x2 x3
    obtain ⟨q0, q1, q2⟩ := cells3 B3.out
    obtain ⟨x0, x1, x2, x3⟩ := cells4 X3.out
    cases b1 with
    | false =>
      obtain rfl := HBad.out (by rw [HBd.out]; simp)
      go_wp2_with fail
      go_ret
      exact ⟨rfl, K3.out⟩
    | true =>
      go_wp2_with fail
      refine (has_end (H1.out _ K3.out) _ _ _).mono ?_
      rintro e w4 ⟨rfl, k4⟩
      rw [HB2.out]
      have K4 := Lib.hid (K3.out.trans k4)
      have B4 := Lib.hid (k4.to B3.out (by simp))
      have X4 := Lib.hid (k4.to X3.out (by simp))
      clear k4 q0 q1 q2 x0 x1 x2 x3
      obtain ⟨q0, q1, q2⟩ := cells3 B4.out
      obtain ⟨x0, x1, x2, x3⟩ := cells4 X4.out
      cases b2 with
      | false =>
        obtain rfl := HBad.out (by rw [HBd.out]; simp)
        go_wp2_with fail
        go_ret
        exact ⟨rfl, K4.out⟩
      | true =>
        have HBf : Hid (chanBad ps ⟨y0, y1, y2, y3⟩ = false) := Lib.hid (by rw [HBd.out]; simp)
        have hic : i ≤ cc := by omega
        go_wp2_with fail
        go_loopw [41] (fun c wr => ∃ k : Nat, c = .int .i64 k ∧ k ≤ i ∧ Keep [] w wr ∧ wr.heap[w.heap.size]? = some (.cells #[v1, v2, .slice (some ⟨b, o, none⟩) cl cc] 26 (0, 0)) ∧ wr.heap[w.heap.size + 1]? = some (.cells #[.int .i64 y0, .int .i64 y1, .int .i64 y2, .int .i64 y3] 66 (0, 0)) ∧ ∀ z, z ∈ (l.take i).take k → clash ⟨y0, y1, y2, y3⟩ z = false) (fun c _ => i - (intOf c).toNat)
        case atStart => exact ⟨0, rfl, Nat.zero_le _, K4.out, B4.out, X4.out, by simp⟩
        case round =>
          obtain ⟨k, rfl, hk, kr, br, xr, hall⟩ := hrel
          have KR := Lib.hid kr
          have BR := Lib.hid br
          have XR := Lib.hid xr
          have HAll := Lib.hid hall
          clear kr br xr hall q0 q1 q2 x0 x1 x2 x3
          by_cases hki : k < i
          · have hki' : (k : Int) < i := by omega
            obtain ⟨z, hz⟩ := get_of Hcl (show k < cl by omega)
            obtain ⟨b', o', cs, hbo, _, _, hl4, hc, rfl, _⟩ := C3.out k z hz
            have hbo1 : b' = b ∧ o' = o := by cases hbo; exact ⟨rfl, rfl⟩
            obtain ⟨rfl, rfl⟩ := hbo1
            have HZ : Hid ((l.take i)[k]? = some z) := Lib.hid (by rw [List.getElem?_take, if_pos hki]; exact hz)
            have e0 := cell_keep KR.out (hc 0 _ rfl) (by simp)
            have e1 := cell_keep KR.out (hc 1 _ rfl) (by simp)
            have e2 := cell_keep KR.out (hc 2 _ rfl) (by simp)
            have e3 := cell_keep KR.out (hc 3 _ rfl) (by simp)
            simp only [Nat.add_zero] at e0
            clear hz hc hbo hl4
            obtain ⟨z0, z1, z2, z3⟩ := z
            simp only at e0 e1 e2 e3
            have kA := (Keep.refl [] wr).alloc (.cells #[.int .i64 z0, .int .i64 z1, .int .i64 z2, .int .i64 z3] 66)
            have KA := Lib.hid (KR.out.trans kA)
            have BA := Lib.hid (kA.to BR.out (by simp))
            have XA := Lib.hid (kA.to XR.out (by simp))
            obtain ⟨x0, x1, x2, x3⟩ := cells4 XA.out
            clear kA
            have HC : Hid (clash ⟨y0, y1, y2, y3⟩ ⟨z0, z1, z2, z3⟩ = (((y0 == z0) && (y1 == z1)) || ((y2 == z2) && (y3 == z3)))) := Lib.hid rfl
            by_cases f0 : y0 = z0 ∧ y1 = z1
            · have g0 : (y0 == z0) = true := by simpa using f0.1
              have g1 : (y1 == z1) = true := by simpa using f0.2
              obtain rfl := HCl.out HBf.out (any_hit HZ.out (by rw [HC.out, g0, g1]; rfl))
              clear f0
              go_wp2_with fail
              go_ret
              exact ⟨rfl, KA.out⟩
            · by_cases f1 : y2 = z2 ∧ y3 = z3
              · have g2 : (y2 == z2) = true := by simpa using f1.1
                have g3 : (y3 == z3) = true := by simpa using f1.2
                obtain rfl := HCl.out HBf.out (any_hit HZ.out (by rw [HC.out, g2, g3]; simp))
                clear f1
                by_cases f2 : y0 = z0
                · have g0 : (y0 == z0) = true := by simpa using f2
                  have g1 : (y1 == z1) = false := by simp; exact fun h => f0 ⟨f2, h⟩
                  clear f0 f2
                  go_wp2_with fail
                  go_ret
                  exact ⟨rfl, KA.out⟩
                · have g0 : (y0 == z0) = false := by simpa using f2
                  clear f0 f2
                  go_wp2_with fail
                  go_ret
                  exact ⟨rfl, KA.out⟩
              · have hno : Hid (clash ⟨y0, y1, y2, y3⟩ ⟨z0, z1, z2, z3⟩ = false) := Lib.hid (by
                  rw [HC.out]
                  simp only [Bool.or_eq_false_iff, Bool.and_eq_false_iff, beq_eq_false_iff_ne]
                  refine ⟨?_, ?_⟩
                  · by_cases h : y0 = z0
                    · exact .inr (fun h2 => f0 ⟨h, h2⟩)
                    · exact .inl h
                  · by_cases h : y2 = z2
                    · exact .inr (fun h2 => f1 ⟨h, h2⟩)
                    · exact .inl h)
                have HG := Lib.hid (take_grow (P := fun z => clash ⟨y0, y1, y2, y3⟩ z = false) HZ.out HAll.out hno.out)
                have T0 : (y0 == z0) = false ∨ ((y0 == z0) = true ∧ (y1 == z1) = false) := by
                  by_cases h : y0 = z0
                  · exact .inr ⟨by simpa using h, by simp; exact fun h2 => f0 ⟨h, h2⟩⟩
                  · exact .inl (by simpa using h)
                have T1 : (y2 == z2) = false ∨ ((y2 == z2) = true ∧ (y3 == z3) = false) := by
                  by_cases h : y2 = z2
                  · exact .inr ⟨by simpa using h, by simp; exact fun h2 => f1 ⟨h, h2⟩⟩
                  · exact .inl (by simpa using h)
                clear f0 f1
                rcases T0 with g0 | ⟨g0, g1⟩ <;> rcases T1 with g2 | ⟨g2, g3⟩
                all_goals
                  go_wp2_with fail
                  go_roundw
                  case rel => exact ⟨k + 1, by go_num, by omega, KA.out, BA.out, XA.out, HG.out⟩
                  case measure => simp [intOf]; omega
          · have HE := Lib.hid (any_none (p := clash ⟨y0, y1, y2, y3⟩) (take_all (i := k) (by rw [List.length_take]; omega) HAll.out))
            obtain rfl := HFi.out HBf.out HE.out
            go_wp2_with fail
            go_ret
            exact ⟨rfl, KR.out⟩
end Valid
end Go.Proofs.Ytkmpajdiedpfhaa
