/- The contracts of the package config: what is wrong with a configuration first. No conditions but those stated. -/
import Derived.Test.YtkmpajdiedpfhaaValid7
namespace Go.Proofs.Ytkmpajdiedpfhaa
open Go.ChangeShapes Go.WideShapes Go.ChangeAt Go.RowKit
set_option linter.unusedVariables false
set_option linter.unusedSimpArgs false
namespace Valid
def firstNZ : List Int → Int
  | [] => 0
  | x :: r => if x = 0 then firstNZ r else x
theorem firstNZ_none : ∀ {l : List Int}, (∀ x, x ∈ l → x = 0) → firstNZ l = 0
  | [], _ => rfl
  | x :: r, h => by rw [firstNZ, if_pos (h x (by simp))]; exact firstNZ_none (fun y hy => h y (by simp [hy]))
theorem firstNZ_hit : ∀ {l : List Int} {i : Nat} {x : Int}, l[i]? = some x → (∀ y, y ∈ l.take i → y = 0) → x ≠ 0 → firstNZ l = x
  | [], i, x, h, _, _ => by simp at h
  | y :: r, 0, x, h, _, hx => by simp at h; subst h; rw [firstNZ, if_neg hx]
  | y :: r, i + 1, x, h, h0, hx => by
    rw [firstNZ, if_pos (h0 y (by simp))]
    exact firstNZ_hit (by simpa using h) (fun z hz => h0 z (by simp [hz])) hx
def wrongI (c : ConfD) : Int :=
  if c.parts.length < 1 ∨ 4 < c.parts.length then 1 else if firstNZ (c.parts.map partI) ≠ 0 then firstNZ (c.parts.map partI) else if winsI c.parts.length c.wins ≠ 0 then winsI c.parts.length c.wins
  else if 8 < c.chans.length then 9 else firstNZ ((List.range c.chans.length).map (chanI c.parts c.chans))
structure Wrong (c : ConfD) (r : Int) : Prop where
  size : c.parts.length < 1 ∨ 4 < c.parts.length → r = 1
  part : ¬ (c.parts.length < 1 ∨ 4 < c.parts.length) → ∀ (i : Nat) (y : PartD), c.parts[i]? = some y → (∀ z, z ∈ c.parts.take i → partI z = 0) → partI y ≠ 0 → r = partI y
  wins : ¬ (c.parts.length < 1 ∨ 4 < c.parts.length) → (∀ z, z ∈ c.parts → partI z = 0) → winsI c.parts.length c.wins ≠ 0 → r = winsI c.parts.length c.wins
  many : ¬ (c.parts.length < 1 ∨ 4 < c.parts.length) → (∀ z, z ∈ c.parts → partI z = 0) → winsI c.parts.length c.wins = 0 → 8 < c.chans.length → r = 9
  chan : ¬ (c.parts.length < 1 ∨ 4 < c.parts.length) → (∀ z, z ∈ c.parts → partI z = 0) → winsI c.parts.length c.wins = 0 → ¬ 8 < c.chans.length → ∀ i, i < c.chans.length → (∀ j, j < i → chanI c.parts c.chans j = 0) → chanI c.parts c.chans i ≠ 0 → r = chanI c.parts c.chans i
  fine : ¬ (c.parts.length < 1 ∨ 4 < c.parts.length) → (∀ z, z ∈ c.parts → partI z = 0) → winsI c.parts.length c.wins = 0 → ¬ 8 < c.chans.length → (∀ j, j < c.chans.length → chanI c.parts c.chans j = 0) → r = 0
theorem parts_none {l : List PartD} (h : ∀ z, z ∈ l → partI z = 0) : firstNZ (l.map partI) = 0 := firstNZ_none (fun x hx => by obtain ⟨z, hz, rfl⟩ := List.mem_map.1 hx; exact h z hz)
theorem wrong_is (c : ConfD) : Wrong c (wrongI c) where
  size h := by unfold wrongI; rw [if_pos h]
  part h i y hy hz hne := by
    have e : firstNZ (c.parts.map partI) = partI y := firstNZ_hit (i := i) (by rw [List.getElem?_map, hy]; rfl) (fun x hx => by
      rw [← List.map_take] at hx
      obtain ⟨z, h1, rfl⟩ := List.mem_map.1 hx
      exact hz z h1) hne
    unfold wrongI; rw [if_neg h, e, if_pos hne]
  wins h hz hne := by unfold wrongI; rw [if_neg h, parts_none hz, if_neg (by simp), if_pos hne]
  many h hz hw hc := by unfold wrongI; rw [if_neg h, parts_none hz, if_neg (by simp), if_neg (by simpa using hw), if_pos hc]
  chan h hz hw hc i hi hj hne := by
    unfold wrongI; rw [if_neg h, parts_none hz, if_neg (by simp), if_neg (by simpa using hw), if_neg hc]
    refine firstNZ_hit (i := i) (by rw [List.getElem?_map, List.getElem?_range hi]; rfl) (fun x hx => ?_) hne
    rw [← List.map_take] at hx
    obtain ⟨j, h1, rfl⟩ := List.mem_map.1 hx
    rw [List.take_range] at h1
    exact hj j (by have := List.mem_range.1 h1; omega)
  fine h hz hw hc hj := by
    unfold wrongI; rw [if_neg h, parts_none hz, if_neg (by simp), if_neg (by simpa using hw), if_neg hc]
    exact firstNZ_none (fun x hx => by obtain ⟨j, h1, rfl⟩ := List.mem_map.1 hx; exact hj j (List.mem_range.1 h1))
set_option maxHeartbeats 4000000 in
set_option maxRecDepth 100000 in
theorem conf_wrong {w : World} {B : Nat → Prop} {x : ConfD} {v : Value} (h : ConfRep B w x v) :
    Calls Try.prog 31 #[v] w fun e w' => e = .returned (.int .i64 (wrongI x)) ∧ Keep [] w w' := by
  have HCf : Hid (∀ w', Keep [] w w' → ConfRep B w' x v) := Lib.hid (fun w' k => h.kept k)
  obtain ⟨v1, v2, v3, rfl, hp, hw, hc⟩ := h
  have HP1 : Hid (∀ w', Keep [] w w' → SlD B w' 2 (PartRep B w') v1 x.parts) := Lib.hid (fun w' k => hp.keep k.size (fun b _ hb => k.block b hb (by simp)) (fun _ h => h) (fun _ _ _ h => h.kept k))
  have HW1 : Hid (∀ w', Keep [] w w' → SlD B w' 2 WinRep v2 x.wins) := Lib.hid (fun w' k => hw.kept k)
  have HC1 : Hid (∀ w', Keep [] w w' → SlD B w' 4 ChanRep v3 x.chans) := Lib.hid (fun w' k => hc.kept k)
  obtain ⟨pa, pc, rfl, p1, p2, p3⟩ := hp
  obtain ⟨wa, wcp, rfl, w1, w2, w3⟩ := hw
  obtain ⟨ca, cc, rfl, c1, c2, c3⟩ := hc
  obtain ⟨r, hr⟩ : ∃ r, wrongI x = r := ⟨_, rfl⟩
  have HWr : Hid (Wrong x r) := Lib.hid (hr ▸ wrong_is x)
  rw [hr]
  clear hr w3 c3
  generalize hpl : x.parts.length = pl at *
  generalize hwl : x.wins.length = wl at *
  generalize hcl : x.chans.length = cl at *
  have Hpl := Lib.hid hpl
  have Hcl := Lib.hid hcl
  have P3 := Lib.hid p3
  unfold maxLen at p2 w2 c2
  clear hpl hwl hcl p3
  have KK : Hid (Keep [] w (w.alloc (.cells #[.slice pa pl pc, .slice wa wl wcp, .slice ca cl cc] 26))) := Lib.hid ((Keep.refl _ _).alloc _)
  have BX := Lib.hid (heap_alloc_new w (.cells #[.slice pa pl pc, .slice wa wl wcp, .slice ca cl cc] 26))
  by_cases h1 : pl < 1 ∨ 4 < pl
  · obtain rfl := HWr.out.size (by rw [Hpl.out]; exact h1)
    have HB : Hid (withB pl 1 4 = false) := Lib.hid (withB_false (by omega))
    clear h1
    go_enter Try.func31, Try.ntmps31
    go_wp2_with (go_at_call 33; refine (within' _ _ _ _).mono ?_; rintro e w' ⟨rfl, rfl⟩; rw [HB.out])
    go_ret
    exact ⟨rfl, KK.out⟩
  · have HN1 : Hid (¬ (x.parts.length < 1 ∨ 4 < x.parts.length)) := Lib.hid (by rw [Hpl.out]; exact h1)
    have HB : Hid (withB pl 1 4 = true) := Lib.hid (withB_true (by omega))
    have hp4 : pl ≤ 4 := by omega
    clear h1
    go_enter Try.func31, Try.ntmps31
    go_wp2_with (go_at_call 33; refine (within' _ _ _ _).mono ?_; rintro e w' ⟨rfl, rfl⟩; rw [HB.out])
    generalize w.alloc (.cells #[.slice pa pl pc, .slice wa wl wcp, .slice ca cl cc] 26) = w4 at *
    go_loopw [17] (fun c wr => ∃ i : Nat, c = .int .i64 i ∧ i ≤ pl ∧ Keep [] w wr ∧ wr.heap[w.heap.size]? = some (.cells #[.slice pa pl pc, .slice wa wl wcp, .slice ca cl cc] 26 (0, 0)) ∧ ∀ z, z ∈ x.parts.take i → partI z = 0) (fun c _ => pl - (intOf c).toNat)
    case atStart => exact ⟨0, rfl, Nat.zero_le _, KK.out, BX.out, by simp⟩
    case round =>
      obtain ⟨i, rfl, hi, kr, br, hall⟩ := hrel
      have KR := Lib.hid kr
      have BR := Lib.hid br
      have HAll := Lib.hid hall
      clear kr br hall
      by_cases hlt : i < pl
      · have hlt' : (i : Int) < pl := by omega
        obtain ⟨y, hy⟩ := get_of Hpl hlt
        obtain ⟨b, o, cs, rfl, _, _, hl2, hcs, s1, s2, rfl, hs1, hs2⟩ := P3.out i y hy
        have HY := Lib.hid hy
        have e0 := cell_keep KR.out (hcs 0 _ rfl) (by simp)
        have e1 := cell_keep KR.out (hcs 1 _ rfl) (by simp)
        simp only [Nat.add_zero] at e0
        have kA := KR.out.alloc (.cells #[s1, s2] 54)
        have KA := Lib.hid kA
        have HS1 := Lib.hid (hs1.keep kA.size (fun b _ hb => kA.block b hb (by simp)) (fun _ h => h) (fun _ _ _ h => h.kept kA))
        have HS2 := Lib.hid (hs2.kept kA)
        have BA := Lib.hid (Keep.to ((Keep.refl [] wr).alloc (.cells #[s1, s2] 54)) BR.out (by simp))
        obtain ⟨vs1, hvs1⟩ : ∃ u, s1 = u := ⟨_, rfl⟩
        obtain ⟨ta, tc, e1', t1, t2, _⟩ := hs1
        obtain ⟨oa, oc, e2', o1, o2, _⟩ := hs2
        subst e1' e2'
        generalize y.threads.length = tn at *
        generalize y.objs.length = on at *
        clear hy hcs hl2 kA hvs1
        go_wp2_with fail
        refine (conf_part HS1.out HS2.out).mono ?_
        rintro e w5 ⟨rfl, k5⟩
        have K5 := Lib.hid (KA.out.trans k5)
        have B5 := Lib.hid (k5.to BA.out (by simp))
        clear k5
        by_cases hz : partI y = 0
        · have HG := Lib.hid (take_grow (P := fun z => partI z = 0) HY.out HAll.out hz)
          rw [hz]
          clear hz
          go_wp2_with fail
          go_roundw
          case rel => exact ⟨i + 1, by go_num, by omega, K5.out, B5.out, HG.out⟩
          case measure => simp [intOf]; omega
        · have HE := Lib.hid (HWr.out.part HN1.out i y HY.out HAll.out hz)
          have hz2 : (partI y == 0) = false := by simpa using hz
          have hz3 : (partI y != 0) = true := by simpa using hz
          generalize partI y = n at *
          clear hz
          go_wp2_with fail
          go_ret
          exact ⟨ret_int HE.out.symm, K5.out⟩
      · have HZ := Lib.hid (take_all (P := fun z => partI z = 0) (by rw [Hpl.out]; omega) HAll.out)
        obtain ⟨q0, q1, q2⟩ := cells3 BR.out
        go_wp2_with fail
        refine (wrong_windows (HP1.out _ KR.out) (HW1.out _ KR.out) (by rw [Hpl.out]; exact hp4)).mono ?_
        rintro e w5 ⟨rfl, k5⟩
        have K5 := Lib.hid (KR.out.trans k5)
        have B5 := Lib.hid (k5.to BR.out (by simp))
        clear k5 q0 q1 q2
        by_cases hz : winsI x.parts.length x.wins = 0
        · have HZ2 := Lib.hid hz
          rw [hz]
          clear hz
          obtain ⟨q0, q1, q2⟩ := cells3 B5.out
          by_cases h8 : 8 < cl
          · obtain rfl := HWr.out.many HN1.out HZ.out HZ2.out (by rw [Hcl.out]; exact h8)
            have h8' : (8 : Int) < cl := by omega
            go_wp2_with fail
            go_ret
            exact ⟨rfl, K5.out⟩
          · have HN8 : Hid (¬ 8 < x.chans.length) := Lib.hid (by rw [Hcl.out]; exact h8)
            have h8' : (cl : Int) ≤ 8 := by omega
            go_wp2_with fail
            obtain ⟨wo, rfl⟩ : ∃ wo : World, wo = wr := ⟨_, rfl⟩
            clear q0 q1 q2
            go_loopw [39] (fun c wr => ∃ i : Nat, c = .int .i64 i ∧ i ≤ cl ∧ Keep [] w wr ∧ wr.heap[w.heap.size]? = some (.cells #[.slice pa pl pc, .slice wa wl wcp, .slice ca cl cc] 26 (0, 0)) ∧ ∀ j, j < i → chanI x.parts x.chans j = 0) (fun c _ => cl - (intOf c).toNat)
            case atStart => exact ⟨0, rfl, Nat.zero_le _, K5.out, B5.out, fun j hj => absurd hj (Nat.not_lt_zero _)⟩
            case round =>
              obtain ⟨k, rfl, hk, kq, bq, hallc⟩ := hrel
              have KQ := Lib.hid kq
              have BQ := Lib.hid bq
              have HAC := Lib.hid hallc
              clear kq bq hallc
              obtain ⟨q0, q1, q2⟩ := cells3 BQ.out
              by_cases hkl : k < cl
              · have hkl' : (k : Int) < cl := by omega
                go_wp2_with fail
                refine (wrong_channel (HP1.out _ KQ.out) (HC1.out _ KQ.out) k (by rw [Hcl.out]; exact hkl)).mono ?_
                rintro e w6 ⟨rfl, k6⟩
                have K6 := Lib.hid (KQ.out.trans k6)
                have B6 := Lib.hid (k6.to BQ.out (by simp))
                clear k6 q0 q1 q2
                by_cases hz : chanI x.parts x.chans k = 0
                · have HG : Hid (∀ j, j < k + 1 → chanI x.parts x.chans j = 0) := Lib.hid (fun j hj => by
                    by_cases e : j = k
                    · subst e; exact hz
                    · exact HAC.out j (by omega))
                  rw [hz]
                  clear hz
                  go_wp2_with fail
                  go_roundw
                  case rel => exact ⟨k + 1, by go_num, by omega, K6.out, B6.out, HG.out⟩
                  case measure => simp [intOf]; omega
                · have HE := Lib.hid (HWr.out.chan HN1.out HZ.out HZ2.out HN8.out k (by rw [Hcl.out]; exact hkl) HAC.out hz)
                  have hz2 : (chanI x.parts x.chans k == 0) = false := by simpa using hz
                  have hz3 : (chanI x.parts x.chans k != 0) = true := by simpa using hz
                  generalize chanI x.parts x.chans k = n at *
                  clear hz
                  go_wp2_with fail
                  go_ret
                  exact ⟨ret_int HE.out.symm, K6.out⟩
              · obtain rfl := HWr.out.fine HN1.out HZ.out HZ2.out HN8.out (fun j hj => HAC.out j (by rw [Hcl.out] at hj; omega))
                go_wp2_with fail
                go_ret
                exact ⟨rfl, KQ.out⟩
        · have HE := Lib.hid (HWr.out.wins HN1.out HZ.out hz)
          have hz2 : (winsI x.parts.length x.wins == 0) = false := by simpa using hz
          have hz3 : (winsI x.parts.length x.wins != 0) = true := by simpa using hz
          generalize winsI x.parts.length x.wins = n at *
          clear hz
          go_wp2_with fail
          go_ret
          exact ⟨ret_int HE.out.symm, K5.out⟩
end Valid
end Go.Proofs.Ytkmpajdiedpfhaa
