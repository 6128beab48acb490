/- The contracts of the package config: what is wrong with the windows. No conditions but those stated. -/
import Derived.Test.YtkmpajdiedpfhaaValid3
import Derived.OwnWalk
namespace Go.Proofs.Ytkmpajdiedpfhaa
open Go.ChangeShapes Go.WideShapes Go.ChangeAt Go.RowKit
set_option linter.unusedVariables false
set_option linter.unusedSimpArgs false
namespace Valid
def winB (np : Nat) (x : WinD) : Bool := withB x.part 0 ((np : Int) - 1) && withB x.ticks 1 100
theorem right_window (p t : Int) (n : Int) (h0 : 0 ≤ n) (h1 : n ≤ 9223372036854775807) (w : World) : Calls Try.prog 65 #[.agg #[.int .i64 p, .int .i64 t], .int .i64 n] w fun e w' => e = .returned (.bool (withB p 0 (n - 1) && withB t 1 100)) ∧ Keep [] w w' := by
  have KK : Hid (Keep [] w (w.alloc (.cells #[.int .i64 p, .int .i64 t] 60))) := Lib.hid ((Keep.refl _ _).alloc _)
  obtain ⟨b1, hb1⟩ : ∃ b, withB p 0 (n - 1) = b := ⟨_, rfl⟩
  have HB := Lib.hid hb1
  rw [hb1]
  clear hb1
  cases b1
  all_goals
    go_enter Try.func65, Try.ntmps65
    go_wp2_with fail
    refine (within' _ _ _ _).mono ?_
    rintro e w' ⟨rfl, rfl⟩
    rw [HB.out]
    go_wp2_with (go_at_call 33; refine (within' _ _ _ _).mono ?_; rintro e w' ⟨rfl, rfl⟩)
    go_ret
    exact ⟨ret_bool (by simp), KK.out⟩
theorem bools_get (L : List Bool) (i : Nat) (b : Bool) (h : L[i]? = some b) : (L.map Value.bool)[i]? = some (.bool b) := by rw [List.getElem?_map, h]; rfl
theorem index_bool {w : World} {g cap : Nat} (L : List Bool) (h : OwnRow w g 4 (L.map Value.bool)) (hle : L.length ≤ cap) (hm : cap ≤ maxLen) :
    Calls Try.prog 71 #[.slice (some ⟨g, 0, none⟩) L.length cap, .bool false] w (IdxPost w (L.any (fun b => !b))) := by
  unfold maxLen at hm
  have H := Lib.hid h
  generalize hl : L.length = l at *
  have HL := Lib.hid hl
  clear h hl
  go_enter Try.func71, Try.ntmps71
  go_wp2_with fail
  go_loop [8] (fun c => ∃ i : Nat, c = .int .i64 i ∧ i ≤ l ∧ ∀ y, y ∈ L.take i → (!y) = false) (fun c => l - (intOf c).toNat)
  case atStart => exact ⟨0, rfl, Nat.zero_le _, by simp⟩
  case round =>
    obtain ⟨i, rfl, hi, hall⟩ := hrel
    have HAll := Lib.hid hall
    clear hall
    by_cases hlt : i < l
    · have hlt' : (i : Int) < l := by omega
      obtain ⟨y, hy⟩ := get_of HL hlt
      have c1 := H.out.cell i _ (bools_get L i y hy)
      have HY := Lib.hid hy
      clear hy
      cases y with
      | true =>
        have HE := Lib.hid (take_grow (P := fun y => (!y) = false) HY.out HAll.out rfl)
        go_wp2_with fail
        go_round
        case rel => exact ⟨i + 1, by go_num, by omega, HE.out⟩
        case measure => simp [intOf]; omega
      | false =>
        have HE := Lib.hid (any_hit (p := fun b : Bool => !b) HY.out rfl)
        go_wp2_with fail
        go_ret
        exact ⟨i, by omega, rfl, by rw [HE.out]; simp, Keep.refl _ _⟩
    · have HE := Lib.hid (any_none (p := fun b : Bool => !b) (take_all (by rw [HL.out]; omega) HAll.out))
      go_wp2_with fail
      go_ret
      exact ⟨-1, by omega, rfl, by rw [HE.out]; simp, Keep.refl _ _⟩
theorem contains_bool {w : World} {g cap : Nat} (L : List Bool) (h : OwnRow w g 4 (L.map Value.bool)) (hle : L.length ≤ cap) (hm : cap ≤ maxLen) :
    Calls Try.prog 66 #[.slice (some ⟨g, 0, none⟩) L.length cap, .bool false] w fun e w' => e = .returned (.bool (L.any (fun b => !b))) ∧ Keep [] w w' := by
  have H := Lib.hid (index_bool L h hle hm)
  obtain ⟨bb, hbb⟩ : ∃ bb, L.any (fun b => !b) = bb := ⟨_, rfl⟩
  rw [hbb] at H ⊢
  clear hbb h hle hm
  generalize L.length = l at *
  go_enter Try.func66, Try.ntmps66
  go_wp2_with fail
  refine H.out.mono ?_
  rintro e w2 ⟨r, h0, rfl, hr, k2⟩
  have K2 := Lib.hid k2
  have HR := Lib.hid hr
  clear k2 hr
  go_wp2_with fail
  all_goals
    go_ret
    exact ⟨ret_bool (by rw [← HR.out]; try simp [*]), K2.out⟩
theorem contains_bool' {w : World} {g cap n : Nat} {L : List Bool} (hn : n = L.length) (h : OwnRow w g 4 (L.map Value.bool)) (hle : n ≤ cap) (hm : cap ≤ maxLen) :
    Calls Try.prog 66 #[.slice (some ⟨g, 0, none⟩) n cap, .bool false] w fun e w' => e = .returned (.bool (L.any (fun b => !b))) ∧ Keep [] w w' := by
  subst hn; exact contains_bool L h hle hm
/-- Which partitions have a window among these. -/
def hasL (np : Nat) (ws : List WinD) : List Bool := (List.range np).map (fun i : Nat => ws.any (fun x => x.part == (i : Int)))
def winsI (np : Nat) (ws : List WinD) : Int := if ws.length < 1 ∨ 16 < ws.length then 6 else if ws.any (fun x => !winB np x) = true then 7 else if (hasL np ws).any (fun b => !b) = true then 8 else 0
theorem hasL_length (np : Nat) (ws : List WinD) : (hasL np ws).length = np := by simp [hasL]
theorem hasL_nil (np : Nat) : hasL np [] = List.replicate np false := by
  unfold hasL
  apply List.ext_getElem
  · simp
  · intro i h1 h2
    simp
theorem hasL_snoc (np : Nat) (ws : List WinD) (x : WinD) (q : Nat) (hq : x.part = q) (hlt : q < np) : hasL np (ws ++ [x]) = (hasL np ws).set q true := by
  apply List.ext_getElem?
  intro i
  rw [List.getElem?_set]
  unfold hasL
  by_cases hi : i < np
  · rw [List.getElem?_map, List.getElem?_range hi, List.getElem?_map, List.getElem?_range hi]
    by_cases hqi : q = i
    · subst hqi
      rw [if_pos rfl, if_pos (by simpa using hlt)]
      simp [hq]
    · rw [if_neg hqi]
      simp only [Option.map_some, List.any_append, List.any_cons, List.any_nil, Bool.or_false]
      rw [show (x.part == (i : Int)) = false by simp [hq]; omega]
      simp
  · rw [List.getElem?_eq_none (by simpa using Nat.le_of_not_lt hi), List.getElem?_eq_none (by simpa using Nat.le_of_not_lt hi)]
    split
    · omega
    · rfl
theorem infoBool : (Try.prog.info? 4).map (fun i => (i.zero, i.size, i.bytes)) = some (some (.bool false), 1, 1) := by kernel_rfl
theorem made_bools (n : Nat) : (madeCells (Value.bool false).cells (n * 1)).toList = (List.replicate n false).map Value.bool := by
  apply List.ext_getElem
  · simp [madeCells]
  · intro i h1 h2
    simp [madeCells, Value.cells, Nat.mod_one]
theorem winB_part {np : Nat} {x : WinD} (h : winB np x = true) : ∃ q : Nat, x.part = q ∧ q < np := by
  simp only [winB, withB, Bool.and_eq_true, decide_eq_true_eq] at h
  exact ⟨x.part.toNat, by omega, by omega⟩
set_option maxHeartbeats 2000000 in
set_option maxRecDepth 100000 in
theorem wrong_windows {w : World} {B : Nat → Prop} {x : ConfD} {v1 v2 v3 : Value} (h1 : SlD B w 2 (PartRep B w) v1 x.parts) (h2 : SlD B w 2 WinRep v2 x.wins) (hnp : x.parts.length ≤ 4) :
    Calls Try.prog 48 #[.agg #[v1, v2, v3]] w fun e w' => e = .returned (.int .i64 (winsI x.parts.length x.wins)) ∧ Keep [] w w' := by
  obtain ⟨i0, hi0, hz0, hz1, hz2⟩ := info_parts infoBool
  obtain ⟨pa, pc, rfl, p1, p2, _⟩ := h1
  obtain ⟨wa, wcp, rfl, w1, w2, w3⟩ := h2
  obtain ⟨r, hr⟩ : ∃ r, winsI x.parts.length x.wins = r := ⟨_, rfl⟩
  generalize x.wins = ws at *
  generalize x.parts.length = np at *
  have H6 : Hid (ws.length < 1 ∨ 16 < ws.length → r = 6) := Lib.hid (fun h => by rw [← hr]; unfold winsI; rw [if_pos h])
  have H7 : Hid (¬ (ws.length < 1 ∨ 16 < ws.length) → ws.any (fun x => !winB np x) = true → r = 7) := Lib.hid (fun h h2 => by rw [← hr]; unfold winsI; rw [if_neg h, if_pos h2])
  have H8 : Hid (¬ (ws.length < 1 ∨ 16 < ws.length) → ws.any (fun x => !winB np x) = false → r = if (hasL np ws).any (fun b => !b) = true then 8 else 0) := Lib.hid (fun h h2 => by rw [← hr]; unfold winsI; rw [if_neg h, if_neg (by rw [h2]; simp)])
  rw [hr]
  clear hr
  generalize hwn : ws.length = wn at *
  have Hwn := Lib.hid hwn
  have W3 := Lib.hid w3
  unfold maxLen at p2 w2
  clear hwn w3
  have KK : Hid (Keep [] w (w.alloc (.cells #[.slice pa np pc, .slice wa wn wcp, v3] 26))) := Lib.hid ((Keep.refl _ _).alloc _)
  have BX := Lib.hid (heap_alloc_new w (.cells #[.slice pa np pc, .slice wa wn wcp, v3] 26))
  have HW : Hid (withB wn 1 16 = !decide (wn < 1 ∨ 16 < wn)) := Lib.hid (by simp [withB]; rw [Bool.eq_iff_iff]; simp; omega)
  by_cases c1 : wn < 1 ∨ 16 < wn
  · obtain rfl := H6.out c1
    have hwf : Hid (withB wn 1 16 = false) := Lib.hid (by rw [HW.out]; simp; omega)
    clear c1
    go_enter Try.func48, Try.ntmps48
    go_wp2_with (go_at_call 33; refine (within' _ _ _ _).mono ?_; rintro e w' ⟨rfl, rfl⟩; rw [hwf.out])
    go_ret
    exact ⟨rfl, KK.out⟩
  · have hwf : Hid (withB wn 1 16 = true) := Lib.hid (by rw [HW.out]; simp; omega)
    have HC1 := Lib.hid c1
    clear c1
    go_enter Try.func48, Try.ntmps48
    go_wp2_with (first
      | (go_at_call 33; refine (within' _ _ _ _).mono ?_; rintro e w' ⟨rfl, rfl⟩; rw [hwf.out])
      | (at_make; refine wpList_make_full _ rfl _ _ 105 rfl (w.heap.size + 1) 4 i0 _ 1 Try.underlying105 hi0 hz0 hz1 .i64 .i64 np np np rfl rfl rfl rfl (by rw [hz2]; omega) (by unfold maxLen; omega) (by simp) ?_; intro w4 ho4 hg4; have Ho4 := Lib.hid ho4; have KM := Lib.hid (Keep.of_grown (Keep.refl [] _) hg4 (by simp)); clear ho4 hg4; obtain ⟨q0, q1, q2⟩ := cells3 (KM.out.to BX.out (by simp))))
    have hown := OwnRow.of_owns Ho4.out rfl
    have HRow : Hid (OwnRow w4 (w.heap.size + 1) 4 ((hasL np (ws.take 0)).map Value.bool)) := Lib.hid (by
      have h := hown.1
      rw [made_bools] at h
      simp only [List.take_zero, hasL_nil]
      simpa using h)
    clear hown
    have B4 := Lib.hid (KM.out.to BX.out (by simp))
    have K4 := Lib.hid (KK.out.trans KM.out)
    have hz4 := lt_of_block B4.out
    go_loopw [18] (fun c wr => ∃ k : Nat, c = .int .i64 k ∧ k ≤ wn ∧ Keep [] w wr ∧ wr.heap[w.heap.size]? = some (.cells #[.slice pa np pc, .slice wa wn wcp, v3] 26 (0, 0)) ∧ OwnRow wr (w.heap.size + 1) 4 ((hasL np (ws.take k)).map Value.bool) ∧ ∀ y, y ∈ ws.take k → (!winB np y) = false) (fun c _ => wn - (intOf c).toNat)
    case atStart => exact ⟨0, rfl, Nat.zero_le _, K4.out, B4.out, HRow.out, by simp⟩
    case round =>
      obtain ⟨k, rfl, hk, kr, br, hrow, hall⟩ := hrel
      have KR := Lib.hid kr
      have BR := Lib.hid br
      have HRw := Lib.hid hrow
      have HAll := Lib.hid hall
      clear kr br hrow hall q0 q1 q2
      obtain ⟨q0, q1, q2⟩ := cells3 BR.out
      by_cases hkl : k < wn
      · have hkl' : (k : Int) < wn := by omega
        obtain ⟨y, hy⟩ := get_of Hwn hkl
        obtain ⟨b, o, cs, rfl, _, _, hcl, hc, rfl, _⟩ := W3.out k y hy
        have HY := Lib.hid hy
        have e0 := cell_keep KR.out (hc 0 _ rfl) (by simp)
        have e1 := cell_keep KR.out (hc 1 _ rfl) (by simp)
        simp only [Nat.add_zero] at e0
        have HTk : Hid (ws.take (k + 1) = ws.take k ++ [y]) := Lib.hid (by rw [List.take_add_one, hy]; rfl)
        clear hc hy hcl
        obtain ⟨yp, yt⟩ := y
        simp only at e0 e1
        have kA := (Keep.refl [] wr).alloc (.cells #[.int .i64 yp, .int .i64 yt] 60)
        have KA := Lib.hid (KR.out.trans kA)
        have BA := Lib.hid (kA.to BR.out (by simp))
        have RA := Lib.hid (HRw.out.keep kA (by simp))
        have XA := Lib.hid (heap_alloc_new wr (.cells #[.int .i64 yp, .int .i64 yt] 60))
        have hxs : w.heap.size + 1 < wr.heap.size := HRw.out.lt
        obtain ⟨g0, g1, g2⟩ := cells3 BA.out
        obtain ⟨x0, x1⟩ := cells2 XA.out
        clear kA
        obtain ⟨bb, hbb⟩ : ∃ b, winB np ⟨yp, yt⟩ = b := ⟨_, rfl⟩
        have HBB : Hid ((withB yp 0 ((np : Int) - 1) && withB yt 1 100) = bb) := Lib.hid hbb
        have HBW := Lib.hid hbb
        clear hbb
        go_wp2_with fail
        refine (right_window yp yt np (by omega) (by omega) _).mono ?_
        rintro e w5 ⟨rfl, k5⟩
        rw [HBB.out]
        have K5 := Lib.hid (KA.out.trans k5)
        have B5 := Lib.hid (k5.to BA.out (by simp))
        have R5 := Lib.hid (RA.out.keep k5 (by simp))
        have X5 := Lib.hid (k5.to XA.out (by simp))
        have hz5 := k5.size
        clear k5 x0 x1 g0 g1 g2
        obtain ⟨x0, x1⟩ := cells2 X5.out
        cases bb with
        | false =>
          obtain rfl := H7.out HC1.out (any_hit (p := fun x => !winB np x) HY.out (by rw [HBW.out]; rfl))
          go_wp2_with fail
          go_ret
          exact ⟨rfl, K5.out⟩
        | true =>
          obtain ⟨q, hq, hqn⟩ := winB_part HBW.out
          simp only at hq
          subst hq
          have hqn' : (q : Int) < np := by omega
          have HAll2 := Lib.hid (take_grow (P := fun x => (!winB np x) = false) HY.out HAll.out (by rw [HBW.out]; rfl))
          have hlen : q < ((hasL np (ws.take k)).map Value.bool).length := by rw [List.length_map, hasL_length]; exact hqn
          obtain ⟨dv, hdv⟩ : ∃ dv, ((hasL np (ws.take k)).map Value.bool)[q]? = some dv := ⟨_, List.getElem?_eq_getElem hlen⟩
          have d1 := R5.out.cell q dv hdv
          have f1 := R5.out.free q
          have HSet : Hid (((hasL np (ws.take k)).map Value.bool).set q (.bool true) = (hasL np (ws.take (k + 1))).map Value.bool) := Lib.hid (by
            rw [HTk.out, hasL_snoc np _ ⟨q, yt⟩ q rfl hqn, List.map_set])
          clear hlen hdv
          go_wp2_with fail
          go_roundw
          case rel => exact ⟨k + 1, by go_num, by omega, K5.out.setCell (.inl (by simp)) _, Keep.to ((Keep.refl [w.heap.size + 1] w5).setCell (.inr (by simp)) _) B5.out (by simp), by
            have h := R5.out.set q (.bool true)
            rw [HSet.out] at h
            exact h, HAll2.out⟩
          case measure => simp [intOf]; omega
      · have HE := Lib.hid (any_none (p := fun x => !winB np x) (take_all (by rw [Hwn.out]; omega) HAll.out))
        have HTk : Hid (ws.take k = ws) := Lib.hid (List.take_of_length_le (by rw [Hwn.out]; omega))
        have HR8 := Lib.hid (H8.out HC1.out HE.out)
        have HRf : Hid (OwnRow wr (w.heap.size + 1) 4 ((hasL np ws).map Value.bool)) := Lib.hid (by
          have h := HRw.out
          rw [HTk.out] at h
          exact h)
        have Hln : Hid (np = (hasL np ws).length) := Lib.hid (hasL_length np ws).symm
        go_wp2_with fail
        refine (contains_bool' Hln.out HRf.out (Nat.le_refl _) (by unfold maxLen; omega)).mono ?_
        rintro e w5 ⟨rfl, k5⟩
        have K5 := Lib.hid (KR.out.trans k5)
        clear k5
        obtain ⟨b8, hb8⟩ : ∃ b, (hasL np ws).any (fun b => !b) = b := ⟨_, rfl⟩
        rw [hb8] at HR8 ⊢
        clear hb8
        cases b8
        all_goals
          go_wp2_with fail
          go_ret
          exact ⟨ret_int (by have := HR8.out; simpa using this.symm), K5.out⟩
end Valid
end Go.Proofs.Ytkmpajdiedpfhaa
