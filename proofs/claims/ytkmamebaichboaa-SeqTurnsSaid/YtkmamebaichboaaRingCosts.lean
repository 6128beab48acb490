/- The law RingCosts. No conditions. -/
import Derived.Test.YtkmamebaichboaaRingLaw2
import Derived.Test.YtkmamebaichboaaActs
import Derived.Test.YtkmamebaichboaaStep
import Derived.BigQuiet
namespace Go.Proofs.Ytkmamebaichboaa
open Go.ChangeShapes Go.WideShapes Go.ChangeAt Go.RowKit
set_option linter.unusedVariables false
set_option linter.unusedSimpArgs false

namespace Law08
open Prog
theorem put_self {l : List Int} {a v : Int} (h : wordGet l a = v) : wordPut l a v = l := by
  by_cases h1 : 0 ≤ a ∧ a < l.length
  · rw [wordPut_in h1]
    rw [wordGet_in h1] at h
    subst h
    apply List.ext_getElem
    · simp
    · intro i h2 h3
      rw [List.getElem_set]
      split
      · rename_i e; subst e; simp [nth, h3]
      · rfl
  · exact wordPut_out h1
/-- The words behind t puts of nought. -/
def M (t : Int) : List Int := wordPut (List.replicate 30 0) 4 t
theorem M_len (t : Int) : (M t).length = 30 := by unfold M; rw [wordPut_length]; rfl
theorem M_four (t : Int) : wordGet (M t) 4 = t := get_put (by simp)
theorem M_else {t a : Int} (h : a ≠ 4) : wordGet (M t) a = 0 := by
  unfold M
  rw [get_put_ne (by omega)]
  exact get_zeros _ _
theorem M_zero : List.replicate 30 0 = M 0 := by decide
def X (k c : Int) : Act := ⟨k, c, 0, 0, false, 0⟩
theorem w64 {x : Int} (h : -9223372036854775808 ≤ x ∧ x ≤ 9223372036854775807) : wrap64 x = x := IntWalk.wrap64_in x (by omega)
theorem put_some {c t : Int} (hc : 1 ≤ c ∧ c ≤ 16) (ht : 0 ≤ t ∧ t < c) : (actP (X 0 c)).cost (M t) = 4 ∧ ((actP (X 0 c)).solo (M t)).2 = M (t + 1) := by
  have e : actP (X 0 c) = (do let ok ← ringPutP 3 c 0; pure (0, ok)) := rfl
  have hp := place_bounds 3 c t hc
  have h1 : ¬ ringW c = 0 := by rw [ringW_in hc]; omega
  have h3 : wordGet (M t) 3 = 0 := M_else (by omega)
  have h4 : wordGet (M t) 4 = t := M_four t
  have h5 : wrap64 (t - 0) = t := by rw [Int.sub_zero]; exact w64 (by omega)
  have h5' : wrap64 t = t := w64 (by omega)
  have h6 : wrap64 (t + 1) = t + 1 := w64 (by omega)
  have h7 : ¬ c ≤ t := by omega
  have h8 : wordPut (M t) (place 3 c t) 0 = M t := put_self (M_else (by omega))
  have h9 : wordPut (M t) 4 (t + 1) = M (t + 1) := put_put
  rw [e]
  simp [ringPutP, h1, h3, h4, h5, h6, h7, h8, h9, h5']
def want (kd c n : Int) : Int := if kd = 0 ∧ n < c ∨ kd = 1 ∧ 0 < n then 4 else 2
theorem x_cost {kd c n : Int} (hc : 1 ≤ c ∧ c ≤ 16) (hn : 0 ≤ n ∧ n ≤ c) (hk : 0 ≤ kd ∧ kd ≤ 3) : ((actP (X kd c)).cost (M n) : Int) = want kd c n := by
  have h1 : ¬ ringW c = 0 := by rw [ringW_in hc]; omega
  have h3 : wordGet (M n) 3 = 0 := M_else (by omega)
  have h4 : wordGet (M n) 4 = n := M_four n
  have h5 : wrap64 n = n := w64 (by omega)
  have hkk : kd = 0 ∨ kd = 1 ∨ kd = 2 ∨ kd = 3 := by omega
  rcases hkk with rfl | rfl | rfl | rfl
  · have e : actP (X 0 c) = (do let ok ← ringPutP 3 c 0; pure (0, ok)) := rfl
    rw [e]
    by_cases h : c ≤ n
    · have h2 : ¬ n < c := by omega
      simp [ringPutP, h1, h3, h4, h5, h, h2, want]
    · have h2 : n < c := by omega
      simp [ringPutP, h1, h3, h4, h5, h, h2, want]
  · have e : actP (X 1 c) = ringGetP 3 c := rfl
    rw [e]
    by_cases h : n = 0
    · subst h
      simp [ringGetP, h1, h3, h4, want]
    · have h2 : 0 < n := by omega
      simp [ringGetP, h1, h3, h4, h5, h, h2, want]
  · have e : actP (X 2 c) = (do let n ← ringLenP 3; pure (n, false)) := rfl
    rw [e]
    simp [ringLenP, want]
  · have e : actP (X 3 c) = (do let _ ← ringClearP 3; pure (0, false)) := rfl
    rw [e]
    simp [ringClearP, want]
theorem runs_x {kd c n : Int} (hc : 1 ≤ c ∧ c ≤ 16) (hn : 0 ≤ n ∧ n ≤ c) (hk : 0 ≤ kd ∧ kd ≤ 3) : ∃ R : Nat → Act × St, R 0 = (X kd c, St.new (M n)) ∧ (∀ k : Nat, stepP (progB actP actU) k ((R k).1, (R k).2) = ((R (k + 1)).1, (R (k + 1)).2)) ∧
    (∀ k : Nat, k ≤ 9 → (R k).2.log.length ≤ 900000) ∧ (R 9).2.over = true ∧ ((R 9).2.log.length : Int) = want kd c n := by
  have hx := x_cost hc hn hk
  obtain ⟨g1, g2, g3, g4⟩ := run_solo actP actU actP_U actU_U (X kd c) (M n) 9 (by omega) (by unfold want at hx; split at hx <;> omega)
  refine ⟨fun k => runP (progB actP actU) k (X kd c, St.new (M n)), rfl, fun k => rfl, fun k hk => ?_, g1, by rw [← hx, g4]⟩
  have := runP_log (progB_mu actP actU) (X kd c, St.new (M n)) k
  have e : (X kd c, St.new (M n)).2.log.length = 0 := rfl
  simp only
  omega
theorem after_alloc {m b : Nat} {w0 w : World} {l : List Int} (hm : MemRep 134 w m b l) (hk : Keep [] w0 w) (a : Obj) :
    MemRep 134 (w.alloc a) m b l ∧ (w.alloc a).heap[w.heap.size]? = some a ∧ Keep [] w0 (w.alloc a) ∧ (w.alloc a).heap.size = w.heap.size + 1 :=
  ⟨hm.keep ((Keep.refl [] w).alloc _) (by simp) (by simp), heap_alloc_new w _, hk.alloc _, by simp⟩
theorem ne_act {m b x : Nat} {w : World} {l : List Int} {c : Array Value} (hm : MemRep 134 w m b l) (hr : w.heap[x]? = some (.cells c 65 (0, 0))) : x ≠ m ∧ x ≠ b :=
  ⟨fun e => by subst e; rw [hm.head] at hr; simp at hr, fun e => by subst e; rw [hm.body] at hr; simp at hr⟩
set_option maxHeartbeats 4000000 in
set_option maxRecDepth 100000 in
theorem ringCosts_walk (size full kind : Int) (hs : 0 ≤ size ∧ size ≤ 255) (hf : 0 ≤ full ∧ full ≤ 255) (hkd : 0 ≤ kind ∧ kind ≤ 255) (w : World) :
    Calls Try.prog 14 #[.int .u8 size, .int .u8 full, .int .u8 kind] w fun e w' => e = .returned (.bool true) ∧ Keep [] w w' := by
  go_enter Try.func14, Try.ntmps14
  go_wp2_with fail
  refine (awake08 _).mono ?_
  rintro e w0 ⟨rfl, hk0⟩
  have Hk0 := Lib.hid hk0
  clear hk0
  go_wp2_with fail
  have hk : 1 ≤ 1 + size % 16 ∧ 1 + size % 16 ≤ 16 := by omega
  generalize 1 + size % 16 = c at hk ⊢
  have hk0 : (c + 1 == 0) = false := by simp; omega
  refine (word_new 30 _ (by omega)).mono ?_
  rintro e w1 ⟨rfl, hm1, hk1, hs1⟩
  have hr : (List.replicate (min (max (30 : Int) 0) 4000).toNat (0 : Int)) = List.replicate 30 0 := by decide
  have hn : 0 ≤ full % (c + 1) ∧ full % (c + 1) ≤ c := ⟨Int.emod_nonneg _ (by omega), by have := Int.emod_lt_of_pos full (show (0 : Int) < c + 1 by omega); omega⟩
  generalize full % (c + 1) = n at hn ⊢
  rw [hr, M_zero] at hm1
  have hmw : w.heap.size ≤ w0.heap.size + 1 := by have := Hk0.out.size; omega
  have hbw : w.heap.size ≤ w0.heap.size := Hk0.out.size
  have hk1' : Keep [] w w1 := Hk0.out.trans hk1
  generalize w0.heap.size + 1 = m at *
  generalize w0.heap.size = b at *
  have Hm1 := Lib.hid hm1; have Hk1 := Lib.hid hk1'
  clear hm1 hk1 hk1' hs1 hr
  go_wp2_with fail
  go_loopw [28] (fun q wr => ∃ t : Nat, q = .int .i64 t ∧ (t : Int) ≤ n ∧ MemRep 134 wr m b (M t) ∧ Keep [] w wr) (fun q _ => n.toNat - (intOf q).toNat)
  case atStart => exact ⟨0, rfl, by omega, Hm1.out, Hk1.out⟩
  case round =>
    obtain ⟨t, rfl, h1, h2, h3⟩ := hrel
    have H2 := Lib.hid h2; have H3 := Lib.hid h3
    clear h2 h3
    by_cases hlt : (t : Int) < n
    · have Hs := Lib.hid (put_some hk (t := t) (by omega))
      have HA := Lib.hid (after_alloc H2.out H3.out (.cells #[.int .u8 0, .int .i64 c, .int .i64 0, .int .i64 0, .bool false, .int .i64 0] 65))
      go_wp2_with fail
      refine (act_run (a := X 0 c) HA.out.1 HA.out.2.1 (by have := Hs.out.1; omega)).mono ?_
      rintro e w2 ⟨rfl, h4, h5, h6⟩
      rw [Hs.out.2] at h4
      have h7 : Keep [] w w2 := HA.out.2.2.1.transS h6 (T := []) (by simp) (by have := H3.out.size; simp; omega)
      have H4 := Lib.hid h4; have H7 := Lib.hid h7
      clear h4 h5 h6 h7 HA Hs
      go_wp2_with fail
      go_roundw
      case measure => simp [intOf]; omega
      case rel => exact ⟨t + 1, by go_num, by simp; omega, by simpa using H4.out, H7.out⟩
    · have ht' : (t : Int) = n := by omega
      subst ht'
      generalize hT : (t : Int) = T at *
      clear hT Hm1 Hk1
      have hpw := H3.out.size
      have hkd4 : 0 ≤ kind % 4 ∧ kind % 4 ≤ 3 := by omega
      have Hx := Lib.hid (x_cost hk hn hkd4)
      go_wp2_with fail
      have HA := Lib.hid (after_alloc H2.out H3.out (.cells #[.int .u8 (kind % 4), .int .i64 c, .int .i64 0, .int .i64 0, .bool false, .int .i64 0] 65))
      generalize hwa : wr.alloc (.cells #[.int .u8 (kind % 4), .int .i64 c, .int .i64 0, .int .i64 0, .bool false, .int .i64 0] 65) = wa at HA ⊢
      clear hwa
      generalize wr.heap.size = x at *
      refine (frame_new HA.out.1).mono ?_
      rintro e w2 ⟨rfl, h4, h5, h6⟩
      have nx := ne_act HA.out.1 HA.out.2.1
      have hax : wa.heap.size = x + 1 := HA.out.2.2.2
      obtain ⟨R, hR0, hRs, hRl, hRo, hRn⟩ := runs_x hk hn hkd4
      have HR0 := Lib.hid hR0; have HRs := Lib.hid hRs; have HRl := Lib.hid hRl; have HRo := Lib.hid hRo; have HRn := Lib.hid hRn
      clear hR0 hRs hRl hRo hRn Hx
      have Hst : Hid (∃ sl' o', FRep w2 wa.heap.size m b sl' (R 0).2 ∧ ActRep x (R 0).1 o' w2 ∧ EvO [x, wa.heap.size, b] [] wa (blk sl' ++ o') w2 ∧ Apart x wa.heap.size m b sl' o' ∧ (∀ j ∈ o', j < w2.heap.size)) :=
        Lib.hid ⟨_, [], by rw [HR0.out]; exact h4, by rw [HR0.out]; exact ⟨rfl, h5.to HA.out.2.1 (by simp)⟩, ⟨h5.mono (by simp), by simp [blk, Value.ownBlock]⟩, ⟨by omega, nx.1, nx.2, by simp [blk, Value.ownBlock], by simp, by simp, by simp, by simp, by simp⟩, by simp⟩
      have HKa := Lib.hid HA.out.2.2.1
      have hmlt : b < wa.heap.size := lt_of_block HA.out.1.body
      clear h4 h5 h6 HA H2 H3
      have hfx : x < wa.heap.size := by omega
      generalize wa.heap.size = f at *
      clear hax
      go_wp2_with fail
      go_loopw [45] (fun q wz => ∃ k : Nat, q = .int .i64 k ∧ k ≤ 9 ∧ ∃ sl' o', FRep wz f m b sl' (R k).2 ∧ ActRep x (R k).1 o' wz ∧ EvO [x, f, b] [] wa (blk sl' ++ o') wz ∧ Apart x f m b sl' o' ∧ (∀ j ∈ o', j < wz.heap.size)) (fun q _ => 9 - (intOf q).toNat)
      case atStart => exact ⟨0, rfl, by omega, Hst.out⟩
      case round =>
        obtain ⟨k, rfl, hk9, sl, o, g1, g2, g3, g4, g5⟩ := hrel
        have G1 := Lib.hid g1; have G2 := Lib.hid g2; have G3 := Lib.hid g3; have G4 := Lib.hid g4; have G5 := Lib.hid g5
        have Glen : Hid ((R k).2.log.length ≤ 900000) := Lib.hid (HRl.out k hk9)
        have Hbod := Lib.hid (show BodyOK 39 x (ActRep x) (progB actP actU) from actB_eq ▸ bodyOK x)
        clear g1 g2 g3 g4 g5 Hst
        by_cases hlt : k < 9
        · have hlt' : (k : Int) < 9 := by omega
          go_wp2_with fail
          refine (frame_stepB bodyK Hbod.out (actStays x) G1.out G2.out G4.out G5.out Glen.out k (HRs.out k)).mono ?_
          rintro e w3 ⟨rfl, sl1, o1, g1, g2, g3, g4, g5⟩
          have Gn : Hid (∃ sl' o', FRep w3 f m b sl' (R (k + 1)).2 ∧ ActRep x (R (k + 1)).1 o' w3 ∧ EvO [x, f, b] [] wa (blk sl' ++ o') w3 ∧ Apart x f m b sl' o' ∧ (∀ j ∈ o', j < w3.heap.size)) := Lib.hid ⟨sl1, o1, g1, g2, G3.out.trans g3, g4, g5⟩
          clear g1 g2 g3 g4 g5
          go_wp2_with fail
          go_roundw
          case measure => simp [intOf]; omega
          case rel => exact ⟨k + 1, by go_num, by omega, Gn.out⟩
        · have hk9' : k = 9 := by omega
          subst hk9'
          have HKf : Hid (Keep [] w wr) := Lib.hid (HKa.out.transS G3.out.keep (T := []) (by simp) (by simp; omega))
          have hov := HRo.out
          have hlen := HRn.out
          have Hov := Lib.hid hov; have Hlen := Lib.hid hlen
          clear hov hlen HR0 HRs HRl
          have hcases : (kind % 4 = 0 ∧ T < c) ∨ (kind % 4 = 0 ∧ ¬ T < c) ∨ (kind % 4 = 1 ∧ 0 < T) ∨ (kind % 4 = 1 ∧ ¬ 0 < T) ∨ kind % 4 = 2 ∨ kind % 4 = 3 := by omega
          rcases hcases with ⟨q1, q2⟩ | ⟨q1, q2⟩ | ⟨q1, q2⟩ | ⟨q1, q2⟩ | q1 | q1
          all_goals
            have hwant : ∃ z : Int, want (kind % 4) c T = z ∧ z = (if kind % 4 = 0 ∧ T < c ∨ kind % 4 = 1 ∧ 0 < T then 4 else 2) := ⟨_, rfl, rfl⟩
            have hz := Hlen.out
            unfold want at hz
            first
              | simp only [q1, q2, true_and, false_and, or_false, false_or, and_false, if_true, if_false, or_true, true_or, Int.reduceEq, reduceIte] at hz
              | simp only [q1, true_and, false_and, or_false, false_or, and_false, if_true, if_false, or_true, true_or, Int.reduceEq, reduceIte] at hz
            have Hz := Lib.hid hz
            clear hz hwant
            go_wp2_with fail
            refine (frame_done G1.out).mono ?_
            rintro e w' ⟨rfl, rfl⟩
            rw [Hov.out]
            go_wp2_with fail
            refine (frame_steps G1.out).mono ?_
            rintro e w' ⟨rfl, rfl⟩
            rw [Hz.out]
            go_wp2_with fail
            go_ret
            exact ⟨rfl, HKf.out⟩
end Law08
end Go.Proofs.Ytkmamebaichboaa
