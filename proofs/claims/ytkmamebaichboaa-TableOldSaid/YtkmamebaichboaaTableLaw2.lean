/- Law 10: TableOld. No conditions but those stated. -/
import Derived.Test.YtkmamebaichboaaTableLaw
import Derived.Deep.CutRange
import Derived.Deep.DeepCutAuto
import Derived.BigRegion
import Derived.BigQuiet
namespace Go.Proofs.Ytkmamebaichboaa
open Go.ChangeShapes Go.WideShapes Go.ChangeAt Go.RowKit
set_option linter.unusedVariables false
set_option linter.unusedSimpArgs false
namespace Law10
macro "kp" : term => `(by (repeat (first | exact Keep.refl _ _ | apply Keep.alloc | apply Keep.drew)))
theorem after_alloc {m b : Nat} {w0 w : World} {l : List Int} (hm : MemRep 134 w m b l) (hk : Keep [] w0 w) (a : Act) :
    MemRep 134 (w.alloc (.cells a.cells 27)) m b l ∧ (w.alloc (.cells a.cells 27)).heap[w.heap.size]? = some (.cells a.cells 27 (0, 0)) ∧
    Keep [] w0 (w.alloc (.cells a.cells 27)) ∧ w.heap.size < (w.alloc (.cells a.cells 27)).heap.size :=
  ⟨hm.keep ((Keep.refl [] w).alloc _) (by simp) (by simp), heap_alloc_new w _, hk.alloc _, by simp⟩
theorem ne_act {m b x : Nat} {w : World} {l : List Int} {c : Array Value} (hm : MemRep 134 w m b l) (hr : w.heap[x]? = some (.cells c 27 (0, 0))) : x ≠ m ∧ x ≠ b :=
  ⟨fun e => by subst e; rw [hm.head] at hr; simp at hr, fun e => by subst e; rw [hm.body] at hr; simp at hr⟩
theorem after3 {m b : Nat} {w0 w : World} {l : List Int} (hm : MemRep 134 w m b l) (hk : Keep [] w0 w) (x y z : Obj) :
    MemRep 134 (((w.alloc x).alloc y).alloc z) m b l ∧ (((w.alloc x).alloc y).alloc z).heap[w.heap.size]? = some x ∧ (((w.alloc x).alloc y).alloc z).heap[w.heap.size + 1]? = some y ∧ (((w.alloc x).alloc y).alloc z).heap[w.heap.size + 1 + 1]? = some z ∧
    Keep [] w0 (((w.alloc x).alloc y).alloc z) ∧ (((w.alloc x).alloc y).alloc z).heap.size = w.heap.size + 3 :=
  ⟨hm.keep ((((Keep.refl [] w).alloc _).alloc _).alloc _) (by simp) (by simp), three_fst w _ _ _, three_snd w _ _ _, three_thd w _ _ _, ((hk.alloc _).alloc _).alloc _, by simp⟩
theorem M_zero (a : Int) : List.replicate 20 0 = M a 0 := by
  unfold M wordPut
  split
  · apply List.ext_getElem
    · simp
    · intro i h1 h2; rw [List.getElem_set]; split <;> simp only [List.getElem_replicate]
  · rfl
set_option maxHeartbeats 4000000 in
set_option maxRecDepth 100000 in
theorem tableOld_walk (n i other times : Int) (hn : 0 ≤ n ∧ n ≤ 255) (hi : 0 ≤ i ∧ i ≤ 255) (ho : 0 ≤ other ∧ other ≤ 255) (ht : 0 ≤ times ∧ times ≤ 255) (w : World) :
    Calls Try.prog 3 #[.int .u8 n, .int .u8 i, .int .u8 other, .int .u8 times] w fun e w' => e = .returned (.bool true) ∧ Keep [] w w' := by
  go_enter Try.func3, Try.ntmps3
  go_wp2_with fail
  refine (awake10 _).mono ?_
  rintro e w0 ⟨rfl, hk0⟩
  have Hk0 := Lib.hid hk0
  clear hk0
  go_wp2_with fail
  have hk : 1 ≤ 1 + n % 8 ∧ 1 + n % 8 ≤ 8 := by omega
  generalize 1 + n % 8 = k at hk ⊢
  have hk0 : (k == 0) = false := by simp; omega
  go_quiet (fail)
  go_wp2_with fail
  refine (word_new 20 _ (by omega)).mono ?_
  rintro e w1 ⟨rfl, hm1, hk1, hs1⟩
  have hr : (List.replicate (min (max (20 : Int) 0) 4000).toNat (0 : Int)) = List.replicate 20 0 := by decide
  have ha : 0 ≤ i % k ∧ i % k < k := ⟨Int.emod_nonneg _ (by omega), Int.emod_lt_of_pos _ (by omega)⟩
  have hb : 0 ≤ other % k ∧ other % k < k := ⟨Int.emod_nonneg _ (by omega), Int.emod_lt_of_pos _ (by omega)⟩
  generalize i % k = a at ha ⊢
  generalize other % k = c at hb ⊢
  rw [hr, M_zero a] at hm1
  have hmw : w.heap.size ≤ (w0.drewN nq).heap.size + 1 := by have := Hk0.out.size; simp; omega
  have hbw : w.heap.size ≤ (w0.drewN nq).heap.size := by have := Hk0.out.size; simp; omega
  have hk1' : Keep [] w w1 := Hk0.out.trans ((Keep.ofDrewN [] w0 nq).trans hk1)
  generalize (w0.drewN nq).heap.size + 1 = m at *
  generalize (w0.drewN nq).heap.size = b at *
  have Hm1 := Lib.hid hm1; have Hk1 := Lib.hid hk1'
  clear hm1 hk1 hk1' hs1 hr
  go_wp2_with fail
  go_loopw [36] (fun q wr => ∃ t : Nat, q = .int .u8 t ∧ (t : Int) ≤ times ∧ MemRep 134 wr m b (M a t) ∧ Keep [] w wr) (fun q _ => times.toNat - (intOf q).toNat)
  case atStart => exact ⟨0, rfl, by omega, Hm1.out, Hk1.out⟩
  case round =>
    obtain ⟨t, rfl, h1, h2, h3⟩ := hrel
    have H2 := Lib.hid h2; have H3 := Lib.hid h3
    clear h2 h3
    by_cases hlt : (t : Int) < times
    · have Hs := Lib.hid (next_solo hk ha (t := t) (by omega))
      have HA := Lib.hid (after_alloc H2.out H3.out ⟨2, k, a, 0, 0, false⟩)
      simp only [Act.cells] at HA
      go_wp2_with fail
      refine (act_run (a := ⟨2, k, a, 0, 0, false⟩) HA.out.1 HA.out.2.1 (by simp) Hs.out.1 Hs.out.2.1 Hs.out.2.2).mono ?_
      rintro e w2 ⟨rfl, h4, h5, h6⟩
      have h7 : Keep [] w w2 := HA.out.2.2.1.transS h6 (T := []) (by simp) (by have := H3.out.size; simp; omega)
      have H4 := Lib.hid h4; have H7 := Lib.hid h7
      clear h4 h5 h6 h7 HA Hs
      go_wp2_with fail
      go_roundw
      case measure => simp [intOf]; omega
      case rel => exact ⟨t + 1, by simp, by simp; omega, by simpa using H4.out, H7.out⟩
    · have ht' : (t : Int) = times := by omega
      have ht9 : (t : Int) ≤ 255 := by omega
      subst ht'
      generalize hT : (t : Int) = T at *
      have hT0 : 0 ≤ T := by omega
      clear hT Hm1 Hk1
      have hpw := H3.out.size
      have HA := Lib.hid (after3 H2.out H3.out (.cells #[.int .u8 0, .int .i64 k, .int .i64 a, .int .i64 0, .int .i64 0, .bool false] 27) (.cells #[.int .u8 0, .int .i64 k, .int .i64 c, .int .i64 0, .int .i64 0, .bool false] 27) (.cells #[.int .u8 2, .int .i64 k, .int .i64 a, .int .i64 0, .int .i64 0, .bool false] 27))
      obtain ⟨g, hg⟩ : ∃ g, wordGet (M a T) (4 + c) = g := ⟨_, rfl⟩
      have hg2 : 0 ≤ g ∧ g ≤ 1000 := by
        by_cases e : a = c
        · subst e; rw [M_get (by omega)] at hg; omega
        · rw [M_get_ne e] at hg; omega
      have Hg := Lib.hid hg
      clear hg
      have S1 := Lib.hid (handle_solo (a := a) (t := T) hk ha (M_get (by omega)) (by omega))
      have S2 := Lib.hid (handle_solo hk hb Hg.out hg2)
      have S3 := Lib.hid (next_solo hk ha (t := T) (by omega))
      go_wp2_with fail
      generalize hwa : (((wr.alloc (.cells #[.int .u8 0, .int .i64 k, .int .i64 a, .int .i64 0, .int .i64 0, .bool false] 27)).alloc (.cells #[.int .u8 0, .int .i64 k, .int .i64 c, .int .i64 0, .int .i64 0, .bool false] 27)).alloc (.cells #[.int .u8 2, .int .i64 k, .int .i64 a, .int .i64 0, .int .i64 0, .bool false] 27)) = wa at HA ⊢
      clear hwa
      generalize wr.heap.size = p at *
      refine (act_run (a := ⟨0, k, a, 0, 0, false⟩) HA.out.1 HA.out.2.1 (by simp) S1.out.1 S1.out.2.1 S1.out.2.2).mono ?_
      rintro e w2 ⟨rfl, h4, h5, h6⟩
      have n1 := (ne_act HA.out.1 HA.out.2.1).2
      have n2 := (ne_act HA.out.1 HA.out.2.2.1).2
      have n3 := (ne_act HA.out.1 HA.out.2.2.2.1).2
      have H4 := Lib.hid h4
      have P2 := Lib.hid h5
      have Q2 := Lib.hid (h6.to HA.out.2.2.1 (by simp; omega))
      have R2 := Lib.hid (h6.to HA.out.2.2.2.1 (by simp; omega))
      have K2 : Hid (Keep [] w w2) := Lib.hid (HA.out.2.2.2.2.1.transS h6 (T := []) (by simp) (by simp; omega))
      clear h4 h5 h6
      go_wp2_with fail
      refine (act_run (a := ⟨0, k, c, 0, 0, false⟩) H4.out Q2.out (by simp) S2.out.1 S2.out.2.1 S2.out.2.2).mono ?_
      rintro e w3 ⟨rfl, h4, h5, h6⟩
      have H5 := Lib.hid h4
      have P3 := Lib.hid (h6.to P2.out (by simp; omega))
      have Q3 := Lib.hid h5
      have R3 := Lib.hid (h6.to R2.out (by simp; omega))
      have K3 : Hid (Keep [] w w3) := Lib.hid (K2.out.transS h6 (T := []) (by simp) (by simp; omega))
      clear h4 h5 h6
      go_wp2_with fail
      refine (act_run (a := ⟨2, k, a, 0, 0, false⟩) H5.out R3.out (by simp) S3.out.1 S3.out.2.1 S3.out.2.2).mono ?_
      rintro e w4 ⟨rfl, h4, h5, h6⟩
      have H6 := Lib.hid h4
      have P4 := Lib.hid (h6.to P3.out (by simp; omega))
      have Q4 := Lib.hid (h6.to Q3.out (by simp; omega))
      have K4 : Hid (Keep [] w w4) := Lib.hid (K3.out.transS h6 (T := []) (by simp) (by simp; omega))
      have cp : w4.cell? ⟨p, 4, none⟩ = some (.int .i64 (T * 256 + a)) := cell_of P4.out rfl
      have cq : w4.cell? ⟨p + 1, 4, none⟩ = some (.int .i64 (g * 256 + c)) := cell_of Q4.out rfl
      clear h4 h5 h6
      clear HA S1 S2 S3 P2 Q2 R2 K2 H4 H5 P3 Q3 R3 K3 H3 H2
      have hwr : IntKind.i64.wrap (T * 256 + a + 256) = T * 256 + a + 256 := by simp [IntKind.wrap, IntKind.signed, IntKind.bits]; omega
      go_upto_region 15 with fail
      go_cut [17, 18, 19] (fun s17 s18 s19 wc => ∃ x y z : Nat, s17 = .pointer (some ⟨x, 0, none⟩) ∧ s18 = .pointer (some ⟨y, 0, none⟩) ∧ s19 = .pointer (some ⟨z, 0, none⟩) ∧ MemRep 134 wc m b (M a (T + 1)) ∧ Keep [] w wc ∧
        w.heap.size ≤ x ∧ w.heap.size ≤ y ∧ w.heap.size ≤ z ∧ x ≠ y ∧ x ≠ z ∧ y ≠ z ∧
        wc.heap[x]? = some (.cells (Act.cells ⟨1, k, 0, T * 256 + a, 0, false⟩) 27 (0, 0)) ∧ wc.heap[y]? = some (.cells (Act.cells ⟨1, k, 0, T * 256 + a + 256, 0, false⟩) 27 (0, 0)) ∧ wc.heap[z]? = some (.cells (Act.cells ⟨1, k, 0, g * 256 + c, 0, false⟩) 27 (0, 0)))
      case first =>
        go_region_held3 (fun w' => w'.cell? ⟨p, 4, none⟩ = some (.int .i64 (T * 256 + a)) ∧ w'.cell? ⟨p + 1, 4, none⟩ = some (.int .i64 (g * 256 + c))) (first | exact ⟨cell_of (Keep.to (S := []) kp P4.out (by simp)) rfl, cell_of (Keep.to (S := []) kp Q4.out (by simp)) rfl⟩) (fail)
        all_goals
          go_wp2_with fail
          go_meet
          have hps := K4.out.size
          refine ⟨_, _, _, rfl, rfl, rfl, H6.out.keep (S := []) kp (by simp) (by simp), K4.out.trans kp, by omega, by omega, by omega, by omega, by omega, by omega, ?_, ?_, ?_⟩
          all_goals first | exact three_fst w4 _ _ _ | exact three_snd w4 _ _ _ | exact three_thd w4 _ _ _
      case rest =>
        obtain ⟨x, y, z, rfl, rfl, rfl, hm, hk, lx, ly, lz, nxy, nxz, nyz, bx, bY, bz⟩ := hcut
        have HM := Lib.hid hm; have HK := Lib.hid hk
        have BX := Lib.hid bx; have BY := Lib.hid bY; have BZ := Lib.hid bz
        clear hm hk bx bY bz
        have mx := (ne_act HM.out BX.out).2
        have my := (ne_act HM.out BY.out).2
        have mz := (ne_act HM.out BZ.out).2
        have gnew : wordGet (M a (T + 1)) (4 + a) = T + 1 := M_get (by omega)
        have C1 := Lib.hid (check_solo (a := a) (t := T + 1) (g := T) (h := T * 256 + a) hk ha (by omega) rfl)
        have C2 := Lib.hid (check_solo (a := a) (t := T + 1) (g := T + 1) (h := T * 256 + a + 256) hk ha (by omega) (by omega))
        have C3 := Lib.hid (check_solo (a := a) (t := T + 1) (g := g) (h := g * 256 + c) hk hb (by omega) rfl)
        have d1 : decide (wordGet (M a (T + 1)) (4 + a) = T) = false := decide_eq_false (by rw [gnew]; omega)
        have d2 : decide (wordGet (M a (T + 1)) (4 + a) = T + 1) = true := decide_eq_true gnew
        have e2 : (if wordGet (M a (T + 1)) (4 + a) = T + 1 then a else 0) = a := if_pos gnew
        have d3 : decide (wordGet (M a (T + 1)) (4 + c) = g) = !(a == c) := by
          by_cases e : a = c
          · have hg := Hg.out
            subst e
            rw [M_get (by omega)] at hg
            rw [gnew]
            simp; omega
          · have hg := Hg.out
            rw [M_get_ne e] at hg
            rw [M_get_ne e]
            have e2 : (a == c) = false := by simpa using e
            rw [e2]
            exact decide_eq_true hg
        have D1 := Lib.hid d1; have D2 := Lib.hid d2; have D3 := Lib.hid d3; have E2 := Lib.hid e2
        clear d1 d2 d3 e2 gnew
        go_wp2_with fail
        refine (act_run (a := ⟨1, k, 0, T * 256 + a, 0, false⟩) HM.out BX.out (by dsimp only; omega) C1.out.1 C1.out.2.1 C1.out.2.2).mono ?_
        rintro e w5 ⟨rfl, h4, h5, h6⟩
        have HM1 := Lib.hid h4
        have BX1 := Lib.hid h5
        have BY1 := Lib.hid (h6.to BY.out (by simp; omega))
        have BZ1 := Lib.hid (h6.to BZ.out (by simp; omega))
        have HK1 : Hid (Keep [] w w5) := Lib.hid (HK.out.transS h6 (T := []) (by simp) (by simp; omega))
        clear h4 h5 h6
        go_wp2_with fail
        refine (act_run (a := ⟨1, k, 0, T * 256 + a + 256, 0, false⟩) HM1.out BY1.out (by dsimp only; omega) C2.out.1 C2.out.2.1 C2.out.2.2).mono ?_
        rintro e w6 ⟨rfl, h4, h5, h6⟩
        have HM2 := Lib.hid h4
        have BX2 := Lib.hid (h6.to BX1.out (by simp; omega))
        have BY2 := Lib.hid h5
        have BZ2 := Lib.hid (h6.to BZ1.out (by simp; omega))
        have HK2 : Hid (Keep [] w w6) := Lib.hid (HK1.out.transS h6 (T := []) (by simp) (by simp; omega))
        clear h4 h5 h6
        go_wp2_with fail
        refine (act_run (a := ⟨1, k, 0, g * 256 + c, 0, false⟩) HM2.out BZ2.out (by dsimp only; omega) C3.out.1 C3.out.2.1 C3.out.2.2).mono ?_
        rintro e w7 ⟨rfl, h4, h5, h6⟩
        have BX3 := h6.to BX2.out (by simp; omega)
        have BY3 := h6.to BY2.out (by simp; omega)
        rw [D1.out] at BX3
        rw [D2.out, E2.out] at BY3
        rw [D3.out] at h5
        have c1 : w7.cell? ⟨x, 5, none⟩ = some (.bool false) := cell_of BX3 rfl
        have c2 : w7.cell? ⟨y, 5, none⟩ = some (.bool true) := cell_of BY3 rfl
        have c3 : w7.cell? ⟨y, 4, none⟩ = some (.int .i64 a) := cell_of BY3 rfl
        have c4 : w7.cell? ⟨z, 5, none⟩ = some (.bool (!(a == c))) := cell_of h5 rfl
        have HK3 : Hid (Keep [] w w7) := Lib.hid (HK2.out.transS h6 (T := []) (by simp) (by simp; omega))
        clear h4 h5 h6 BX3 BY3
        go_wp2_with fail
        go_ret
        have hfin : ((!(a == c)) == (a != c)) = true := by unfold bne; cases (a == c) <;> rfl
        exact ⟨by rw [hfin]; rfl, HK3.out⟩
end Law10
end Go.Proofs.Ytkmamebaichboaa
