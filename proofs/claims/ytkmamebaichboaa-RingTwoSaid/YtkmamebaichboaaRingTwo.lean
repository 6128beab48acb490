/- Law 8: RingTwo walked. No conditions but those stated. -/
import Derived.Test.YtkmamebaichboaaRingTwo4
import Derived.Test.YtkmamebaichboaaIntRow
import Derived.Deep.DeepCutAuto
namespace Go.Proofs.Ytkmamebaichboaa
open Go.ChangeShapes Go.WideShapes Go.ChangeAt Go.RowKit
set_option linter.unusedVariables false
set_option linter.unusedSimpArgs false
namespace Law08
open Prog
theorem WQ.ints {w : World} {base n cap : Nat} {ao : Option Addr} {ws : List Int} (h : WQ w base (.slice ao n cap) ws) : IntsAt w ao ws := by
  rcases h with ⟨_, rfl⟩ | ⟨g, o, cap', e, _, _, _, _, _, hx⟩
  · exact IntsAt.nil _ _
  · cases e
    intro i hi
    refine ⟨g, o, rfl, hx i _ ?_⟩
    rw [List.getElem?_map, List.getElem?_eq_getElem hi]
    simp [nth, hi]
set_option maxHeartbeats 8000000 in
set_option maxRecDepth 100000 in
theorem ringTwo_walk {w : World} {vw vt : Value} {ws ts : List Int} (hw : IntRow .i64 w vw ws) (ht : IntRow .u8 w vt ts) (size : Int) (hs : 0 ≤ size ∧ size ≤ 255) :
    Calls Try.prog 9 #[.int .u8 size, vw, vt] w fun e w' => e = .returned (.bool true) ∧ Keep [] w w' := by
  obtain ⟨ao, wcap, rfl, hwl, hwm, hwc⟩ := hw
  obtain ⟨ta, tc, rfl, htl, htm, htc⟩ := ht
  unfold maxLen at htm hwm
  have HTC := Lib.hid htc
  have HWC := Lib.hid hwc
  clear htc hwc
  obtain ⟨i0, hi0, hz0, hz1, hz2⟩ := info_parts info64
  go_enter Try.func9, Try.ntmps9
  go_wp2_with fail
  refine (awake08 _).mono ?_
  rintro _ w0 ⟨rfl, hk0⟩
  have K0 := Lib.hid hk0
  clear hk0
  by_cases hsm : ws.length ≤ 40 ∧ ts.length ≤ 400
  rotate_left
  · have hcase : (40 : Int) < (ws.length : Int) ∨ ((ws.length : Int) ≤ 40 ∧ (400 : Int) < (ts.length : Int)) := by omega
    clear hsm
    rcases hcase with hc1 | ⟨hc1, hc2⟩
    all_goals
      go_wp2_with fail
      refine (awake08 _).mono ?_
      rintro _ w1 ⟨rfl, hk1⟩
      have K1 := Lib.hid (K0.out.trans hk1)
      clear hk1
      go_wp2_with fail
      go_ret
      exact ⟨rfl, K1.out⟩
  · obtain ⟨hw40, ht400⟩ := hsm
    have hdw : decide ((40 : Int) < (ws.length : Int)) = false := by simp; omega
    have hdt : decide ((400 : Int) < (ts.length : Int)) = false := by simp; omega
    have hbw := K0.out.size
    go_wp2_with fail
    have hc : 1 ≤ 1 + size % 16 ∧ 1 + size % 16 ≤ 16 := by omega
    generalize 1 + size % 16 = c at hc ⊢
    with_reducible refine (word_new 30 _ (by omega)).mono ?_
    rintro e w1 ⟨rfl, hm1, hk1, hs1⟩
    have hr : (List.replicate (min (max (30 : Int) 0) 4000).toNat (0 : Int)) = List.replicate 30 0 := by decide
    rw [hr] at hm1
    have hsz1 : w0.heap.size + 2 ≤ w1.heap.size := by omega
    have M1 := Lib.hid hm1
    have K1 := Lib.hid (K0.out.trans hk1)
    clear hm1 hk1 hs1 hr
    go_wp2_with fail
    with_reducible refine (frame_new M1.out).mono ?_
    rintro e w2 ⟨rfl, hf2, hk2, hs2⟩
    have hsz2 : w1.heap.size + 1 ≤ w2.heap.size := by omega
    have F2 := Lib.hid hf2
    have K2 := Lib.hid hk2
    clear hf2 hk2 hs2
    go_upto_region 6 with fail
    have KA := Lib.hid ((Keep.refl [] w2).alloc (.cells #[.int .u8 0, .int .i64 c, .int .i64 0, .int .i64 0, .bool false, .int .i64 0] 65))
    have XA := Lib.hid (one_new w2 (.cells #[.int .u8 0, .int .i64 c, .int .i64 0, .int .i64 0, .bool false, .int .i64 0] 65))
    have hsA : w2.heap.size + 1 ≤ (w2.alloc (.cells #[.int .u8 0, .int .i64 c, .int .i64 0, .int .i64 0, .bool false, .int .i64 0] 65)).heap.size := by simp
    generalize w2.alloc (.cells #[.int .u8 0, .int .i64 c, .int .i64 0, .int .i64 0, .bool false, .int .i64 0] 65) = wA at KA XA hsA ⊢
    go_wp2_with fail
    with_reducible refine (frame_new ((M1.out.keep K2.out (by simp) (by simp)).keep KA.out (by simp) (by simp))).mono ?_
    rintro e w4 ⟨rfl, hf4, hk4, hs4⟩
    have hsz4 : wA.heap.size + 1 ≤ w4.heap.size := by omega
    have F4 := Lib.hid hf4
    have K4 := Lib.hid hk4
    clear hf4 hk4 hs4
    go_upto_region 7 with fail
    have D0 : Hid (At8 w (w4.alloc (.cells #[.int .u8 1, .int .i64 c, .int .i64 0, .int .i64 0, .bool false, .int .i64 0] 65)) w0.heap.size c ws 0 0 w1.heap.size w2.heap.size wA.heap.size w4.heap.size ⟨0, c, 0, 0, false, 0⟩ ⟨1, c, 0, 0, false, 0⟩ (St.new (List.replicate 30 0)) (St.new (List.replicate 30 0)) (.slice none 0 0) (.slice none 0 0) (List.replicate 30 0) (.slice none 0 0)) := Lib.hid (by
      have kb := (Keep.refl [] w4).alloc (.cells #[.int .u8 1, .int .i64 c, .int .i64 0, .int .i64 0, .bool false, .int .i64 0] 65)
      have k24 := (KA.out.trans K4.out).trans kb
      have b1 := lt_of_block M1.out.head
      have b2 := lt_of_block M1.out.body
      refine ⟨⟨⟨F2.out.keep k24 (by simp) (by simp) (by simp) (by simp), (K4.out.trans kb).to XA.out (by simp), ⟨by omega, by omega, by omega, by simp [blk, Value.ownBlock], by simp, by simp, by simp, by simp, by simp⟩⟩, ⟨F4.out.keep kb (by simp) (by simp) (by simp) (by simp), heap_alloc_new w4 _, ⟨by omega, by omega, by omega, by simp [blk, Value.ownBlock], by simp, by simp, by simp, by simp, by simp⟩⟩, rfl, rfl, fun z hz hm => ?_, fun z hz => ?_, by omega, ((K1.out.trans K2.out).trans k24)⟩, Two.start c ws (by omega), rfl, rfl, ⟨rfl, rfl⟩, ⟨rfl, rfl⟩, WQ.nil, by simp [Off, Value.ownBlock], by simp [Off, Value.ownBlock]⟩
      · simp [own, blk, Value.ownBlock] at hz hm
        omega
      · simp [own, blk, Value.ownBlock] at hz
        omega)
    generalize w4.alloc (.cells #[.int .u8 1, .int .i64 c, .int .i64 0, .int .i64 0, .bool false, .int .i64 0] 65) = w5 at D0 ⊢
    generalize hbE : w0.heap.size = b at *
    clear hbE M1 F2 F4 K2 K4 KA XA hsA
    go_wp2_with fail
    go_loopw [9, 10, 11, 12, 13, 14, 46] (fun s9 s10 s11 s12 s13 s14 c_ wr => ∃ (n T G fP xP fG xG : Nat) (aP aG : Act) (sP sG : St) (slP slG : Value) (lm : List Int), s9 = .pointer (some ⟨fP, 0, none⟩) ∧ s10 = .pointer (some ⟨xP, 0, none⟩) ∧ s11 = .pointer (some ⟨fG, 0, none⟩) ∧ s12 = .pointer (some ⟨xG, 0, none⟩) ∧ s13 = .int .i64 T ∧ c_ = .int .i64 n ∧ n ≤ ts.length ∧ At8 w wr b c ws T G fP xP fG xG aP aG sP sG slP slG lm s14) (fun _ _ _ _ _ _ c_ _ => ts.length - (intOf c_).toNat)
    case atStart => exact ⟨0, 0, 0, _, _, _, _, _, _, _, _, _, _, _, rfl, rfl, rfl, rfl, rfl, rfl, Nat.zero_le _, D0.out⟩
    case round =>
      obtain ⟨n, T, G, fP, xP, fG, xG, aP, aG, sP, sG, slP, slG, lm, rfl, rfl, rfl, rfl, rfl, rfl, hn, ha⟩ := hrel
      have hTl := ha.two.all
      have hGT := ha.two.le
      have hmo := ha.two.most
      obtain ⟨ga, gc, rfl, hgc⟩ := ha.wq.form
      have hGl : (ws.take G).length = G := by rw [List.length_take]; omega
      rw [hGl] at ha ⊢
      have HA := Lib.hid ha
      have HGL := Lib.hid hGl
      have hb2 : b + 2 ≤ wr.heap.size := by have := lt_of_block ha.duo.p.fr.mem.head; omega
      rw [hGl] at hgc
      clear ha hGl
      by_cases hnl : n < ts.length
      · have hnl' : (n : Int) < ts.length := by omega
        have hn0' : (0 : Int) ≤ (n : Int) := by omega
        obtain ⟨x, hx⟩ : ∃ x, ts[n]? = some x := ⟨_, List.getElem?_eq_getElem hnl⟩
        obtain ⟨⟨tb, tof, rfl, _, htc⟩, hwf⟩ := HTC.out n x hx
        have hx8 := bounds_u8 hwf
        have hcell := cell_kept HA.out.duo.keep htc (by simp)
        clear htc hx hwf
        have hpar : x % 2 = 0 ∨ x % 2 = 1 := by omega
        rcases hpar with hpar | hpar
        · by_cases hTe : T = ws.length
          · have he1 : ((T : Int) == (ws.length : Int)) = true := by simp; omega
            go_wp2_with fail
            go_roundw
            case rel => exact ⟨n + 1, T, G, _, _, _, _, _, _, _, _, _, _, _, rfl, rfl, rfl, rfl, rfl, by go_num, by omega, HA.out⟩
            case measure => simp [intOf]; omega
          · have hTlt : T < ws.length := by omega
            have hTlt' : (T : Int) < (ws.length : Int) := by omega
            have hT0' : (0 : Int) ≤ (T : Int) := by omega
            have he1 : ((T : Int) == (ws.length : Int)) = false := by simp; omega
            obtain ⟨v, hv⟩ : ∃ v, ws[T]? = some v := ⟨_, List.getElem?_eq_getElem hTlt⟩
            obtain ⟨⟨wb, wof, rfl, _, hwc⟩, _⟩ := HWC.out T v hv
            have hcw := cell_kept HA.out.duo.keep hwc (by simp)
            have p2 := cell_of (i := 2) HA.out.duo.p.ac rfl
            have z2 := free_of (i := 2) HA.out.duo.p.ac
            have HP := Lib.hid (HA.out.put hc hw40 hv (n : Int))
            clear hwc hv
            go_wp2_with fail
            with_reducible refine HP.out.mono ?_
            rintro _ w6 ⟨a', s', sl', lm', hd, hwq, ho, hk1, hk2, hres⟩
            have HD := Lib.hid hd; have HW := Lib.hid hwq; have HO := Lib.hid ho; have HK := Lib.hid (And.intro hk1 hk2)
            have M6 : Hid (MemRep 134 w6 (b + 1) b lm') := Lib.hid (hd.mp ▸ hd.p.fr.mem)
            have hac := hd.p.ac
            clear hd hwq ho hk1 hk2 p2 z2 hcw hcell HP
            rcases hres with ⟨rfl, hov, htw⟩ | ⟨rfl, hok, htw⟩ | ⟨rfl, hok, htw⟩
            · have HT := Lib.hid (And.intro hov htw)
              clear hov htw hac
              go_wp2_with fail
              go_roundw
              case rel => exact ⟨n + 1, T, G, _, _, _, _, _, _, _, _, _, _, _, rfl, rfl, rfl, rfl, rfl, by go_num, by omega, ⟨HD.out, HT.out.2, HT.out.1, HA.out.ovG, HK.out, HA.out.kG, HW.out, HO.out, HA.out.offG⟩⟩
              case measure => simp [intOf]; omega
            · have HT := Lib.hid htw
              have p4 : w6.cell? ⟨xP, 4, none⟩ = some (.bool false) := by have := cell_of (i := 4) (v := .bool a'.ok) hac rfl; rw [hok] at this; exact this
              clear htw hac hok
              go_wp2_with fail
              with_reducible refine (frame_new M6.out).mono ?_
              rintro _ w7 ⟨rfl, hf7, hk7, hs7⟩
              have hs7' : w6.heap.size + 1 ≤ w7.heap.size := by omega
              have A7 := Lib.hid (show At8 w (w7.alloc (.cells (Act.cells ⟨0, c, 0, 0, false, 0⟩) 65)) b c ws T G w6.heap.size w7.heap.size fG xG ⟨0, c, 0, 0, false, 0⟩ aG (St.new lm') { sG with mem := lm' } (.slice none 0 0) slG lm' (.slice ga G gc) from ⟨HD.out.renew (a' := ⟨0, c, 0, 0, false, 0⟩) hk7 hf7 (Nat.le_refl _), HT.out, rfl, HA.out.ovG, ⟨rfl, rfl⟩, HA.out.kG, HW.out.keep (hk7.trans ((Keep.refl [] w7).alloc _)) (by simp), Off.new HW.out (Nat.le_refl _) (by omega), HA.out.offG⟩)
              clear hf7 hk7 hs7
              go_wp2_with fail
              go_roundw
              case rel => exact ⟨n + 1, T, G, _, _, _, _, _, _, _, _, _, _, _, rfl, rfl, rfl, rfl, by go_num, by go_num, by omega, A7.out⟩
              case measure => simp [intOf]; omega
            · have HT := Lib.hid htw
              have p4 : w6.cell? ⟨xP, 4, none⟩ = some (.bool true) := by have := cell_of (i := 4) (v := .bool a'.ok) hac rfl; rw [hok] at this; exact this
              clear htw hac hok
              go_wp2_with fail
              with_reducible refine (frame_new M6.out).mono ?_
              rintro _ w7 ⟨rfl, hf7, hk7, hs7⟩
              have hs7' : w6.heap.size + 1 ≤ w7.heap.size := by omega
              have A7 := Lib.hid (show At8 w (w7.alloc (.cells (Act.cells ⟨0, c, 0, 0, false, 0⟩) 65)) b c ws (T + 1) G w6.heap.size w7.heap.size fG xG ⟨0, c, 0, 0, false, 0⟩ aG (St.new lm') { sG with mem := lm' } (.slice none 0 0) slG lm' (.slice ga G gc) from ⟨HD.out.renew (a' := ⟨0, c, 0, 0, false, 0⟩) hk7 hf7 (Nat.le_refl _), HT.out, rfl, HA.out.ovG, ⟨rfl, rfl⟩, HA.out.kG, HW.out.keep (hk7.trans ((Keep.refl [] w7).alloc _)) (by simp), Off.new HW.out (Nat.le_refl _) (by omega), HA.out.offG⟩)
              clear hf7 hk7 hs7
              go_wp2_with fail
              go_roundw
              case rel => exact ⟨n + 1, (T + 1), G, _, _, _, _, _, _, _, _, _, _, _, rfl, rfl, rfl, rfl, by go_num, by go_num, by omega, A7.out⟩
              case measure => simp [intOf]; omega
        · have hpar0 : (x % 2 == 0) = false := by rw [hpar]; rfl
          have HP := Lib.hid (HA.out.get hc hw40 (n : Int))
          go_wp2_with fail
          with_reducible refine HP.out.mono ?_
          rintro _ w6 ⟨a', s', sl', lm', hd, hwq, ho, hk1, hk2, hres⟩
          have HD := Lib.hid hd; have HW := Lib.hid hwq; have HO := Lib.hid ho; have HK := Lib.hid (And.intro hk1 hk2)
          have M6 : Hid (MemRep 134 w6 (b + 1) b lm') := Lib.hid (hd.mp ▸ hd.p.fr.mem)
          have hac := hd.g.ac
          clear hd hwq ho hk1 hk2 hcell HP
          rcases hres with ⟨rfl, hov, htw⟩ | ⟨rfl, hok, htw⟩ | ⟨rfl, hok, hgot, htw⟩
          · have HT := Lib.hid (And.intro hov htw)
            clear hov htw hac
            go_wp2_with fail
            go_roundw
            case rel => exact ⟨n + 1, T, G, _, _, _, _, _, _, _, _, _, _, _, rfl, rfl, rfl, rfl, rfl, by go_num, by omega, ⟨HD.out, HT.out.2, HA.out.ovP, HT.out.1, HA.out.kP, HK.out, HW.out, HA.out.offP, HO.out⟩⟩
            case measure => simp [intOf]; omega
          · have HT := Lib.hid htw
            have p4 : w6.cell? ⟨xG, 4, none⟩ = some (.bool false) := by have := cell_of (i := 4) (v := .bool a'.ok) hac rfl; rw [hok] at this; exact this
            clear htw hac hok
            go_wp2_with fail
            with_reducible refine (frame_new M6.out).mono ?_
            rintro _ w7 ⟨rfl, hf7, hk7, hs7⟩
            have hs7' : w6.heap.size + 1 ≤ w7.heap.size := by omega
            have A7 := Lib.hid (show At8 w (w7.alloc (.cells (Act.cells ⟨1, c, 0, 0, false, 0⟩) 65)) b c ws T G fP xP w6.heap.size w7.heap.size aP ⟨1, c, 0, 0, false, 0⟩ { sP with mem := lm' } (St.new lm') slP (.slice none 0 0) lm' (.slice ga G gc) from ⟨(HD.out.swap.renew (a' := ⟨1, c, 0, 0, false, 0⟩) hk7 hf7 (Nat.le_refl _)).swap, HT.out, HA.out.ovP, rfl, HA.out.kP, ⟨rfl, rfl⟩, HW.out.keep (hk7.trans ((Keep.refl [] w7).alloc _)) (by simp), HA.out.offP, Off.new HW.out (Nat.le_refl _) (by omega)⟩)
            clear hf7 hk7 hs7
            go_wp2_with fail
            go_roundw
            case rel => exact ⟨n + 1, T, G, _, _, _, _, _, _, _, _, _, _, _, rfl, rfl, rfl, rfl, rfl, by go_num, by omega, A7.out⟩
            case measure => simp [intOf]; omega
          · have HT := Lib.hid htw
            have HGT := Lib.hid hgot
            have p4 : w6.cell? ⟨xG, 4, none⟩ = some (.bool true) := by have := cell_of (i := 4) (v := .bool a'.ok) hac rfl; rw [hok] at this; exact this
            have p3 : w6.cell? ⟨xG, 3, none⟩ = some (.int .i64 a'.got) := cell_of (i := 3) hac rfl
            have W6 := Lib.hid (HW.out.keep ((Keep.refl [] w6).alloc (.cells #[.int .i64 a'.got] 2)) (by simp))
            have hsz6 : b + 2 ≤ w6.heap.size := by have := lt_of_block M6.out.head; omega
            clear htw hac hok hgot
            go_wp2_with (at_builtin; refine wpList_append_wq2 rfl _ _ rfl i0 hi0 hz0 hz1 hz2 rfl W6.out ⟨w6.heap.size, 0, none⟩ 1 a'.got (by first | rfl | simp [Go.Act.eval, Go.Act.put]) (World.news_of_block (cs := #[.int .i64 a'.got]) (t := 2) (fr := (0, 0)) (heap_alloc_new w6 _)) (by rw [HGL.out]; omega) (by simp; omega) ?_; intro ao5 cap5 w7 S5 hq5 hk5 hs5 hn5; rw [HGL.out] at hq5 hn5 ⊢)
            have k5 : Keep S5 w6 w7 := ((Keep.refl [] w6).alloc (.cells #[.int .i64 a'.got] 2)).transS hk5 (T := S5) (by simp) (fun y hy _ => hy)
            have hS5 : ∀ z ∈ S5, z ∉ own fP xP slP ∧ z ∉ own fG xG sl' ∧ z ≠ b + 1 ∧ z ≠ b ∧ w.heap.size ≤ z := fun z hz => by
              have h1 := HW.out.low z (hs5 z hz)
              exact ⟨HA.out.offP z (hs5 z hz), HO.out z (hs5 z hz), by omega, by omega, by omega⟩
            have D7 := Lib.hid (HD.out.keptS k5 hS5)
            have e1 : ws.take G ++ [a'.got] = ws.take (G + 1) := by rw [List.take_add_one, HGT.out]; rfl
            rw [e1] at hq5
            have Q7 := Lib.hid hq5
            have OP7 : Hid (Off (.slice ao5 (G + 1) cap5) (own fP xP slP)) := Lib.hid (fun g hg hm => by
              rcases hn5 g hg with h1 | h1
              · exact HA.out.offP g h1 hm
              · have := HD.out.lt g (.inl hm); simp at h1; omega)
            have M7 : Hid (MemRep 134 w7 (b + 1) b lm') := Lib.hid (D7.out.mg ▸ D7.out.g.fr.mem)
            clear hq5 hk5 hs5 hn5 k5 hS5 e1 p3 p4
            go_wp2_with fail
            with_reducible refine (frame_new M7.out).mono ?_
            rintro _ w8 ⟨rfl, hf8, hk8, hs8⟩
            have hs8' : w7.heap.size + 1 ≤ w8.heap.size := by omega
            have A8 := Lib.hid (show At8 w (w8.alloc (.cells (Act.cells ⟨1, c, 0, 0, false, 0⟩) 65)) b c ws T (G + 1) fP xP w7.heap.size w8.heap.size aP ⟨1, c, 0, 0, false, 0⟩ { sP with mem := lm' } (St.new lm') slP (.slice none 0 0) lm' (.slice ao5 (G + 1) cap5) from ⟨(D7.out.swap.renew (a' := ⟨1, c, 0, 0, false, 0⟩) hk8 hf8 (Nat.le_refl _)).swap, HT.out, HA.out.ovP, rfl, HA.out.kP, ⟨rfl, rfl⟩, Q7.out.keep (hk8.trans ((Keep.refl [] w8).alloc _)) (by simp), OP7.out, Off.new Q7.out (Nat.le_refl _) (by omega)⟩)
            clear hf8 hk8 hs8
            go_wp2_with fail
            go_roundw
            case rel => exact ⟨n + 1, T, G + 1, _, _, _, _, _, _, _, _, _, _, _, rfl, rfl, rfl, rfl, rfl, by go_num, by omega, A8.out⟩
            case measure => simp [intOf]; omega
      · have hG0 : (0 : Int) ≤ (G : Int) := by omega
        have hG1 : (G : Int) ≤ (wcap : Int) := by omega
        have IG := Lib.hid (WQ.ints HA.out.wq)
        have IW : Hid (IntsAt wr ao (ws.take G)) := Lib.hid (fun i hi => by
          have hi2 : i < G := by have := HGL.out; omega
          obtain ⟨⟨wb, wof, e, _, hwc⟩, _⟩ := HWC.out i _ (List.getElem?_eq_getElem (show i < ws.length by omega))
          refine ⟨wb, wof, e, ?_⟩
          rw [cell_kept HA.out.duo.keep hwc (by simp)]
          simp [nth, hi2, show i < ws.length by omega])
        go_wp2_with fail
        all_goals
          with_reducible refine (ref_words ga ao G G _ _ (ws.take G) (ws.take G) IG.out IW.out HGL.out HGL.out (by omega) (by omega)).mono ?_
          rintro _ w7 ⟨rfl, nq, rfl⟩
          rw [decide_eq_true (rfl : ws.take G = ws.take G)]
          go_wp2_with fail
          go_ret
          exact ⟨rfl, HA.out.duo.keep.drewN _⟩
end Law08
end Go.Proofs.Ytkmamebaichboaa
