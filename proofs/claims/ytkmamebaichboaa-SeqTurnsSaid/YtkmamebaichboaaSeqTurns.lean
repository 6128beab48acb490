/- Law 4: SeqTurns walked. No conditions but those stated. -/
import Derived.Test.YtkmamebaichboaaSeqTurns7
import Derived.Test.YtkmamebaichboaaSeq7
import Derived.Test.YtkmamebaichboaaIntRow
import Derived.Deep.RegionHeld3
import Derived.Deep.DeepCutAuto
namespace Go.Proofs.Ytkmamebaichboaa
open Go.ChangeShapes Go.WideShapes Go.ChangeAt Go.RowKit
set_option linter.unusedVariables false
set_option linter.unusedSimpArgs false
namespace SeqL
open Prog
theorem wq_ints {w : World} {base n cap : Nat} {ao : Option Addr} {ws : List Int} (h : Law08.WQ w base (.slice ao n cap) ws) : IntsAt w ao ws := by
  rcases h with ⟨_, rfl⟩ | ⟨g, o, cap', e, _, _, _, _, _, hx⟩
  · exact IntsAt.nil _ _
  · cases e
    intro i hi
    refine ⟨g, o, rfl, hx i _ ?_⟩
    rw [List.getElem?_map, List.getElem?_eq_getElem hi]
    simp [nth, hi]
theorem wq_blk {w : World} {base n cap : Nat} {ao : Option Addr} {ws : List Int} (h : Law08.WQ w base (.slice ao n cap) ws) : ∀ z ∈ roI ao, base ≤ z ∧ z < w.heap.size := by
  intro z hz
  cases ao with
  | none => simp [roI] at hz
  | some a => simp [roI] at hz; exact h.low z (by simp [Value.ownBlock, hz])
theorem seq_own {w : World} {v : Value} {n : Nat} {lv : List Int} (h : w.ownsRow 0 2 1 v n (lv.map (Value.int .i64))) (hn : lv.length = n) : ∃ ao cap, v = .slice ao n cap ∧ IntsAt w ao lv := by
  rcases h.2 with ⟨rfl, h0⟩ | ⟨g, cap, cur, rfl, _, hh, _, _, _, ht⟩
  · have : lv = [] := List.eq_nil_of_length_eq_zero (by omega)
    subst this
    subst h0
    exact ⟨none, 0, rfl, IntsAt.nil _ _⟩
  · exact ⟨_, cap, rfl, OwnRow.intsAt (e := 2) ⟨cur, hh, by rw [List.length_map, hn]; simpa using ht⟩⟩
theorem sq_ints {w w' : World} {a : Option Addr} {l : List Int} (h : IntsAt w a l) (k : Keep [] w w') : IntsAt w' a l := ints_keep h k (by simp)
theorem alloc_at {w : World} {o : Obj} {i : Nat} (h : i = w.heap.size) : (w.alloc o).heap[i]? = some o := by subst h; exact heap_alloc_new w o
theorem ver_head (a : Nat) : ver a 0 = (a : Int) := by unfold ver; split <;> omega
theorem At4.readD {w0 w : World} {m b n V j N : Nat} {L : Nat → Nat} {D : Nat → One} {lm : List Int} {gf gr gl : Nat} (h : At4 3 w0 w m b n V j N L D lm [gf, gr, gl]) (ha : Arr4 gf gr gl D L w) (hn : 1 ≤ n ∧ n ≤ 6) (hN : N + 1 ≤ 400) {i : Nat} (hi : i < 2) (hp : RPh n (L i) (cntOf V j) (D i).s.log.length ((readP 0 n).feed (ans (D i).s))) (now : Int) :
    Calls Try.prog 29 #[.pointer (some ⟨(D i).f, 0, none⟩), .int .i64 now, .func (.func 50) #[.pointer (some ⟨(D i).x, 0, none⟩)] #[]] w fun e w' =>
      ∃ d, e = .returned (.bool d) ∧ ∃ D' lm', (∀ k, (D' k).f = (D k).f ∧ (D' k).x = (D k).x) ∧ Arr4 gf gr gl D' L w' ∧ (w'.cell? ⟨gf, i, none⟩ = some (.pointer (some ⟨(D i).f, 0, none⟩)) ∧ w'.cell? ⟨gr, i, none⟩ = some (.pointer (some ⟨(D i).x, 0, none⟩))) ∧
        ((d = false ∧ At4 3 w0 w' m b n V j (N + 1) L D' lm' [gf, gr, gl]) ∨ (d = true ∧ At4 i w0 w' m b n V j (N + 1) L D' lm' [gf, gr, gl] ∧ ∃ a ao cap, L i ≤ a ∧ a ≤ V ∧ w'.heap[(D i).x]? = some (.cells #[.int .i64 0, .int .i64 n, .slice ao n cap] 92 (0, 0)) ∧ IntsAt w' ao (vers a n))) := by
  refine (h.read hn hN hi hp now).mono ?_
  rintro e w' ⟨D', lm', h1, h2, h3⟩
  have hA := ha.step h1 h2
  have hc := hA.cells hi
  rw [(h1 i).1, (h1 i).2] at hc
  rcases h3 with ⟨he, h4⟩ | ⟨he, h4, a, v, h5, h6, h7, h8⟩
  · exact ⟨false, he, D', lm', h1, hA, ⟨hc.1, hc.2.1⟩, .inl ⟨rfl, h4⟩⟩
  · obtain ⟨ao, cap, rfl, h9⟩ := seq_own h8 (vers_len a n)
    exact ⟨true, he, D', lm', h1, hA, ⟨hc.1, hc.2.1⟩, .inr ⟨rfl, h4, a, ao, cap, h5, h6, h7, h9⟩⟩
set_option maxHeartbeats 16000000 in
set_option maxRecDepth 100000 in
theorem seqTurns_walk {w : World} {vt : Value} {ts : List Int} (ht : IntRow .u8 w vt ts) (size : Int) (hs : 0 ≤ size ∧ size ≤ 255) :
    Calls Try.prog 15 #[.int .u8 size, vt] w fun e w' => e = .returned (.bool true) ∧ Keep [] w w' := by
  obtain ⟨ta, tc, rfl, htl, htm, htc⟩ := ht
  unfold maxLen at htm
  have HTC := Lib.hid htc
  clear htc
  go_enter Try.func15, Try.ntmps15
  go_wp2_with fail
  refine (awake04 _).mono ?_
  rintro _ w0 ⟨rfl, hk0⟩
  have K0 := Lib.hid hk0
  clear hk0
  by_cases hsm : (400 : Int) < (ts.length : Int)
  · go_wp2_with fail
    refine (awake04 _).mono ?_
    rintro _ w1 ⟨rfl, hk1⟩
    have K1 := Lib.hid (K0.out.trans hk1)
    clear hk1
    go_wp2_with fail
    go_ret
    exact ⟨rfl, K1.out⟩
  · have ht400 : ts.length ≤ 400 := by omega
    have hdt : decide ((400 : Int) < (ts.length : Int)) = false := by simp; omega
    have hbw := K0.out.size
    have hc : 1 ≤ 1 + size % 6 ∧ 1 + size % 6 ≤ 6 := by omega
    obtain ⟨n, hcn⟩ : ∃ n : Nat, 1 + size % 6 = n := ⟨(1 + size % 6).toNat, by omega⟩
    go_upto_region 4 with fail
    try rw [hcn]
    have hn : 1 ≤ n ∧ n ≤ 6 := by omega
    clear hc hcn
    have HV : Hid (∀ (V : Nat), V ≤ 1000 → ∀ w : World, Calls Try.prog 51 #[.int .i64 V, .int .i64 n] w fun e w' => ∃ ao cap, e = .returned (.slice ao n cap) ∧ IntsAt w' ao (vers V n) ∧ (∀ z ∈ roI ao, w.heap.size ≤ z ∧ z < w'.heap.size) ∧ Keep [] w w') := Lib.hid (fun V hV w => by
      refine (seq_values V n hV (by omega) w).mono ?_
      rintro e w' ⟨v, he, h1, h2⟩
      obtain ⟨ao, cap, rfl, _⟩ := h1.form
      rw [vers_len] at h1 he
      exact ⟨ao, cap, he, wq_ints h1, wq_blk h1, h2⟩)
    go_wp2_with fail
    with_reducible refine (word_new 20 _ (by omega)).mono ?_
    rintro e w1 ⟨rfl, hm1, hk1, hs1⟩
    have hr : (List.replicate (min (max (20 : Int) 0) 4000).toNat (0 : Int)) = List.replicate 20 0 := by decide
    rw [hr] at hm1
    have hsz1 : w0.heap.size + 2 ≤ w1.heap.size := by omega
    have M1 := Lib.hid hm1
    have K1 := Lib.hid (K0.out.trans hk1)
    clear hm1 hk1 hs1 hr
    go_wp2_with fail
    with_reducible refine (frame_new M1.out).mono ?_
    rintro e w2 ⟨rfl, hf2, hk2, hs2⟩
    have hsz2 : w1.heap.size + 1 ≤ w2.heap.size := by omega
    have F2 := Lib.hid hf2
    have K2 := Lib.hid hk2
    clear hf2 hk2 hs2
    have HV1 : Hid (∀ w : World, Calls Try.prog 51 #[.int .i64 1, .int .i64 n] w fun e w' => ∃ ao cap, e = .returned (.slice ao n cap) ∧ IntsAt w' ao (vers 1 n) ∧ (∀ z ∈ roI ao, w.heap.size ≤ z ∧ z < w'.heap.size) ∧ Keep [] w w') := Lib.hid (HV.out 1 (by omega))
    go_wp2_with fail
    with_reducible refine (HV1.out w2).mono ?_
    rintro _ w3 ⟨ao, cap, rfl, hv3, hb3, hk3⟩
    have hsz3 : w2.heap.size ≤ w3.heap.size := hk3.size
    have V3 := Lib.hid hv3
    have B3 := Lib.hid hb3
    have K3 := Lib.hid hk3
    clear hv3 hb3 hk3 HV1
    go_upto_region 7 with fail
    have KA := Lib.hid ((Keep.refl [] w3).alloc (.cells #[.int .i64 0, .slice ao n cap] 89))
    have XA := Lib.hid (one_new w3 (.cells #[.int .i64 0, .slice ao n cap] 89))
    have hsA : w3.heap.size + 1 ≤ (w3.alloc (.cells #[.int .i64 0, .slice ao n cap] 89)).heap.size := by simp
    generalize w3.alloc (.cells #[.int .i64 0, .slice ao n cap] 89) = w4 at KA XA hsA ⊢
    go_upto_region 10 with fail
    have KB := Lib.hid ((((Keep.refl [] w4).alloc (.cells #[.pointer none, .pointer none] 98)).alloc (.cells #[.pointer none, .pointer none] 99)).alloc (.cells #[.int .i64 0, .int .i64 0] 100))
    have GF := Lib.hid (three_fst w4 (.cells #[.pointer none, .pointer none] 98) (.cells #[.pointer none, .pointer none] 99) (.cells #[.int .i64 0, .int .i64 0] 100))
    have GR := Lib.hid (three_snd w4 (.cells #[.pointer none, .pointer none] 98) (.cells #[.pointer none, .pointer none] 99) (.cells #[.int .i64 0, .int .i64 0] 100))
    have GL := Lib.hid (three_thd w4 (.cells #[.pointer none, .pointer none] 98) (.cells #[.pointer none, .pointer none] 99) (.cells #[.int .i64 0, .int .i64 0] 100))
    generalize ((w4.alloc (.cells #[.pointer none, .pointer none] 98)).alloc (.cells #[.pointer none, .pointer none] 99)).alloc (.cells #[.int .i64 0, .int .i64 0] 100) = wS at KB GF GR GL ⊢
    have b1 := lt_of_block M1.out.head
    have b2 := lt_of_block M1.out.body
    have K4 := Lib.hid ((K3.out.trans KA.out).trans KB.out)
    have FS := Lib.hid (F2.out.keep K4.out (by simp) (by simp) (by simp) (by simp))
    have XS := Lib.hid ((KB.out).to XA.out (by simp))
    have VS := Lib.hid (sq_ints V3.out (KA.out.trans KB.out))
    have KS := Lib.hid ((K1.out.trans K2.out).trans K4.out)
    have MS := Lib.hid FS.out.mem
    clear M1 K1 F2 K2 V3 K3 KA XA KB
    generalize hbE : w0.heap.size = b at *
    generalize hwf : w1.heap.size = wf at *
    generalize hwx : w3.heap.size = wx at *
    obtain ⟨gr, hgr⟩ : ∃ gr, w4.heap.size + 1 = gr := ⟨_, rfl⟩
    obtain ⟨gl, hgl⟩ : ∃ gl, w4.heap.size + 1 + 1 = gl := ⟨_, rfl⟩
    rw [hgl] at GL ⊢
    rw [hgr] at GR ⊢
    obtain ⟨gf, hgf⟩ : ∃ gf, w4.heap.size = gf := ⟨_, rfl⟩
    rw [hgf] at GF hgr hgl hsA ⊢
    have hglS := lt_of_block GL.out
    have hw0 : w.heap.size ≤ b := hbw
    have P0 : Hid (Pre4 w wS (b + 1) b n 0 gf gr (fun _ => ⟨0, 0, St.new [], .slice none 0 0, [], [], fun _ => True⟩) (List.replicate 20 0) wS) := Lib.hid ⟨Many.none KS.out (by omega), fun i hi => absurd hi (by omega), fun i hi => absurd hi (by omega), GF.out, GR.out, Keep.refl _ _, by omega⟩
    have B3' : Hid (∀ z ∈ roI ao, wf < z ∧ z < wx) := Lib.hid (fun z hz => by have := B3.out z hz; omega)
    clear B3 GF GR hbE hwf hwx hgf
    go_wp2_with fail
    go_loopw [37] (fun c_ wr => ∃ (k : Nat) (D : Nat → One), c_ = .int .i64 k ∧ k ≤ 2 ∧ Pre4 w wS (b + 1) b n k gf gr D (List.replicate 20 0) wr) (fun c_ _ => 2 - (intOf c_).toNat)
    case atStart => exact ⟨0, _, rfl, Nat.zero_le _, P0.out⟩
    case round =>
      obtain ⟨k, D, rfl, hk2, hpre⟩ := hrel
      have PR := Lib.hid hpre
      clear hpre
      by_cases hkl : k < 2
      · have hkl' : (k : Int) < 2 := by omega
        have hk0' : (0 : Int) ≤ (k : Int) := by omega
        have MR : Hid (MemRep 134 wr (b + 1) b (List.replicate 20 0)) := Lib.hid (MS.out.keep PR.out.keep (by simp; omega) (by simp; omega))
        go_wp2_with fail
        with_reducible refine (frame_new MR.out).mono ?_
        rintro _ w5 ⟨rfl, hf5, hk5, hs5⟩
        have ka := hk5.trans ((Keep.refl [] w5).alloc (.cells #[.int .i64 0, .int .i64 n, .slice none 0 0] 92))
        have hfa := ka.to PR.out.fa (by simp)
        have hra := ka.to PR.out.ra (by simp)
        have cf := cell_of (i := k) hfa (arr2_at hkl _)
        have zf := free_of (i := k) hfa
        have hra2 := heap_far (g := gf) (i := k) (v := .pointer (some ⟨wr.heap.size, 0, none⟩)) hra PR.out.ne.1
        have cr := cell_of (i := k) hra2 (arr2_at hkl _)
        have zr := free_of (i := k) hra2
        have NX := Lib.hid (PR.out.step hkl hk5 hf5 (Nat.le_refl _))
        clear hf5 hk5 hs5 ka hfa hra hra2
        go_wp2_with fail
        go_roundw
        case rel =>
          obtain ⟨D', h'⟩ := NX.out
          exact ⟨k + 1, D', by go_num, by omega, h'⟩
        case measure => simp [intOf]; omega
      · have hke : k = 2 := by omega
        have hk2 : ¬ (k : Int) < 2 := by omega
        have PE : Hid (∃ D', At4 3 w wr (b + 1) b n 0 0 0 (fun _ => 0) D' (List.replicate 20 0) [gf, gr, gl] ∧ Arr4 gf gr gl D' (fun _ => 0) wr ∧ (D' 2).f = wf ∧ (D' 2).x = wx) := Lib.hid (by
          have hP := PR.out
          rw [hke] at hP
          exact hP.start hn FS.out XS.out VS.out (fun z hz => by have := B3'.out z hz; omega) (by omega) GL.out (by omega))
        obtain ⟨D0, hA0, hR0, e1, e2⟩ := PE.out
        have A0 := Lib.hid hA0
        have R0 := Lib.hid hR0
        have E0 := Lib.hid (And.intro e1 e2)
        clear hA0 hR0 e1 e2 PE PR MS FS XS VS P0 GL hke
        go_wp2_with fail
        go_loopw [7, 8, 9, 14, 52] (fun s7 s8 s9 s14 c_ wr => ∃ (V j N B : Nat) (L : Nat → Nat) (D : Nat → One) (lm : List Int), s7 = .int .i64 V ∧ s8 = .pointer (some ⟨(D 2).f, 0, none⟩) ∧ s9 = .pointer (some ⟨(D 2).x, 0, none⟩) ∧ s14 = .int .i64 B ∧ c_ = .int .i64 N ∧ N ≤ ts.length ∧ V ≤ B ∧ B ≤ V + 1 ∧ At4 3 w wr (b + 1) b n V j N L D lm [gf, gr, gl] ∧ Arr4 gf gr gl D L wr) (fun _ _ _ _ c_ _ => ts.length - (intOf c_).toNat)
        case atStart => exact ⟨0, 0, 0, 0, _, D0, _, rfl, by rw [E0.out.1], by rw [E0.out.2], rfl, rfl, Nat.zero_le _, Nat.le_refl _, by omega, A0.out, R0.out⟩
        case round =>
          obtain ⟨V, j, N, B, L, D, lm, rfl, rfl, rfl, rfl, rfl, hN, hVB, hBV, hat, har⟩ := hrel
          have HA := Lib.hid hat
          have HR := Lib.hid har
          have hVN := hat.hV
          clear hat har
          by_cases hnl : N < ts.length
          · have hnl' : (N : Int) < ts.length := by omega
            have hn0' : (0 : Int) ≤ (N : Int) := by omega
            obtain ⟨x, hx⟩ : ∃ x, ts[N]? = some x := ⟨_, List.getElem?_eq_getElem hnl⟩
            obtain ⟨⟨tb, tof, rfl, _, htc⟩, hwf⟩ := HTC.out N x hx
            have hx8 := bounds_u8 hwf
            have hcell := cell_kept HA.out.many.keep htc (by simp)
            clear htc hx hwf
            obtain ⟨i, hi⟩ : ∃ i : Nat, x % 3 = i := ⟨(x % 3).toNat, by omega⟩
            have hi3 : i < 3 := by omega
            go_upto_region 20 with fail
            try rw [hi]
            clear hi hcell
            by_cases hw2 : i = 2
            · have he2 : ((i : Int) == 2) = true := by simp; omega
              have HP := Lib.hid (HA.out.write hn (by omega) (N : Int))
              go_wp2_with fail
              with_reducible refine HP.out.mono ?_
              rintro _ w6 ⟨D', lm', hd1, hd2, hres⟩
              have R6 := Lib.hid (HR.out.step hd1 hd2)
              have e1 := (hd1 2).1
              have e2 := (hd1 2).2
              have HD1 := Lib.hid (And.intro e1 e2)
              clear hd1 hd2 HP e1 e2
              rcases hres with ⟨rfl, ha⟩ | ⟨rfl, ha⟩
              · have A6 := Lib.hid ha
                clear ha
                go_wp2_with fail
                go_roundw
                case rel => exact ⟨V, j + 1, N + 1, V + 1, L, D', lm', rfl, by rw [HD1.out.1], by rw [HD1.out.2], by go_num, by go_num, by omega, by omega, by omega, A6.out, R6.out⟩
                case measure => simp [intOf]; omega
              · have A6 := Lib.hid ha
                have M6 := Lib.hid (ha.many.memRep (by omega))
                clear ha
                go_wp2_with fail
                with_reducible refine (frame_new M6.out).mono ?_
                rintro _ w7 ⟨rfl, hf7, hk7, hs7⟩
                have hs7' : w6.heap.size + 1 ≤ w7.heap.size := by omega
                have F7 := Lib.hid hf7
                have K7 := Lib.hid hk7
                have HV2 : Hid (∀ w : World, Calls Try.prog 51 #[.int .i64 ((V : Int) + 1 + 1), .int .i64 n] w fun e w' => ∃ ao cap, e = .returned (.slice ao n cap) ∧ IntsAt w' ao (vers (V + 1 + 1) n) ∧ (∀ z ∈ roI ao, w.heap.size ≤ z ∧ z < w'.heap.size) ∧ Keep [] w w') := Lib.hid (HV.out (V + 1 + 1) (by omega))
                clear hf7 hk7 hs7
                go_wp2_with fail
                with_reducible refine (HV2.out w7).mono ?_
                rintro _ w8 ⟨ao8, cap8, rfl, hv8, hb8, hk8⟩
                have hs8 := hk8.size
                have NX := Lib.hid (A6.out.renewW hn (K7.out.trans hk8) (F7.out.keep hk8 (by simp) (by simp) (by simp) (by simp)) (Nat.le_refl _) hv8 (cap := cap8) (fun z hz => by have := hb8 z hz; omega))
                have K8 := Lib.hid ((K7.out.trans hk8).trans ((Keep.refl [] w8).alloc (.cells #[.int .i64 0, .slice ao8 n cap8] 89)))
                clear hv8 hb8 hk8 hs8
                go_wp2_with fail
                go_roundw
                case rel =>
                  obtain ⟨D2, hA2, f1, f2, f3⟩ := NX.out
                  have R8 := R6.out.kept K8.out
                  refine ⟨V + 1, 0, N + 1, V + 1, L, D2, _, by go_num, by rw [f1], by rw [f2], by go_num, by go_num, by omega, by omega, by omega, hA2, ⟨?_, ?_, R8.la, R8.ne⟩⟩
                  · exact R8.fa.trans (congrArg (fun c => some (Obj.cells c 98 (0, 0))) (arr2_congr (Nat.le_refl _) fun q hq => by rw [(f3 q (by omega)).1]))
                  · exact R8.ra.trans (congrArg (fun c => some (Obj.cells c 99 (0, 0))) (arr2_congr (Nat.le_refl _) fun q hq => by rw [(f3 q (by omega)).2]))
                case measure => simp [intOf]; omega
            · have he2 : ((i : Int) == 2) = false := by simp; omega
              have hi2 : i < 2 := by omega
              have hi2' : (i : Int) < 2 := by omega
              have hi0' : (0 : Int) ≤ (i : Int) := by omega
              have cf := (HR.out.cells hi2).1
              go_wp2_with fail
              with_reducible refine (frame_steps (HA.out.fr (i := i) (by omega))).mono ?_
              rintro _ _ ⟨rfl, rfl⟩
              clear cf
              obtain ⟨W, L2, hW, hA2, hR2, hP2⟩ : ∃ (W : World) (L2 : Nat → Nat), W = (if (D i).s.log.length = 0 then wr.setCell ⟨gl, i, none⟩ (.int .i64 V) else wr) ∧ At4 3 w W (b + 1) b n V j N L2 D lm [gf, gr, gl] ∧ Arr4 gf gr gl D L2 W ∧ RPh n (L2 i) (cntOf V j) (D i).s.log.length ((readP 0 n).feed (ans (D i).s)) := by
                by_cases h0 : (D i).s.log.length = 0
                · obtain ⟨q1, q2⟩ := HA.out.fresh hn hi2 h0
                  exact ⟨_, setN L i V, rfl, by rw [if_pos h0]; exact q1.keptG (S := [gl]) ((Keep.refl _ _).setCell (.inr (by simp)) _) (by simp), by rw [if_pos h0]; exact HR.out.setL hi2 V, q2⟩
                · exact ⟨_, L, rfl, by rw [if_neg h0]; exact HA.out, by rw [if_neg h0]; exact HR.out, HA.out.old hi2 h0⟩
              have HA2 := Lib.hid hA2
              have HR2 := Lib.hid hR2
              have HP2 := Lib.hid hP2
              clear hA2 hR2 hP2
              by_cases h0 : (D i).s.log.length = 0
              · have hb : (((D i).s.log.length : Int) == 0) = true := by rw [h0]; rfl
                have cl := (HR.out.cells hi2).2.2
                have zl := (HR.out.free i).2.2
                go_upto_region 27 with fail
                rw [if_pos h0] at hW
                rw [← hW]
                clear cl zl hb h0 hW
                have SA : Hid (W.drew.cell? ⟨gf, i, none⟩ = some (.pointer (some ⟨(D i).f, 0, none⟩)) ∧ W.drew.cell? ⟨gr, i, none⟩ = some (.pointer (some ⟨(D i).x, 0, none⟩))) := Lib.hid ⟨(HR2.out.cells hi2).1, (HR2.out.cells hi2).2.1⟩
                go_region_held3 (fun w' => w'.cell? ⟨gf, i, none⟩ = some (.pointer (some ⟨(D i).f, 0, none⟩)) ∧ w'.cell? ⟨gr, i, none⟩ = some (.pointer (some ⟨(D i).x, 0, none⟩)))
                  (first | exact SA.out | exact SB.out | go_keep)
                  (first
                    | (go_at_call 29; ((with_reducible refine ((HA2.out.kept (by repeat' (first | with_reducible exact Keep.refl _ _ | with_reducible apply Keep.drew | with_reducible apply Keep.alloc))).readD (HR2.out.kept (by repeat' (first | with_reducible exact Keep.refl _ _ | with_reducible apply Keep.drew | with_reducible apply Keep.alloc))) hn (by omega) hi2 HP2.out (N : Int)).mono ?_); rintro _ w6 ⟨d, rfl, D', lm', hd1, hr6, hc6, hres⟩; have R6 := Lib.hid hr6; have HD1 := Lib.hid hd1; have SB := Lib.hid hc6; have HRes := Lib.hid hres; clear hd1 hr6 hc6 hres))
                    | (fail))
                have hres := HRes.out
                rcases hres with ⟨rfl, ha⟩ | ⟨rfl, ha, a, aO, cO, hLa, haV, hx6, hi6⟩
                · have A6 := Lib.hid ha
                  clear ha
                  go_wp2_with fail
                  go_roundw
                  case rel => exact ⟨V, j, N + 1, B, L2, D', lm', rfl, by rw [(HD1.out 2).1], by rw [(HD1.out 2).2], rfl, by go_num, by omega, by omega, by omega, A6.out, R6.out⟩
                  case measure => simp [intOf]; omega
                · have A6 := Lib.hid ha
                  have X6 := Lib.hid hx6
                  have I6 := Lib.hid hi6
                  have c6 := SB.out.2
                  have c62 : w6.cell? ⟨(D i).x, 2, none⟩ = some (.slice aO n cO) := cell_of hx6 rfl
                  obtain ⟨gb, go, rfl, hcg⟩ := hi6 0 (by rw [vers_len]; omega)
                  have hcg0 : w6.cell? ⟨gb, go, none⟩ = some (.int .i64 a) := by
                    have e1 : nth (vers a n) 0 = (a : Int) := by rw [nth_vers (by omega), ver_head]
                    rw [e1] at hcg
                    exact hcg
                  have hne : ((n : Int) != (n : Int)) = false := by simp
                  have hn1 : (0 : Int) < (n : Int) := by omega
                  clear ha hx6 hi6 hcg
                  go_upto_region 31 with fail
                  have hd1 : decide ((a : Int) < (L2 i : Int)) = false := by simp; omega
                  have hd2 : decide ((B : Int) < (a : Int)) = false := by simp; omega
                  have cL : w6.cell? ⟨gl, i, none⟩ = some (.int .i64 (L2 i)) := (R6.out.cells hi2).2.2
                  have SD : Hid (w6.drew.cell? ⟨gl, i, none⟩ = some (.int .i64 (L2 i)) ∧ w6.drew.cell? ⟨gr, i, none⟩ = some (.pointer (some ⟨(D i).x, 0, none⟩)) ∧ w6.drew.cell? ⟨(D i).x, 2, none⟩ = some (.slice (some ⟨gb, go, none⟩) n cO)) := Lib.hid ⟨cL, c6, c62⟩
                  clear c6 c62 hcg0 cL hne
                  refine wp_region_held_drew (S := fun w' => w'.cell? ⟨gl, i, none⟩ = some (.int .i64 (L2 i)) ∧ w'.cell? ⟨gr, i, none⟩ = some (.pointer (some ⟨(D i).x, 0, none⟩)) ∧ w'.cell? ⟨(D i).x, 2, none⟩ = some (.slice (some ⟨gb, go, none⟩) n cO)) (by kernel_rfl) SD.out (fun hHeld => ?_)
                  refine' wpAnyH_take (i := 0) (oi := { dst := some 115, op := Op.move (Operand.tmp 17), type := 3, pos := "law.go:85", after := #[], guard := none }) (v := _) rfl (by kernel_rfl) (by kernel_rfl) (by kernel_rfl) (fun _ _ _ h => h) (Or.inl ⟨by rfl, ?hy1⟩) hHeld ?rest1
                  case hy1 => (intro w hSw; (try dsimp only at hSw); go_simp; first | done | with_reducible rfl | (simp; omega) | omega)
                  try simp only [Go.Act.put, List.setIfInBounds_toArray, List.set_cons_zero, List.set_cons_succ]
                  refine' wpAnyH_take (i := 1) (oi := { dst := some 116, op := Op.move (Operand.tmp 16), type := 3, pos := "law.go:85", after := #[], guard := none }) (v := _) rfl (by kernel_rfl) (by kernel_rfl) (by kernel_rfl) (fun _ _ _ h => h) (Or.inl ⟨by rfl, ?hy2⟩) hHeld ?rest2
                  case hy2 => (intro w hSw; (try dsimp only at hSw); go_simp; first | done | with_reducible rfl | (simp; omega) | omega)
                  try simp only [Go.Act.put, List.setIfInBounds_toArray, List.set_cons_zero, List.set_cons_succ]
                  refine' wpAnyH_take (i := 2) (oi := { dst := some 117, op := Op.indexAddr 100 (Operand.tmp 12) (Operand.tmp 116), type := 0, pos := "law.go:85", after := #[{ on := 1, ground := Ground.data }], guard := none }) (v := _) rfl (by kernel_rfl) (by kernel_rfl) (by kernel_rfl) (fun _ _ _ h => h) (Or.inl ⟨by rfl, ?hy3⟩) hHeld ?rest3
                  case hy3 => (intro w hSw; (try dsimp only at hSw); go_simp; first | done | with_reducible rfl | (simp; omega) | omega)
                  try simp only [Go.Act.put, List.setIfInBounds_toArray, List.set_cons_zero, List.set_cons_succ]
                  refine' wpAnyH_take (i := 3) (oi := { dst := some 118, op := Op.load 3 (Operand.tmp 117), type := 3, pos := "law.go:85", after := #[{ on := 2, ground := Ground.data }], guard := none }) (v := _) rfl (by kernel_rfl) (by kernel_rfl) (by kernel_rfl) (fun _ _ _ h => h) (Or.inl ⟨by rfl, ?hy4⟩) hHeld ?rest4
                  case hy4 => (intro w hSw; (try dsimp only at hSw); go_simp; first | done | with_reducible rfl | (simp; omega) | omega)
                  try simp only [Go.Act.put, List.setIfInBounds_toArray, List.set_cons_zero, List.set_cons_succ]
                  refine' wpAnyH_take (i := 4) (oi := { dst := some 119, op := Op.binOp BinOp.lss 3 (Operand.tmp 115) (Operand.tmp 118) 3, type := 4, pos := "law.go:85", after := #[{ on := 0, ground := Ground.data }, { on := 3, ground := Ground.data }], guard := none }) (v := .bool false) rfl (by kernel_rfl) (by kernel_rfl) (by kernel_rfl) (fun _ _ _ h => h) (Or.inl ⟨by rfl, ?hy5⟩) hHeld ?rest5
                  case hy5 => (intro w hSw; (try dsimp only at hSw); go_simp; first | done | with_reducible rfl | (simp; omega) | omega)
                  try simp only [Go.Act.put, List.setIfInBounds_toArray, List.set_cons_zero, List.set_cons_succ]
                  refine' wpAnyH_take (i := 5) (oi := { dst := some 120, op := Op.move (Operand.tmp 119), type := 4, pos := "law.go:85", after := #[{ on := 4, ground := Ground.data }], guard := none }) (v := _) rfl (by kernel_rfl) (by kernel_rfl) (by kernel_rfl) (fun _ _ _ h => h) (Or.inl ⟨by rfl, ?hy6⟩) hHeld ?rest6
                  case hy6 => (intro w hSw; (try dsimp only at hSw); go_simp; first | done | with_reducible rfl | (simp; omega) | omega)
                  try simp only [Go.Act.put, List.setIfInBounds_toArray, List.set_cons_zero, List.set_cons_succ]
                  refine' wpAnyH_take (i := 6) (oi := { dst := some 121, op := Op.move (Operand.tmp 17), type := 3, pos := "law.go:85", after := #[{ on := 5, ground := Ground.guard }], guard := some (5, false) }) (v := _) rfl (by kernel_rfl) (by kernel_rfl) (by kernel_rfl) (fun _ _ _ h => h) (Or.inl ⟨by rfl, ?hy7⟩) hHeld ?rest7
                  case hy7 => (intro w hSw; (try dsimp only at hSw); go_simp; first | done | with_reducible rfl | (simp; omega) | omega)
                  try simp only [Go.Act.put, List.setIfInBounds_toArray, List.set_cons_zero, List.set_cons_succ]
                  refine' wpAnyH_take (i := 7) (oi := { dst := some 122, op := Op.move (Operand.tmp 14), type := 3, pos := "law.go:85", after := #[{ on := 5, ground := Ground.guard }], guard := some (5, false) }) (v := _) rfl (by kernel_rfl) (by kernel_rfl) (by kernel_rfl) (fun _ _ _ h => h) (Or.inl ⟨by rfl, ?hy8⟩) hHeld ?rest8
                  case hy8 => (intro w hSw; (try dsimp only at hSw); go_simp; first | done | with_reducible rfl | (simp; omega) | omega)
                  try simp only [Go.Act.put, List.setIfInBounds_toArray, List.set_cons_zero, List.set_cons_succ]
                  refine' wpAnyH_take (i := 8) (oi := { dst := some 123, op := Op.binOp BinOp.gtr 3 (Operand.tmp 121) (Operand.tmp 122) 3, type := 4, pos := "law.go:85", after := #[{ on := 6, ground := Ground.data }, { on := 7, ground := Ground.data }, { on := 5, ground := Ground.guard }], guard := some (5, false) }) (v := .bool false) rfl (by kernel_rfl) (by kernel_rfl) (by kernel_rfl) (fun _ _ _ h => h) (Or.inl ⟨by rfl, ?hy9⟩) hHeld ?rest9
                  case hy9 => (intro w hSw; (try dsimp only at hSw); go_simp; first | done | with_reducible rfl | (simp; omega) | omega)
                  try simp only [Go.Act.put, List.setIfInBounds_toArray, List.set_cons_zero, List.set_cons_succ]
                  refine' wpAnyH_take (i := 9) (oi := { dst := some 124, op := Op.pick (Operand.tmp 120) (Operand.const (Value.bool true)) (Operand.tmp 123), type := 4, pos := "law.go:85", after := #[{ on := 5, ground := Ground.data }, { on := 8, ground := Ground.data }], guard := none }) (v := .bool false) rfl (by kernel_rfl) (by kernel_rfl) (by kernel_rfl) (fun _ _ _ h => h) (Or.inl ⟨by rfl, ?hy10⟩) hHeld ?rest10
                  case hy10 => (intro w hSw; (try dsimp only at hSw); go_simp; first | done | with_reducible rfl | (simp; omega) | omega)
                  try simp only [Go.Act.put, List.setIfInBounds_toArray, List.set_cons_zero, List.set_cons_succ]
                  refine' wpAnyH_take (i := 10) (oi := { dst := some 125, op := Op.move (Operand.tmp 124), type := 4, pos := "law.go:85", after := #[{ on := 9, ground := Ground.data }, { on := 5, ground := Ground.chain }], guard := none }) (v := _) rfl (by kernel_rfl) (by kernel_rfl) (by kernel_rfl) (fun _ _ _ h => h) (Or.inl ⟨by rfl, ?hy11⟩) hHeld ?rest11
                  case hy11 => (intro w hSw; (try dsimp only at hSw); go_simp; first | done | with_reducible rfl | (simp; omega) | omega)
                  try simp only [Go.Act.put, List.setIfInBounds_toArray, List.set_cons_zero, List.set_cons_succ]
                  refine' wpAnyH_take (i := 11) (oi := { dst := some 126, op := Op.move (Operand.tmp 16), type := 3, pos := "law.go:85", after := #[{ on := 10, ground := Ground.guard }], guard := some (10, false) }) (v := _) rfl (by kernel_rfl) (by kernel_rfl) (by kernel_rfl) (fun _ _ _ h => h) (Or.inl ⟨by rfl, ?hy12⟩) hHeld ?rest12
                  case hy12 => (intro w hSw; (try dsimp only at hSw); go_simp; first | done | with_reducible rfl | (simp; omega) | omega)
                  try simp only [Go.Act.put, List.setIfInBounds_toArray, List.set_cons_zero, List.set_cons_succ]
                  refine' wpAnyH_take (i := 12) (oi := { dst := some 127, op := Op.indexAddr 99 (Operand.tmp 11) (Operand.tmp 126), type := 0, pos := "law.go:85", after := #[{ on := 11, ground := Ground.data }, { on := 10, ground := Ground.guard }], guard := some (10, false) }) (v := _) rfl (by kernel_rfl) (by kernel_rfl) (by kernel_rfl) (fun _ _ _ h => h) (Or.inl ⟨by rfl, ?hy13⟩) hHeld ?rest13
                  case hy13 => (intro w hSw; (try dsimp only at hSw); go_simp; first | done | with_reducible rfl | (simp; omega) | omega)
                  try simp only [Go.Act.put, List.setIfInBounds_toArray, List.set_cons_zero, List.set_cons_succ]
                  refine' wpAnyH_take (i := 13) (oi := { dst := some 128, op := Op.load 90 (Operand.tmp 127), type := 90, pos := "law.go:85", after := #[{ on := 12, ground := Ground.data }, { on := 10, ground := Ground.guard }], guard := some (10, false) }) (v := _) rfl (by kernel_rfl) (by kernel_rfl) (by kernel_rfl) (fun _ _ _ h => h) (Or.inl ⟨by rfl, ?hy14⟩) hHeld ?rest14
                  case hy14 => (intro w hSw; (try dsimp only at hSw); go_simp; first | done | with_reducible rfl | (simp; omega) | omega)
                  try simp only [Go.Act.put, List.setIfInBounds_toArray, List.set_cons_zero, List.set_cons_succ]
                  refine' wpAnyH_take (i := 14) (oi := { dst := some 129, op := Op.nilCheck (Operand.tmp 128), type := 0, pos := "law.go:85", after := #[{ on := 13, ground := Ground.data }, { on := 10, ground := Ground.guard }], guard := some (10, false) }) (v := _) rfl (by kernel_rfl) (by kernel_rfl) (by kernel_rfl) (fun _ _ _ h => h) (Or.inl ⟨by rfl, ?hy15⟩) hHeld ?rest15
                  case hy15 => (intro w hSw; (try dsimp only at hSw); go_simp; first | done | with_reducible rfl | (simp; omega) | omega)
                  try simp only [Go.Act.put, List.setIfInBounds_toArray, List.set_cons_zero, List.set_cons_succ]
                  refine' wpAnyH_take (i := 15) (oi := { dst := some 130, op := Op.fieldAddr 92 (Operand.tmp 129) 2, type := 0, pos := "law.go:85", after := #[{ on := 14, ground := Ground.data }, { on := 10, ground := Ground.guard }], guard := some (10, false) }) (v := _) rfl (by kernel_rfl) (by kernel_rfl) (by kernel_rfl) (fun _ _ _ h => h) (Or.inl ⟨by rfl, ?hy16⟩) hHeld ?rest16
                  case hy16 => (intro w hSw; (try dsimp only at hSw); go_simp; first | done | with_reducible rfl | (simp; omega) | omega)
                  try simp only [Go.Act.put, List.setIfInBounds_toArray, List.set_cons_zero, List.set_cons_succ]
                  refine' wpAnyH_take (i := 16) (oi := { dst := some 131, op := Op.load 37 (Operand.tmp 130), type := 37, pos := "law.go:85", after := #[{ on := 15, ground := Ground.data }, { on := 10, ground := Ground.guard }], guard := some (10, false) }) (v := _) rfl (by kernel_rfl) (by kernel_rfl) (by kernel_rfl) (fun _ _ _ h => h) (Or.inl ⟨by rfl, ?hy17⟩) hHeld ?rest17
                  case hy17 => (intro w hSw; (try dsimp only at hSw); go_simp; first | done | with_reducible rfl | (simp; omega) | omega)
                  try simp only [Go.Act.put, List.setIfInBounds_toArray, List.set_cons_zero, List.set_cons_succ]
                  refine' wpAnyH_take (i := 17) (oi := { dst := some 132, op := Op.move (Operand.tmp 17), type := 3, pos := "law.go:85", after := #[{ on := 10, ground := Ground.guard }], guard := some (10, false) }) (v := _) rfl (by kernel_rfl) (by kernel_rfl) (by kernel_rfl) (fun _ _ _ h => h) (Or.inl ⟨by rfl, ?hy18⟩) hHeld ?rest18
                  case hy18 => (intro w hSw; (try dsimp only at hSw); go_simp; first | done | with_reducible rfl | (simp; omega) | omega)
                  try simp only [Go.Act.put, List.setIfInBounds_toArray, List.set_cons_zero, List.set_cons_succ]
                  refine' wpAnyH_take (i := 18) (oi := { dst := some 133, op := Op.move (Operand.tmp 5), type := 3, pos := "law.go:85", after := #[{ on := 10, ground := Ground.guard }], guard := some (10, false) }) (v := _) rfl (by kernel_rfl) (by kernel_rfl) (by kernel_rfl) (fun _ _ _ h => h) (Or.inl ⟨by rfl, ?hy19⟩) hHeld ?rest19
                  case hy19 => (intro w hSw; (try dsimp only at hSw); go_simp; first | done | with_reducible rfl | (simp; omega) | omega)
                  try simp only [Go.Act.put, List.setIfInBounds_toArray, List.set_cons_zero, List.set_cons_succ]
                  refine wpAnyH_ready (rs := [19]) (by kernel_rfl) (by simp) ?_
                  refine AllReadyH.cons (o := { dst := some 134, op := Op.call { callee := Callee.value (Operand.func 51), args := #[Operand.tmp 132, Operand.tmp 133], argTypes := #[3, 3] }, type := 37, pos := "law.go:85", after := #[{ on := 17, ground := Ground.data }, { on := 18, ground := Ground.data }, { on := 10, ground := Ground.chain }, { on := 10, ground := Ground.guard }], guard := some (10, false) }) rfl (fun K hK => ?_) AllReadyH.nil
                  go_simp
                  (with_reducible refine (HV.out a (by omega) _).mono ?_); rintro _ w7 ⟨ao7, cap7, rfl, hv7, _, hk7⟩; have I7 := Lib.hid hv7; have K7 : Hid (Keep [] w6 w7) := Lib.hid ((Keep.refl [] w6).drew.trans hk7); have J7 := Lib.hid (sq_ints I6.out K7.out); have SE := Lib.hid (And.intro (cell_kept hk7 SD.out.1 (by simp)) (And.intro (cell_kept hk7 SD.out.2.1 (by simp)) (cell_kept hk7 SD.out.2.2 (by simp)))); clear hv7 hk7
                  refine hK.out _ _ SE.out (fun hHeld2 => ?_)
                  clear hK K
                  try simp only [Go.Act.put, List.setIfInBounds_toArray, List.set_cons_zero, List.set_cons_succ]
                  refine wpAnyH_ready (rs := [20]) (by kernel_rfl) (by simp) ?_
                  refine AllReadyH.cons (o := { dst := some 135, op := Op.call { callee := Callee.value (Operand.func 40), args := #[Operand.tmp 131, Operand.tmp 134], argTypes := #[37, 37] }, type := 4, pos := "law.go:85", after := #[{ on := 16, ground := Ground.data }, { on := 19, ground := Ground.data }, { on := 19, ground := Ground.chain }, { on := 10, ground := Ground.guard }], guard := some (10, false) }) rfl (fun K hK => ?_) AllReadyH.nil
                  go_simp
                  (with_reducible refine (ref_words (some ⟨gb, go, none⟩) ao7 n n _ _ (vers a n) (vers a n) J7.out I7.out (vers_len a n) (vers_len a n) (by omega) (by omega)).mono ?_); rintro _ w8 ⟨rfl, n8, rfl⟩; rw [decide_eq_true (rfl : vers a n = vers a n)]; have k8 := (Keep.refl [] w7).drewN n8; have K8 := Lib.hid (K7.out.trans k8); have SF := Lib.hid (And.intro (cell_kept k8 SE.out.1 (by simp)) (And.intro (cell_kept k8 SE.out.2.1 (by simp)) (cell_kept k8 SE.out.2.2 (by simp)))); clear k8
                  refine hK.out _ _ SF.out (fun hHeld3 => ?_)
                  clear hK K
                  try simp only [Go.Act.put, List.setIfInBounds_toArray, List.set_cons_zero, List.set_cons_succ]
                  refine' wpAnyH_take (i := 21) (oi := { dst := some 136, op := Op.unOp UnOp.not 4 (Operand.tmp 135), type := 4, pos := "law.go:85", after := #[{ on := 20, ground := Ground.data }, { on := 10, ground := Ground.guard }], guard := some (10, false) }) (v := .bool false) rfl (by kernel_rfl) (by kernel_rfl) (by kernel_rfl) (fun _ _ _ h => h) (Or.inl ⟨by rfl, ?hy20⟩) hHeld3 ?rest20
                  case hy20 => (intro w hSw; (try dsimp only at hSw); go_simp; first | done | with_reducible rfl | (simp; omega) | omega)
                  try simp only [Go.Act.put, List.setIfInBounds_toArray, List.set_cons_zero, List.set_cons_succ]
                  refine' wpAnyH_take (i := 22) (oi := { dst := some 137, op := Op.pick (Operand.tmp 125) (Operand.const (Value.bool true)) (Operand.tmp 136), type := 4, pos := "law.go:85", after := #[{ on := 10, ground := Ground.data }, { on := 21, ground := Ground.data }], guard := none }) (v := .bool false) rfl (by kernel_rfl) (by kernel_rfl) (by kernel_rfl) (fun _ _ _ h => h) (Or.inl ⟨by rfl, ?hy21⟩) hHeld3 ?rest21
                  case hy21 => (intro w hSw; (try dsimp only at hSw); go_simp; first | done | with_reducible rfl | (simp; omega) | omega)
                  try simp only [Go.Act.put, List.setIfInBounds_toArray, List.set_cons_zero, List.set_cons_succ]
                  refine wpAnyH_done (by kernel_rfl) ?_ _
                  generalize hw8 : w7.drewN n8 = w8 at *
                  clear hw8 hd1 hd2 SD SE SF
                  have M8 := Lib.hid (A6.out.kept K8.out |>.many.memRep (by omega))
                  go_wp2_with fail
                  with_reducible refine (frame_new M8.out).mono ?_
                  rintro _ w9 ⟨rfl, hf9, hk9, hs9⟩
                  have ka := (K8.out.trans hk9).trans ((Keep.refl [] w9).alloc (.cells #[.int .i64 0, .int .i64 n, .slice none 0 0] 92))
                  have RA := R6.out.kept ka
                  have cf := (RA.cells hi2).1
                  have zf := (RA.free i).1
                  have hra2 := heap_far (g := gf) (i := i) (v := .pointer (some ⟨w8.heap.size, 0, none⟩)) RA.ra RA.ne.1
                  have cr := cell_of (i := i) hra2 (arr2_get hi2 (Nat.le_refl _) _)
                  have zr := free_of (i := i) hra2
                  have NX := Lib.hid ((A6.out.kept K8.out).renewR hi2 hk9 hf9 (Nat.le_refl _))
                  have RA9 := Lib.hid RA
                  clear hf9 hk9 hs9 ka RA hra2
                  go_wp2_with fail
                  go_roundw
                  case rel =>
                    obtain ⟨D2, hA2, f1, f2, f3⟩ := NX.out
                    refine ⟨V, j, N + 1, B, L2, D2, _, rfl, by rw [(f3 2 (by omega)).1, (HD1.out 2).1], by rw [(f3 2 (by omega)).2, (HD1.out 2).2], rfl, by go_num, by omega, by omega, by omega, hA2.keptG (S := [gf, gr]) (((Keep.refl _ _).setCell (.inr (by simp)) _).setCell (.inr (by simp)) _) (by simp), RA9.out.renew hi2 ⟨f1, f2⟩ f3⟩
                  case measure => simp [intOf]; omega
              · have hb : (((D i).s.log.length : Int) == 0) = false := by rw [beq_eq_false_iff_ne]; omega
                go_upto_region 27 with fail
                rw [if_neg h0] at hW
                rw [← hW]
                clear hb h0 hW
                have SA : Hid (W.drew.cell? ⟨gf, i, none⟩ = some (.pointer (some ⟨(D i).f, 0, none⟩)) ∧ W.drew.cell? ⟨gr, i, none⟩ = some (.pointer (some ⟨(D i).x, 0, none⟩))) := Lib.hid ⟨(HR2.out.cells hi2).1, (HR2.out.cells hi2).2.1⟩
                go_region_held3 (fun w' => w'.cell? ⟨gf, i, none⟩ = some (.pointer (some ⟨(D i).f, 0, none⟩)) ∧ w'.cell? ⟨gr, i, none⟩ = some (.pointer (some ⟨(D i).x, 0, none⟩)))
                  (first | exact SA.out | exact SB.out | go_keep)
                  (first
                    | (go_at_call 29; ((with_reducible refine ((HA2.out.kept (by repeat' (first | with_reducible exact Keep.refl _ _ | with_reducible apply Keep.drew | with_reducible apply Keep.alloc))).readD (HR2.out.kept (by repeat' (first | with_reducible exact Keep.refl _ _ | with_reducible apply Keep.drew | with_reducible apply Keep.alloc))) hn (by omega) hi2 HP2.out (N : Int)).mono ?_); rintro _ w6 ⟨d, rfl, D', lm', hd1, hr6, hc6, hres⟩; have R6 := Lib.hid hr6; have HD1 := Lib.hid hd1; have SB := Lib.hid hc6; have HRes := Lib.hid hres; clear hd1 hr6 hc6 hres))
                    | (fail))
                have hres := HRes.out
                rcases hres with ⟨rfl, ha⟩ | ⟨rfl, ha, a, aO, cO, hLa, haV, hx6, hi6⟩
                · have A6 := Lib.hid ha
                  clear ha
                  go_wp2_with fail
                  go_roundw
                  case rel => exact ⟨V, j, N + 1, B, L2, D', lm', rfl, by rw [(HD1.out 2).1], by rw [(HD1.out 2).2], rfl, by go_num, by omega, by omega, by omega, A6.out, R6.out⟩
                  case measure => simp [intOf]; omega
                · have A6 := Lib.hid ha
                  have X6 := Lib.hid hx6
                  have I6 := Lib.hid hi6
                  have c6 := SB.out.2
                  have c62 : w6.cell? ⟨(D i).x, 2, none⟩ = some (.slice aO n cO) := cell_of hx6 rfl
                  obtain ⟨gb, go, rfl, hcg⟩ := hi6 0 (by rw [vers_len]; omega)
                  have hcg0 : w6.cell? ⟨gb, go, none⟩ = some (.int .i64 a) := by
                    have e1 : nth (vers a n) 0 = (a : Int) := by rw [nth_vers (by omega), ver_head]
                    rw [e1] at hcg
                    exact hcg
                  have hne : ((n : Int) != (n : Int)) = false := by simp
                  have hn1 : (0 : Int) < (n : Int) := by omega
                  clear ha hx6 hi6 hcg
                  go_upto_region 31 with fail
                  have hd1 : decide ((a : Int) < (L2 i : Int)) = false := by simp; omega
                  have hd2 : decide ((B : Int) < (a : Int)) = false := by simp; omega
                  have cL : w6.cell? ⟨gl, i, none⟩ = some (.int .i64 (L2 i)) := (R6.out.cells hi2).2.2
                  have SD : Hid (w6.drew.cell? ⟨gl, i, none⟩ = some (.int .i64 (L2 i)) ∧ w6.drew.cell? ⟨gr, i, none⟩ = some (.pointer (some ⟨(D i).x, 0, none⟩)) ∧ w6.drew.cell? ⟨(D i).x, 2, none⟩ = some (.slice (some ⟨gb, go, none⟩) n cO)) := Lib.hid ⟨cL, c6, c62⟩
                  clear c6 c62 hcg0 cL hne
                  refine wp_region_held_drew (S := fun w' => w'.cell? ⟨gl, i, none⟩ = some (.int .i64 (L2 i)) ∧ w'.cell? ⟨gr, i, none⟩ = some (.pointer (some ⟨(D i).x, 0, none⟩)) ∧ w'.cell? ⟨(D i).x, 2, none⟩ = some (.slice (some ⟨gb, go, none⟩) n cO)) (by kernel_rfl) SD.out (fun hHeld => ?_)
                  refine' wpAnyH_take (i := 0) (oi := { dst := some 115, op := Op.move (Operand.tmp 17), type := 3, pos := "law.go:85", after := #[], guard := none }) (v := _) rfl (by kernel_rfl) (by kernel_rfl) (by kernel_rfl) (fun _ _ _ h => h) (Or.inl ⟨by rfl, ?hy22⟩) hHeld ?rest22
                  case hy22 => (intro w hSw; (try dsimp only at hSw); go_simp; first | done | with_reducible rfl | (simp; omega) | omega)
                  try simp only [Go.Act.put, List.setIfInBounds_toArray, List.set_cons_zero, List.set_cons_succ]
                  refine' wpAnyH_take (i := 1) (oi := { dst := some 116, op := Op.move (Operand.tmp 16), type := 3, pos := "law.go:85", after := #[], guard := none }) (v := _) rfl (by kernel_rfl) (by kernel_rfl) (by kernel_rfl) (fun _ _ _ h => h) (Or.inl ⟨by rfl, ?hy23⟩) hHeld ?rest23
                  case hy23 => (intro w hSw; (try dsimp only at hSw); go_simp; first | done | with_reducible rfl | (simp; omega) | omega)
                  try simp only [Go.Act.put, List.setIfInBounds_toArray, List.set_cons_zero, List.set_cons_succ]
                  refine' wpAnyH_take (i := 2) (oi := { dst := some 117, op := Op.indexAddr 100 (Operand.tmp 12) (Operand.tmp 116), type := 0, pos := "law.go:85", after := #[{ on := 1, ground := Ground.data }], guard := none }) (v := _) rfl (by kernel_rfl) (by kernel_rfl) (by kernel_rfl) (fun _ _ _ h => h) (Or.inl ⟨by rfl, ?hy24⟩) hHeld ?rest24
                  case hy24 => (intro w hSw; (try dsimp only at hSw); go_simp; first | done | with_reducible rfl | (simp; omega) | omega)
                  try simp only [Go.Act.put, List.setIfInBounds_toArray, List.set_cons_zero, List.set_cons_succ]
                  refine' wpAnyH_take (i := 3) (oi := { dst := some 118, op := Op.load 3 (Operand.tmp 117), type := 3, pos := "law.go:85", after := #[{ on := 2, ground := Ground.data }], guard := none }) (v := _) rfl (by kernel_rfl) (by kernel_rfl) (by kernel_rfl) (fun _ _ _ h => h) (Or.inl ⟨by rfl, ?hy25⟩) hHeld ?rest25
                  case hy25 => (intro w hSw; (try dsimp only at hSw); go_simp; first | done | with_reducible rfl | (simp; omega) | omega)
                  try simp only [Go.Act.put, List.setIfInBounds_toArray, List.set_cons_zero, List.set_cons_succ]
                  refine' wpAnyH_take (i := 4) (oi := { dst := some 119, op := Op.binOp BinOp.lss 3 (Operand.tmp 115) (Operand.tmp 118) 3, type := 4, pos := "law.go:85", after := #[{ on := 0, ground := Ground.data }, { on := 3, ground := Ground.data }], guard := none }) (v := .bool false) rfl (by kernel_rfl) (by kernel_rfl) (by kernel_rfl) (fun _ _ _ h => h) (Or.inl ⟨by rfl, ?hy26⟩) hHeld ?rest26
                  case hy26 => (intro w hSw; (try dsimp only at hSw); go_simp; first | done | with_reducible rfl | (simp; omega) | omega)
                  try simp only [Go.Act.put, List.setIfInBounds_toArray, List.set_cons_zero, List.set_cons_succ]
                  refine' wpAnyH_take (i := 5) (oi := { dst := some 120, op := Op.move (Operand.tmp 119), type := 4, pos := "law.go:85", after := #[{ on := 4, ground := Ground.data }], guard := none }) (v := _) rfl (by kernel_rfl) (by kernel_rfl) (by kernel_rfl) (fun _ _ _ h => h) (Or.inl ⟨by rfl, ?hy27⟩) hHeld ?rest27
                  case hy27 => (intro w hSw; (try dsimp only at hSw); go_simp; first | done | with_reducible rfl | (simp; omega) | omega)
                  try simp only [Go.Act.put, List.setIfInBounds_toArray, List.set_cons_zero, List.set_cons_succ]
                  refine' wpAnyH_take (i := 6) (oi := { dst := some 121, op := Op.move (Operand.tmp 17), type := 3, pos := "law.go:85", after := #[{ on := 5, ground := Ground.guard }], guard := some (5, false) }) (v := _) rfl (by kernel_rfl) (by kernel_rfl) (by kernel_rfl) (fun _ _ _ h => h) (Or.inl ⟨by rfl, ?hy28⟩) hHeld ?rest28
                  case hy28 => (intro w hSw; (try dsimp only at hSw); go_simp; first | done | with_reducible rfl | (simp; omega) | omega)
                  try simp only [Go.Act.put, List.setIfInBounds_toArray, List.set_cons_zero, List.set_cons_succ]
                  refine' wpAnyH_take (i := 7) (oi := { dst := some 122, op := Op.move (Operand.tmp 14), type := 3, pos := "law.go:85", after := #[{ on := 5, ground := Ground.guard }], guard := some (5, false) }) (v := _) rfl (by kernel_rfl) (by kernel_rfl) (by kernel_rfl) (fun _ _ _ h => h) (Or.inl ⟨by rfl, ?hy29⟩) hHeld ?rest29
                  case hy29 => (intro w hSw; (try dsimp only at hSw); go_simp; first | done | with_reducible rfl | (simp; omega) | omega)
                  try simp only [Go.Act.put, List.setIfInBounds_toArray, List.set_cons_zero, List.set_cons_succ]
                  refine' wpAnyH_take (i := 8) (oi := { dst := some 123, op := Op.binOp BinOp.gtr 3 (Operand.tmp 121) (Operand.tmp 122) 3, type := 4, pos := "law.go:85", after := #[{ on := 6, ground := Ground.data }, { on := 7, ground := Ground.data }, { on := 5, ground := Ground.guard }], guard := some (5, false) }) (v := .bool false) rfl (by kernel_rfl) (by kernel_rfl) (by kernel_rfl) (fun _ _ _ h => h) (Or.inl ⟨by rfl, ?hy30⟩) hHeld ?rest30
                  case hy30 => (intro w hSw; (try dsimp only at hSw); go_simp; first | done | with_reducible rfl | (simp; omega) | omega)
                  try simp only [Go.Act.put, List.setIfInBounds_toArray, List.set_cons_zero, List.set_cons_succ]
                  refine' wpAnyH_take (i := 9) (oi := { dst := some 124, op := Op.pick (Operand.tmp 120) (Operand.const (Value.bool true)) (Operand.tmp 123), type := 4, pos := "law.go:85", after := #[{ on := 5, ground := Ground.data }, { on := 8, ground := Ground.data }], guard := none }) (v := .bool false) rfl (by kernel_rfl) (by kernel_rfl) (by kernel_rfl) (fun _ _ _ h => h) (Or.inl ⟨by rfl, ?hy31⟩) hHeld ?rest31
                  case hy31 => (intro w hSw; (try dsimp only at hSw); go_simp; first | done | with_reducible rfl | (simp; omega) | omega)
                  try simp only [Go.Act.put, List.setIfInBounds_toArray, List.set_cons_zero, List.set_cons_succ]
                  refine' wpAnyH_take (i := 10) (oi := { dst := some 125, op := Op.move (Operand.tmp 124), type := 4, pos := "law.go:85", after := #[{ on := 9, ground := Ground.data }, { on := 5, ground := Ground.chain }], guard := none }) (v := _) rfl (by kernel_rfl) (by kernel_rfl) (by kernel_rfl) (fun _ _ _ h => h) (Or.inl ⟨by rfl, ?hy32⟩) hHeld ?rest32
                  case hy32 => (intro w hSw; (try dsimp only at hSw); go_simp; first | done | with_reducible rfl | (simp; omega) | omega)
                  try simp only [Go.Act.put, List.setIfInBounds_toArray, List.set_cons_zero, List.set_cons_succ]
                  refine' wpAnyH_take (i := 11) (oi := { dst := some 126, op := Op.move (Operand.tmp 16), type := 3, pos := "law.go:85", after := #[{ on := 10, ground := Ground.guard }], guard := some (10, false) }) (v := _) rfl (by kernel_rfl) (by kernel_rfl) (by kernel_rfl) (fun _ _ _ h => h) (Or.inl ⟨by rfl, ?hy33⟩) hHeld ?rest33
                  case hy33 => (intro w hSw; (try dsimp only at hSw); go_simp; first | done | with_reducible rfl | (simp; omega) | omega)
                  try simp only [Go.Act.put, List.setIfInBounds_toArray, List.set_cons_zero, List.set_cons_succ]
                  refine' wpAnyH_take (i := 12) (oi := { dst := some 127, op := Op.indexAddr 99 (Operand.tmp 11) (Operand.tmp 126), type := 0, pos := "law.go:85", after := #[{ on := 11, ground := Ground.data }, { on := 10, ground := Ground.guard }], guard := some (10, false) }) (v := _) rfl (by kernel_rfl) (by kernel_rfl) (by kernel_rfl) (fun _ _ _ h => h) (Or.inl ⟨by rfl, ?hy34⟩) hHeld ?rest34
                  case hy34 => (intro w hSw; (try dsimp only at hSw); go_simp; first | done | with_reducible rfl | (simp; omega) | omega)
                  try simp only [Go.Act.put, List.setIfInBounds_toArray, List.set_cons_zero, List.set_cons_succ]
                  refine' wpAnyH_take (i := 13) (oi := { dst := some 128, op := Op.load 90 (Operand.tmp 127), type := 90, pos := "law.go:85", after := #[{ on := 12, ground := Ground.data }, { on := 10, ground := Ground.guard }], guard := some (10, false) }) (v := _) rfl (by kernel_rfl) (by kernel_rfl) (by kernel_rfl) (fun _ _ _ h => h) (Or.inl ⟨by rfl, ?hy35⟩) hHeld ?rest35
                  case hy35 => (intro w hSw; (try dsimp only at hSw); go_simp; first | done | with_reducible rfl | (simp; omega) | omega)
                  try simp only [Go.Act.put, List.setIfInBounds_toArray, List.set_cons_zero, List.set_cons_succ]
                  refine' wpAnyH_take (i := 14) (oi := { dst := some 129, op := Op.nilCheck (Operand.tmp 128), type := 0, pos := "law.go:85", after := #[{ on := 13, ground := Ground.data }, { on := 10, ground := Ground.guard }], guard := some (10, false) }) (v := _) rfl (by kernel_rfl) (by kernel_rfl) (by kernel_rfl) (fun _ _ _ h => h) (Or.inl ⟨by rfl, ?hy36⟩) hHeld ?rest36
                  case hy36 => (intro w hSw; (try dsimp only at hSw); go_simp; first | done | with_reducible rfl | (simp; omega) | omega)
                  try simp only [Go.Act.put, List.setIfInBounds_toArray, List.set_cons_zero, List.set_cons_succ]
                  refine' wpAnyH_take (i := 15) (oi := { dst := some 130, op := Op.fieldAddr 92 (Operand.tmp 129) 2, type := 0, pos := "law.go:85", after := #[{ on := 14, ground := Ground.data }, { on := 10, ground := Ground.guard }], guard := some (10, false) }) (v := _) rfl (by kernel_rfl) (by kernel_rfl) (by kernel_rfl) (fun _ _ _ h => h) (Or.inl ⟨by rfl, ?hy37⟩) hHeld ?rest37
                  case hy37 => (intro w hSw; (try dsimp only at hSw); go_simp; first | done | with_reducible rfl | (simp; omega) | omega)
                  try simp only [Go.Act.put, List.setIfInBounds_toArray, List.set_cons_zero, List.set_cons_succ]
                  refine' wpAnyH_take (i := 16) (oi := { dst := some 131, op := Op.load 37 (Operand.tmp 130), type := 37, pos := "law.go:85", after := #[{ on := 15, ground := Ground.data }, { on := 10, ground := Ground.guard }], guard := some (10, false) }) (v := _) rfl (by kernel_rfl) (by kernel_rfl) (by kernel_rfl) (fun _ _ _ h => h) (Or.inl ⟨by rfl, ?hy38⟩) hHeld ?rest38
                  case hy38 => (intro w hSw; (try dsimp only at hSw); go_simp; first | done | with_reducible rfl | (simp; omega) | omega)
                  try simp only [Go.Act.put, List.setIfInBounds_toArray, List.set_cons_zero, List.set_cons_succ]
                  refine' wpAnyH_take (i := 17) (oi := { dst := some 132, op := Op.move (Operand.tmp 17), type := 3, pos := "law.go:85", after := #[{ on := 10, ground := Ground.guard }], guard := some (10, false) }) (v := _) rfl (by kernel_rfl) (by kernel_rfl) (by kernel_rfl) (fun _ _ _ h => h) (Or.inl ⟨by rfl, ?hy39⟩) hHeld ?rest39
                  case hy39 => (intro w hSw; (try dsimp only at hSw); go_simp; first | done | with_reducible rfl | (simp; omega) | omega)
                  try simp only [Go.Act.put, List.setIfInBounds_toArray, List.set_cons_zero, List.set_cons_succ]
                  refine' wpAnyH_take (i := 18) (oi := { dst := some 133, op := Op.move (Operand.tmp 5), type := 3, pos := "law.go:85", after := #[{ on := 10, ground := Ground.guard }], guard := some (10, false) }) (v := _) rfl (by kernel_rfl) (by kernel_rfl) (by kernel_rfl) (fun _ _ _ h => h) (Or.inl ⟨by rfl, ?hy40⟩) hHeld ?rest40
                  case hy40 => (intro w hSw; (try dsimp only at hSw); go_simp; first | done | with_reducible rfl | (simp; omega) | omega)
                  try simp only [Go.Act.put, List.setIfInBounds_toArray, List.set_cons_zero, List.set_cons_succ]
                  refine wpAnyH_ready (rs := [19]) (by kernel_rfl) (by simp) ?_
                  refine AllReadyH.cons (o := { dst := some 134, op := Op.call { callee := Callee.value (Operand.func 51), args := #[Operand.tmp 132, Operand.tmp 133], argTypes := #[3, 3] }, type := 37, pos := "law.go:85", after := #[{ on := 17, ground := Ground.data }, { on := 18, ground := Ground.data }, { on := 10, ground := Ground.chain }, { on := 10, ground := Ground.guard }], guard := some (10, false) }) rfl (fun K hK => ?_) AllReadyH.nil
                  go_simp
                  (with_reducible refine (HV.out a (by omega) _).mono ?_); rintro _ w7 ⟨ao7, cap7, rfl, hv7, _, hk7⟩; have I7 := Lib.hid hv7; have K7 : Hid (Keep [] w6 w7) := Lib.hid ((Keep.refl [] w6).drew.trans hk7); have J7 := Lib.hid (sq_ints I6.out K7.out); have SE := Lib.hid (And.intro (cell_kept hk7 SD.out.1 (by simp)) (And.intro (cell_kept hk7 SD.out.2.1 (by simp)) (cell_kept hk7 SD.out.2.2 (by simp)))); clear hv7 hk7
                  refine hK.out _ _ SE.out (fun hHeld2 => ?_)
                  clear hK K
                  try simp only [Go.Act.put, List.setIfInBounds_toArray, List.set_cons_zero, List.set_cons_succ]
                  refine wpAnyH_ready (rs := [20]) (by kernel_rfl) (by simp) ?_
                  refine AllReadyH.cons (o := { dst := some 135, op := Op.call { callee := Callee.value (Operand.func 40), args := #[Operand.tmp 131, Operand.tmp 134], argTypes := #[37, 37] }, type := 4, pos := "law.go:85", after := #[{ on := 16, ground := Ground.data }, { on := 19, ground := Ground.data }, { on := 19, ground := Ground.chain }, { on := 10, ground := Ground.guard }], guard := some (10, false) }) rfl (fun K hK => ?_) AllReadyH.nil
                  go_simp
                  (with_reducible refine (ref_words (some ⟨gb, go, none⟩) ao7 n n _ _ (vers a n) (vers a n) J7.out I7.out (vers_len a n) (vers_len a n) (by omega) (by omega)).mono ?_); rintro _ w8 ⟨rfl, n8, rfl⟩; rw [decide_eq_true (rfl : vers a n = vers a n)]; have k8 := (Keep.refl [] w7).drewN n8; have K8 := Lib.hid (K7.out.trans k8); have SF := Lib.hid (And.intro (cell_kept k8 SE.out.1 (by simp)) (And.intro (cell_kept k8 SE.out.2.1 (by simp)) (cell_kept k8 SE.out.2.2 (by simp)))); clear k8
                  refine hK.out _ _ SF.out (fun hHeld3 => ?_)
                  clear hK K
                  try simp only [Go.Act.put, List.setIfInBounds_toArray, List.set_cons_zero, List.set_cons_succ]
                  refine' wpAnyH_take (i := 21) (oi := { dst := some 136, op := Op.unOp UnOp.not 4 (Operand.tmp 135), type := 4, pos := "law.go:85", after := #[{ on := 20, ground := Ground.data }, { on := 10, ground := Ground.guard }], guard := some (10, false) }) (v := .bool false) rfl (by kernel_rfl) (by kernel_rfl) (by kernel_rfl) (fun _ _ _ h => h) (Or.inl ⟨by rfl, ?hy41⟩) hHeld3 ?rest41
                  case hy41 => (intro w hSw; (try dsimp only at hSw); go_simp; first | done | with_reducible rfl | (simp; omega) | omega)
                  try simp only [Go.Act.put, List.setIfInBounds_toArray, List.set_cons_zero, List.set_cons_succ]
                  refine' wpAnyH_take (i := 22) (oi := { dst := some 137, op := Op.pick (Operand.tmp 125) (Operand.const (Value.bool true)) (Operand.tmp 136), type := 4, pos := "law.go:85", after := #[{ on := 10, ground := Ground.data }, { on := 21, ground := Ground.data }], guard := none }) (v := .bool false) rfl (by kernel_rfl) (by kernel_rfl) (by kernel_rfl) (fun _ _ _ h => h) (Or.inl ⟨by rfl, ?hy42⟩) hHeld3 ?rest42
                  case hy42 => (intro w hSw; (try dsimp only at hSw); go_simp; first | done | with_reducible rfl | (simp; omega) | omega)
                  try simp only [Go.Act.put, List.setIfInBounds_toArray, List.set_cons_zero, List.set_cons_succ]
                  refine wpAnyH_done (by kernel_rfl) ?_ _
                  generalize hw8 : w7.drewN n8 = w8 at *
                  clear hw8 hd1 hd2 SD SE SF
                  have M8 := Lib.hid (A6.out.kept K8.out |>.many.memRep (by omega))
                  go_wp2_with fail
                  with_reducible refine (frame_new M8.out).mono ?_
                  rintro _ w9 ⟨rfl, hf9, hk9, hs9⟩
                  have ka := (K8.out.trans hk9).trans ((Keep.refl [] w9).alloc (.cells #[.int .i64 0, .int .i64 n, .slice none 0 0] 92))
                  have RA := R6.out.kept ka
                  have cf := (RA.cells hi2).1
                  have zf := (RA.free i).1
                  have hra2 := heap_far (g := gf) (i := i) (v := .pointer (some ⟨w8.heap.size, 0, none⟩)) RA.ra RA.ne.1
                  have cr := cell_of (i := i) hra2 (arr2_get hi2 (Nat.le_refl _) _)
                  have zr := free_of (i := i) hra2
                  have NX := Lib.hid ((A6.out.kept K8.out).renewR hi2 hk9 hf9 (Nat.le_refl _))
                  have RA9 := Lib.hid RA
                  clear hf9 hk9 hs9 ka RA hra2
                  go_wp2_with fail
                  go_roundw
                  case rel =>
                    obtain ⟨D2, hA2, f1, f2, f3⟩ := NX.out
                    refine ⟨V, j, N + 1, B, L2, D2, _, rfl, by rw [(f3 2 (by omega)).1, (HD1.out 2).1], by rw [(f3 2 (by omega)).2, (HD1.out 2).2], rfl, by go_num, by omega, by omega, by omega, hA2.keptG (S := [gf, gr]) (((Keep.refl _ _).setCell (.inr (by simp)) _).setCell (.inr (by simp)) _) (by simp), RA9.out.renew hi2 ⟨f1, f2⟩ f3⟩
                  case measure => simp [intOf]; omega
          · go_wp2_with fail
            go_ret
            exact ⟨rfl, HA.out.many.keep⟩
end SeqL
end Go.Proofs.Ytkmamebaichboaa
