/- Law 3: TicketTurns walked. No conditions but those stated. -/
import Derived.Test.YtkmamebaichboaaTurns3
import Derived.Test.YtkmamebaichboaaIntRow
import Derived.Deep.RegionHeld3
import Derived.Deep.DeepCutAuto
import Derived.BigQuiet
namespace Go.Proofs.Ytkmamebaichboaa
open Go.ChangeShapes Go.WideShapes Go.ChangeAt Go.RowKit
set_option linter.unusedVariables false
set_option linter.unusedSimpArgs false
namespace Law03
namespace User
open Prog
theorem cell_stays {S : List Nat} {w w' : World} (k : Keep S w w') {g i : Nat} {v : Value} (h : w.cell? ⟨g, i, none⟩ = some v) (hg : g ∉ S) : w'.cell? ⟨g, i, none⟩ = some v := by
  rw [World.cell?_of_block (w := w) (k.block g (World.block_lt_of_cell? w ⟨g, i, none⟩ h) hg)]; exact h
theorem infoPF : (Try.prog.info? 40).map (fun i => (i.zero, i.size, i.bytes)) = some (some (.pointer none), 1, 8) := by kernel_rfl
theorem infoPU : (Try.prog.info? 50).map (fun i => (i.zero, i.size, i.bytes)) = some (some (.pointer none), 1, 8) := by kernel_rfl
theorem AtT.go {w0 w : World} {m b k N base S T : Nat} {F : Int} {ph tk f0 x0 : Nat → Nat} {U : Nat → Usr} {D : Nat → One} {lm : List Int} {vF vU : Value} (h : AtT w0 w m b k N F S T ph tk U D lm) (hr : Rw w base k vF vU f0 x0 D) (hb : b < base) (hk : k ≤ 5) (hN : N ≤ 1000) {i : Nat} (hi : i < k) (now : Int) :
    Calls Try.prog 29 #[.pointer (some ⟨f0 i, 0, none⟩), .int .i64 now, .func (.func 35) #[.pointer (some ⟨x0 i, 0, none⟩)] #[]] w fun e w' =>
      ∃ d, e = .returned (.bool d) ∧ ∃ S' T' ph' tk' U' D' lm', AtT w0 w' m b k (N + 1) F S' T' ph' tk' U' D' lm' ∧ Rw w' base k vF vU f0 x0 D' ∧
        (∀ j, j ≠ i → ph' j = ph j ∧ tk' j = tk j) ∧ ph i ≤ ph' i ∧ (Can S ph tk i → ph i < ph' i) ∧ (∀ q, q < k → q ≠ i → Can S ph tk q → Can S' ph' tk' q) := by
  have e1 := hr.of i hi
  rw [← e1.1, ← e1.2]
  refine (h.step hk hN hi now).mono ?_
  rintro e w' ⟨d, S', T', ph', tk', U', D', lm', he, h1, h2, h3, h4, h5⟩
  exact ⟨d, he, S', T', ph', tk', U', D', lm', h1, hr.step hi hb h3 h2 h4, h5⟩
theorem AtT.ended {w0 w : World} {m b k N E S T : Nat} {F : Int} {ph tk : Nat → Nat} {U : Nat → Usr} {D : Nat → One} {lm : List Int} (h : AtT w0 w m b k N F S T ph tk U D lm) (hL : Live k E E S ph tk) : ∃ a2 a3 a4, lm = [wrap64 (F + (k : Int)), wrap64 (F + (k : Int)), a2, a3, a4, (k : Int)] ∧
    ∀ i, i < k → (D i).s.over = true ∧ (U i).ticket = wrap64 (F + (tk i : Int)) ∧ (U i).got = tk i ∧ tk i < k := by
  have hz : tot left ph k = 0 := by
    rcases hL with h1 | ⟨p, e, _, _, _, h2, h3⟩
    · exact h1
    · omega
  obtain ⟨h5, hT, hS⟩ := h.lock.end hz
  have h0 := h.lock.w0
  have h1 := h.lock.w1
  have h2 := h.lock.w5b (fun i hi => by rw [h5 i hi]; omega)
  have hl := h.lock.len
  rw [hT] at h0
  rw [hS] at h1 h2
  match lm, hl with
  | [a0, a1, a2, a3, a4, a5], _ =>
    have e0 : a0 = wrap64 (F + (k : Int)) := h0
    have e1 : a1 = wrap64 (F + (k : Int)) := h1
    have e5 : a5 = (k : Int) := h2
    refine ⟨a2, a3, a4, by rw [e0, e1, e5], fun i hi => ?_⟩
    obtain ⟨f, x, s, sl, e, _, _, ha⟩ := h.us i hi
    have hd := h.lock.done i hi (h5 i hi)
    rw [h5 i hi] at ha
    rw [e]
    exact ⟨ha.1, ha.2.2.1, ha.2.2.2, by omega⟩
set_option maxHeartbeats 16000000 in
set_option maxRecDepth 100000 in
theorem ticketTurns_walk {w : World} {vt : Value} {ts : List Int} (ht : IntRow .u8 w vt ts) (size : Int) (hs : 0 ≤ size ∧ size ≤ 255) (F : Int) (hF : -9223372036854775808 ≤ F ∧ F ≤ 9223372036854775807) :
    Calls Try.prog 5 #[vt, .int .u8 size, .int .i64 F] w fun e w' => e = .returned (.bool true) ∧ Keep [] w w' := by
  obtain ⟨ta, tc, rfl, htl, htm, htc⟩ := ht
  unfold maxLen at htm
  have HTC := Lib.hid htc
  have HF := Lib.hid hF
  clear htc hF
  obtain ⟨iF, hiF, hzF, hz1F, hz2F⟩ := info_parts infoPF
  obtain ⟨iU, hiU, hzU, hz1U, hz2U⟩ := info_parts infoPU
  go_enter Try.func5, Try.ntmps5
  go_wp2_with fail
  refine (awake03 _).mono ?_
  rintro _ w0 ⟨rfl, hk0⟩
  have K0 := Lib.hid hk0
  clear hk0
  by_cases hsm : (300 : Int) < (ts.length : Int)
  · go_wp2_with fail
    refine (awake03 _).mono ?_
    rintro _ w1 ⟨rfl, hk1⟩
    have K1 := Lib.hid (K0.out.trans hk1)
    clear hk1
    go_wp2_with fail
    go_ret
    exact ⟨rfl, K1.out⟩
  · have ht300 : ts.length ≤ 300 := by omega
    have hdt : decide ((300 : Int) < (ts.length : Int)) = false := by simp; omega
    have hbw := K0.out.size
    have hc : 1 ≤ 1 + size % 5 ∧ 1 + size % 5 ≤ 5 := by omega
    obtain ⟨k, hck⟩ : ∃ k : Nat, 1 + size % 5 = k := ⟨(1 + size % 5).toNat, by omega⟩
    go_upto_region 4 with fail
    try rw [hck]
    have hk : 1 ≤ k ∧ k ≤ 5 := by omega
    clear hc hck
    go_wp2_with fail
    with_reducible refine (word_new 6 _ (by omega)).mono ?_
    rintro e w1 ⟨rfl, hm1, hk1, hs1⟩
    have hr : (List.replicate (min (max (6 : Int) 0) 4000).toNat (0 : Int)) = [0, 0, 0, 0, 0, 0] := by decide
    rw [hr] at hm1
    have M1 := Lib.hid hm1
    have K1 := Lib.hid (K0.out.trans hk1)
    clear hm1 hk1 hs1 hr
    go_wp2_with fail
    with_reducible refine (word_store M1.out 0 F).mono ?_
    rintro e w2 ⟨rfl, hm2, hk2⟩
    have M2 := Lib.hid hm2
    have K2 := Lib.hid (K1.out.transS hk2 (T := []) (by simp) (by simp; omega))
    clear hm2 hk2
    go_wp2_with fail
    with_reducible refine (word_store M2.out 1 F).mono ?_
    rintro e w3 ⟨rfl, hm3, hk3⟩
    rw [show wordPut (wordPut [0, 0, 0, 0, 0, 0] 0 F) 1 F = [F, F, 0, 0, 0, 0] from rfl] at hm3
    have b1 := lt_of_block hm3.head
    have b2 := lt_of_block hm3.body
    have M3 := Lib.hid hm3
    have K3 := Lib.hid (K2.out.transS hk3 (T := []) (by simp) (by simp; omega))
    clear hm3 hk3 M1 K1 M2 K2
    generalize hbE : w0.heap.size = b at *
    have hw0 : w.heap.size ≤ b := hbw
    have P0 : Hid (PreT w w3 (b + 1) b (b + 2) 0 (.slice none 0 0) (.slice none 0 0) (fun _ => ⟨0, 0, St.new [], .slice none 0 0, [], [], fun _ => True⟩) [F, F, 0, 0, 0, 0]) := Lib.hid ⟨Many.none K3.out (by omega), fun i hi => absurd hi (by omega), ⟨QP.nil, QP.nil, fun i hi => absurd hi (by omega), fun i hi => absurd hi (by omega), by simp [Value.ownBlock]⟩, by omega⟩
    clear hbE K3
    go_wp2_with fail
    go_loopw [9, 10, 37] (fun s9 s10 c_ wr => ∃ (q : Nat) (D : Nat → One), c_ = .int .i64 q ∧ q ≤ k ∧ PreT w wr (b + 1) b (b + 2) q s9 s10 D [F, F, 0, 0, 0, 0] ∧ MemRep 134 wr (b + 1) b [F, F, 0, 0, 0, 0]) (fun _ _ c_ _ => k - (intOf c_).toNat)
    case atStart => exact ⟨0, _, rfl, Nat.zero_le _, P0.out, M3.out⟩
    case round =>
      obtain ⟨q, D, rfl, hq, hpre, hmr⟩ := hrel
      obtain ⟨aF, cF, rfl, hcF⟩ := hpre.rw.qf.form
      obtain ⟨aU, cU, rfl, hcU⟩ := hpre.rw.qu.form
      rw [row_len] at hcF hcU
      rw [row_len, row_len] at hpre ⊢
      have PR := Lib.hid hpre
      have MR := Lib.hid hmr
      have hb2 : b + 2 ≤ wr.heap.size := hpre.lo.2.2.1
      clear hpre hmr
      by_cases hql : q < k
      · have hql' : (q : Int) < (k : Int) := by omega
        have hq0' : (0 : Int) ≤ (q : Int) := by omega
        go_wp2_with fail
        with_reducible refine (frame_new MR.out).mono ?_
        rintro _ w4 ⟨rfl, hf4, hk4, hs4⟩
        have hs4' : wr.heap.size + 1 = w4.heap.size := hs4.symm
        have F4 := Lib.hid hf4
        have K4 := Lib.hid hk4
        have QF := Lib.hid (PR.out.rw.qf.keep (hk4.trans ((Keep.refl [] w4).alloc (.cells #[.pointer (some ⟨wr.heap.size, 0, none⟩)] 40))) (by simp))
        clear hf4 hk4 hs4
        go_wp2_with (at_builtin; first
          | (refine wpList_append_qp (v := .slice aF q cF) rfl _ _ 48 rfl 40 iF Try.underlying48 hiF hzF hz1F hz2F rfl QF.out ⟨w4.heap.size, 0, none⟩ 1 (ptr wr.heap.size) rfl (by first | rfl | simp [Go.Act.eval, Go.Act.put]) (World.news_of_block (cs := #[.pointer (some ⟨wr.heap.size, 0, none⟩)]) (t := 40) (fr := (0, 0)) (heap_alloc_new w4 _)) q (row_len _ _) (by omega) (by simp; omega) ?_; intro aoF capF w5 SF hqF hkF hsF hnF; have HqF := Lib.hid hqF; have HkF := Lib.hid hkF; have HsF := Lib.hid hsF; have HnF := Lib.hid hnF; have hs5 := hkF.size; have QU : Hid (QP ((w5.alloc (.cells u0.cells 52)).alloc (.cells #[.pointer (some ⟨w5.heap.size, 0, none⟩)] 50)) (b + 2) 50 (.slice aU q cU) (row q fun i => (D i).x)) := Lib.hid ((((PR.out.rw.qu.keep (K4.out.trans ((Keep.refl [] w4).alloc (.cells #[.pointer (some ⟨wr.heap.size, 0, none⟩)] 40))) (by simp)).keep hkF (fun g hg hm => PR.out.rw.apart g (hsF g hm) hg)).keep (((Keep.refl [] w5).alloc _).alloc _) (by simp))); clear hqF hkF hsF hnF)
          | (refine wpList_append_qp (v := .slice aU q cU) rfl _ _ 49 rfl 50 iU Try.underlying49 hiU hzU hz1U hz2U rfl QU.out ⟨w5.heap.size + 1, 0, none⟩ 1 (ptr w5.heap.size) rfl (by first | rfl | simp [Go.Act.eval, Go.Act.put]) (World.news_of_block (cs := #[.pointer (some ⟨w5.heap.size, 0, none⟩)]) (t := 50) (fr := (0, 0)) (two_snd w5 _ _)) q (row_len _ _) (by omega) (by simp at hs5 ⊢; omega) ?_; intro aoU capU w6 SU hqU hkU hsU hnU; have HqU := Lib.hid hqU; have HkU := Lib.hid hkU; have HsU := Lib.hid hsU; have HnU := Lib.hid hnU; clear hqU hkU hsU hnU)
          | fail)
        go_roundw
        case rel =>
          have hpr := PR.out
          have lowF : ∀ z ∈ SF, b + 2 ≤ z ∧ z < wr.heap.size := fun z hz => hpr.rw.qf.low z (HsF.out z hz)
          have lowU : ∀ z ∈ SU, b + 2 ≤ z ∧ z < wr.heap.size := fun z hz => hpr.rw.qu.low z (HsU.out z hz)
          have ka := (Keep.refl [] w4).alloc (.cells #[.pointer (some ⟨wr.heap.size, 0, none⟩)] 40)
          have kb := ((Keep.refl [] w5).alloc (.cells u0.cells 52)).alloc (.cells #[.pointer (some ⟨w5.heap.size, 0, none⟩)] 50)
          have hx5 := two_fst w5 (.cells u0.cells 52) (.cells #[.pointer (some ⟨w5.heap.size, 0, none⟩)] 50)
          have hsa := HkF.out.size
          have hsb := HkU.out.size
          have nU := HnU.out
          have nF := HnF.out
          have kF := HkF.out
          have kU := HkU.out
          simp at hsa hsb nU nF
          have hf5 := ((F4.out.keep ka (by simp) (by simp) (by simp) (by simp)).keep kF (fun hm => by have := lowF _ hm; omega) (fun hm => by have := lowF _ hm; omega) (fun hm => by have := lowF _ hm; omega) (by simp [Value.ownBlock])).keep kb (by simp) (by simp) (by simp) (by simp)
          have hf6 := hf5.keep kU (fun hm => by have := lowU _ hm; omega) (fun hm => by have := lowU _ hm; omega) (fun hm => by have := lowU _ hm; omega) (by simp [Value.ownBlock])
          have kS : Keep (SF ++ SU) wr w6 := ((((K4.out.mono (S' := SF ++ SU) (by simp)).trans (ka.mono (by simp))).trans (kF.mono (fun x hx _ => List.mem_append.2 (.inl hx)))).trans (kb.mono (by simp))).trans (kU.mono (fun x hx _ => List.mem_append.2 (.inr hx)))
          have own1 : ∀ g, (Value.slice aF q cF).ownBlock = some g → b + 2 ≤ g ∧ g < wr.heap.size := fun g hg => hpr.rw.qf.low g hg
          have own2 : ∀ g, (Value.slice aU q cU).ownBlock = some g → b + 2 ≤ g ∧ g < wr.heap.size := fun g hg => hpr.rw.qu.low g hg
          have hqf := ((HqF.out.keep kb (by simp)).keep kU (fun g hg hm => by
            have h1 := lowU g hm
            rcases HnF.out g hg with h2 | h2
            · exact hpr.rw.apart g h2 (HsU.out g hm)
            · simp at h2; omega))
          obtain ⟨D', hP⟩ := hpr.push kS (fun z hz => by
            rcases List.mem_append.1 hz with h1 | h1
            · exact .inl (HsF.out z h1)
            · exact .inr (HsU.out z h1)) hf6 (kU.to hx5 (fun hm => by have := lowU _ hm; omega)) (x := w5.heap.size) (by omega) hqf HqU.out
            (fun g hg => by
              rcases HnF.out g hg with h1 | h1
              · exact .inl h1
              · simp at h1
                have := HqF.out.low g hg
                exact .inr (by omega))
            (fun g hg => by
              rcases HnU.out g hg with h1 | h1
              · exact .inl h1
              · simp at h1
                exact .inr (by omega))
            (fun g hg hg2 => by
              rcases HnU.out g hg2 with h1 | h1
              · rcases HnF.out g hg with h2 | h2
                · exact hpr.rw.apart g h2 h1
                · have := own2 g h1
                  simp at h2; omega
              · have := HqF.out.low g hg
                simp at h1; omega)
          exact ⟨q + 1, D', by go_num, by omega, hP, hf6.mem⟩
        case measure => simp [intOf]; omega
      · have hke : q = k := by omega
        subst q
        have hP := PR.out
        obtain ⟨gF, oF, cF2, e1, _⟩ := hP.rw.qf.open hk.1
        cases e1
        obtain ⟨gU, oU, cU2, e1, _⟩ := hP.rw.qu.open hk.1
        cases e1
        have T0 := Lib.hid (hP.start hk.1 HF.out)
        have R0 := Lib.hid hP.rw
        generalize (fun i => (D i).f) = f0 at R0
        generalize (fun i => (D i).x) = x0 at R0
        clear hP PR MR P0 M3 hq hql hcF hcU
        have hk0 : (1 : Int) ≤ (k : Int) := by omega
        have hk5 : (k : Int) ≤ 5 := by omega
        go_wp2_with fail
        go_loopw [55] (fun c_ wr => ∃ (N S T : Nat) (ph tk : Nat → Nat) (U : Nat → Usr) (D : Nat → One) (lm : List Int), c_ = .int .i64 N ∧ N ≤ ts.length + 60 * k ∧ AtT w wr (b + 1) b k N F S T ph tk U D lm ∧ Rw wr (b + 2) k (.slice (some ⟨gF, oF, none⟩) k cF) (.slice (some ⟨gU, oU, none⟩) k cU) f0 x0 D ∧ (ts.length ≤ N → Live k (ts.length + 60 * k) N S ph tk)) (fun c_ _ => ts.length + 60 * k - (intOf c_).toNat)
        case atStart => exact ⟨0, 0, 0, _, _, _, D, _, rfl, Nat.zero_le _, T0.out, R0.out, fun h0 => Live.start T0.out.lock hk (by omega)⟩
        case round =>
          obtain ⟨N, S, T, ph, tk, U, D, lm, rfl, hN, hat, hrw, hlv⟩ := hrel
          have HA := Lib.hid hat
          have HR := Lib.hid hrw
          have HL := Lib.hid hlv
          clear hat hrw hlv
          by_cases hnl : N < ts.length + 60 * k
          · have hnl' : (N : Int) < (ts.length : Int) + 60 * (k : Int) := by omega
            have hn0' : (0 : Int) ≤ (N : Int) := by omega
            by_cases hnt : N < ts.length
            · have hnt' : (N : Int) < (ts.length : Int) := by omega
              obtain ⟨x, hx⟩ : ∃ x, ts[N]? = some x := ⟨_, List.getElem?_eq_getElem hnt⟩
              obtain ⟨⟨tb, tof, rfl, _, htc⟩, hwf⟩ := HTC.out N x hx
              have hx8 := bounds_u8 hwf
              have hcell := cell_stays HA.out.many.keep htc (by simp)
              clear htc hx hwf
              have hxk := Int.emod_nonneg x (show (k : Int) ≠ 0 by omega)
              have hxk2 := Int.emod_lt_of_pos x (show (0 : Int) < (k : Int) by omega)
              go_upto_region 19 with fail
              obtain ⟨i, hi⟩ : ∃ i : Nat, x % (k : Int) = i := ⟨(x % (k : Int)).toNat, by omega⟩
              rw [hi] at hxk hxk2 ⊢
              have hik : i < k := by omega
              clear hcell hi hxk hxk2
              have hi0' : (0 : Int) ≤ (i : Int) := by omega
              have hik' : (i : Int) < (k : Int) := by omega
              have SA : Hid (wr.drew.cell? ⟨gF, oF + i, none⟩ = some (.pointer (some ⟨f0 i, 0, none⟩)) ∧ wr.drew.cell? ⟨gU, oU + i, none⟩ = some (.pointer (some ⟨x0 i, 0, none⟩))) := Lib.hid ⟨HR.out.qf.cell hik, HR.out.qu.cell hik⟩
              go_region_held3 (fun w' => w'.cell? ⟨gF, oF + i, none⟩ = some (.pointer (some ⟨f0 i, 0, none⟩)) ∧ w'.cell? ⟨gU, oU + i, none⟩ = some (.pointer (some ⟨x0 i, 0, none⟩)))
                (first | exact SA.out | exact SB.out | go_keep)
                (first
                  | (go_at_call 29; ((with_reducible refine ((HA.out.kept (by repeat' (first | with_reducible exact Keep.refl _ _ | with_reducible apply Keep.drew | with_reducible apply Keep.alloc))).go (HR.out.kept (by repeat' (first | with_reducible exact Keep.refl _ _ | with_reducible apply Keep.drew | with_reducible apply Keep.alloc))) (by omega) hk.2 (by omega) hik (N : Int)).mono ?_); rintro _ w6 ⟨d, rfl, S', T', ph', tk', U', D', lm', ha6, hr6, g1, g2, g3, g4⟩; have A6 := Lib.hid ha6; have R6 := Lib.hid hr6; have G6 := Lib.hid (And.intro g1 (And.intro g2 (And.intro g3 g4))); have SB := Lib.hid (And.intro (hr6.qf.cell hik) (hr6.qu.cell hik)); clear ha6 hr6 g1 g2 g3 g4))
                  | (fail))
              have HL6 : Hid (ts.length ≤ N + 1 → Live k (ts.length + 60 * k) (N + 1) S' ph' tk') := Lib.hid (fun h1 => Live.start A6.out.lock hk (by omega))
              clear SA SB G6
              obtain ⟨pin, hpin⟩ := A6.out.in1
              have HIN := Lib.hid hpin
              clear hpin
              go_wp2_with fail
              go_loopw [13, 85] (fun s13 c_ wr' => ∃ (j c : Nat), s13 = .int .i64 c ∧ c_ = .int .i64 j ∧ j ≤ k ∧ wr' = w6 ∧ (c = 0 ∨ (c = 1 ∧ pin < j))) (fun _ c_ _ => k - (intOf c_).toNat)
              case atStart => exact ⟨0, 0, rfl, rfl, Nat.zero_le _, rfl, .inl rfl⟩
              case round =>
                obtain ⟨j, c, rfl, rfl, hj, hww, hcj⟩ := hrel
                subst wr
                by_cases hjl : j < k
                · have hjl' : (j : Int) < (k : Int) := by omega
                  have hj0' : (0 : Int) ≤ (j : Int) := by omega
                  have cj := R6.out.qu.cell hjl
                  have c3 : w6.cell? ⟨x0 j, 3, none⟩ = some (.bool (U' j).inside) := by
                    have := cell_of (i := 3) (A6.out.rcd hjl) (show (U' j).cells[3]? = some (.bool (U' j).inside) from rfl)
                    rw [(R6.out.of j hjl).2] at this
                    exact this
                  cases hin : (U' j).inside with
                  | false =>
                    rw [hin] at c3
                    go_wp2_with fail
                    go_roundw
                    case rel => exact ⟨j + 1, c, rfl, by go_num, by omega, by first | rfl | trivial, by omega⟩
                    case measure => simp [intOf]; omega
                  | true =>
                    rw [hin] at c3
                    have HJ := Lib.hid (HIN.out j hjl hin)
                    have HC := Lib.hid (show c = 0 by have := HJ.out; omega)
                    have hc1 : (c : Int) ≤ 1 := by omega
                    have hc2 : (0 : Int) ≤ (c : Int) := by omega
                    clear hin
                    go_wp2_with fail
                    go_roundw
                    case rel => exact ⟨j + 1, c + 1, by go_num, by go_num, by omega, by first | rfl | trivial, by have := HJ.out; have := HC.out; omega⟩
                    case measure => simp [intOf]; omega
                · have hjl' : ¬ (j : Int) < (k : Int) := by omega
                  have hdc : decide ((1 : Int) < (c : Int)) = false := by simp; omega
                  go_wp2_with fail
                  go_roundw
                  case rel => exact ⟨N + 1, S', T', ph', tk', U', D', lm', by go_num, by omega, A6.out, R6.out, HL6.out⟩
                  case measure => simp [intOf]; omega
            · have hnt' : ¬ (N : Int) < (ts.length : Int) := by omega
              go_upto_region 19 with fail
              obtain ⟨i, hi⟩ : ∃ i : Nat, i = N % k := ⟨_, rfl⟩
              have hi2 : (N : Int) % (k : Int) = (i : Int) := by rw [hi]; exact (Int.natCast_emod N k).symm
              have hik : i < k := hi ▸ Nat.mod_lt _ (by omega)
              rw [hi2]
              have HI := Lib.hid hi
              clear hi hi2
              have hi0' : (0 : Int) ≤ (i : Int) := by omega
              have hik' : (i : Int) < (k : Int) := by omega
              have SA : Hid (wr.drew.cell? ⟨gF, oF + i, none⟩ = some (.pointer (some ⟨f0 i, 0, none⟩)) ∧ wr.drew.cell? ⟨gU, oU + i, none⟩ = some (.pointer (some ⟨x0 i, 0, none⟩))) := Lib.hid ⟨HR.out.qf.cell hik, HR.out.qu.cell hik⟩
              go_region_held3 (fun w' => w'.cell? ⟨gF, oF + i, none⟩ = some (.pointer (some ⟨f0 i, 0, none⟩)) ∧ w'.cell? ⟨gU, oU + i, none⟩ = some (.pointer (some ⟨x0 i, 0, none⟩)))
                (first | exact SA.out | exact SB.out | go_keep)
                (first
                  | (go_at_call 29; ((with_reducible refine ((HA.out.kept (by repeat' (first | with_reducible exact Keep.refl _ _ | with_reducible apply Keep.drew | with_reducible apply Keep.alloc))).go (HR.out.kept (by repeat' (first | with_reducible exact Keep.refl _ _ | with_reducible apply Keep.drew | with_reducible apply Keep.alloc))) (by omega) hk.2 (by omega) hik (N : Int)).mono ?_); rintro _ w6 ⟨d, rfl, S', T', ph', tk', U', D', lm', ha6, hr6, g1, g2, g3, g4⟩; have A6 := Lib.hid ha6; have R6 := Lib.hid hr6; have G6 := Lib.hid (And.intro g1 (And.intro g2 (And.intro g3 g4))); have SB := Lib.hid (And.intro (hr6.qf.cell hik) (hr6.qu.cell hik)); clear ha6 hr6 g1 g2 g3 g4))
                  | (fail))
              have HL6 : Hid (ts.length ≤ N + 1 → Live k (ts.length + 60 * k) (N + 1) S' ph' tk') := Lib.hid (fun h1 => Live.step (HL.out (by omega)) HA.out.lock A6.out.lock hk HI.out G6.out.1 G6.out.2.1 G6.out.2.2.1 G6.out.2.2.2)
              clear SA SB G6
              obtain ⟨pin, hpin⟩ := A6.out.in1
              have HIN := Lib.hid hpin
              clear hpin
              go_wp2_with fail
              go_loopw [13, 85] (fun s13 c_ wr' => ∃ (j c : Nat), s13 = .int .i64 c ∧ c_ = .int .i64 j ∧ j ≤ k ∧ wr' = w6 ∧ (c = 0 ∨ (c = 1 ∧ pin < j))) (fun _ c_ _ => k - (intOf c_).toNat)
              case atStart => exact ⟨0, 0, rfl, rfl, Nat.zero_le _, rfl, .inl rfl⟩
              case round =>
                obtain ⟨j, c, rfl, rfl, hj, hww, hcj⟩ := hrel
                subst wr
                by_cases hjl : j < k
                · have hjl' : (j : Int) < (k : Int) := by omega
                  have hj0' : (0 : Int) ≤ (j : Int) := by omega
                  have cj := R6.out.qu.cell hjl
                  have c3 : w6.cell? ⟨x0 j, 3, none⟩ = some (.bool (U' j).inside) := by
                    have := cell_of (i := 3) (A6.out.rcd hjl) (show (U' j).cells[3]? = some (.bool (U' j).inside) from rfl)
                    rw [(R6.out.of j hjl).2] at this
                    exact this
                  cases hin : (U' j).inside with
                  | false =>
                    rw [hin] at c3
                    go_wp2_with fail
                    go_roundw
                    case rel => exact ⟨j + 1, c, rfl, by go_num, by omega, by first | rfl | trivial, by omega⟩
                    case measure => simp [intOf]; omega
                  | true =>
                    rw [hin] at c3
                    have HJ := Lib.hid (HIN.out j hjl hin)
                    have HC := Lib.hid (show c = 0 by have := HJ.out; omega)
                    have hc1 : (c : Int) ≤ 1 := by omega
                    have hc2 : (0 : Int) ≤ (c : Int) := by omega
                    clear hin
                    go_wp2_with fail
                    go_roundw
                    case rel => exact ⟨j + 1, c + 1, by go_num, by go_num, by omega, by first | rfl | trivial, by have := HJ.out; have := HC.out; omega⟩
                    case measure => simp [intOf]; omega
                · have hjl' : ¬ (j : Int) < (k : Int) := by omega
                  have hdc : decide ((1 : Int) < (c : Int)) = false := by simp; omega
                  go_wp2_with fail
                  go_roundw
                  case rel => exact ⟨N + 1, S', T', ph', tk', U', D', lm', by go_num, by omega, A6.out, R6.out, HL6.out⟩
                  case measure => simp [intOf]; omega
          · have hne : N = ts.length + 60 * k := by omega
            have hnl' : ¬ (N : Int) < (ts.length : Int) + 60 * (k : Int) := by omega
            obtain ⟨a2, a3, a4, rfl, hend⟩ := HA.out.ended (hne ▸ HL.out (by omega))
            have HE := Lib.hid hend
            clear hend HL
            go_wp2_with fail
            go_loopw [103] (fun c_ wr' => ∃ (j : Nat), c_ = .int .i64 j ∧ j ≤ k ∧ Keep [] wr wr') (fun c_ _ => k - (intOf c_).toNat)
            case atStart => exact ⟨0, rfl, Nat.zero_le _, Keep.refl _ _⟩
            case round =>
              obtain ⟨j, rfl, hj, hkw⟩ := hrel
              have A7 := Lib.hid (HA.out.kept hkw)
              have R7 := Lib.hid (HR.out.kept hkw)
              have K7 := Lib.hid hkw
              clear hkw
              by_cases hjl : j < k
              · have hjl' : (j : Int) < (k : Int) := by omega
                have hj0' : (0 : Int) ≤ (j : Int) := by omega
                obtain ⟨e1, e2, e3, e4⟩ := HE.out j hjl
                have cf := R7.out.qf.cell hjl
                have cu := R7.out.qu.cell hjl
                have hrc := A7.out.rcd hjl
                rw [(R7.out.of j hjl).2] at hrc
                have c1 := cell_of (i := 1) hrc (show (U j).cells[1]? = some (.int .i64 (U j).ticket) from rfl)
                have c2 := cell_of (i := 2) hrc (show (U j).cells[2]? = some (.int .i64 (U j).got) from rfl)
                rw [e2] at c1
                rw [e3] at c2
                have hdd : ((tk j : Int) != wrap64 (wrap64 (F + (tk j : Int)) - F)) = false := by rw [wrap_back (by omega)]; simp
                have HDONE : Hid (∀ m : Nat, Calls Try.prog 32 #[.pointer (some ⟨f0 j, 0, none⟩)] (wr.drewN m) fun e w'' => e = .returned (.bool true) ∧ ∃ m', w'' = wr.drewN m') := Lib.hid (fun m => by
                  have hfr := ((A7.out.kept ((Keep.refl [] wr).drewN m)).many.one j hjl).fr
                  rw [(R7.out.of j hjl).1] at hfr
                  exact (frame_done hfr).mono (fun e w'' h => ⟨by rw [h.1, e1], m, h.2.symm⟩))
                clear hrc e1 e2 e3
                go_wp2_with fail
                go_quiet (first | (go_at_call 32; exact HDONE.out _))
                go_wp2_with fail
                go_roundw
                case rel => exact ⟨j + 1, by go_num, by omega, K7.out.drewN _⟩
                case measure => simp [intOf]; omega
              · have hjl' : ¬ (j : Int) < (k : Int) := by omega
                have M7 := Lib.hid (A7.out.many.memRep (by omega))
                go_wp2_with fail
                with_reducible refine (word_words M7.out).mono ?_
                rintro _ w8 ⟨g8, cap8, rfl, ho8, hg8, hcap8, hk8⟩
                have d0 : w8.cell? ⟨g8, 0, none⟩ = some (.int .i64 (wrap64 (F + (k : Int)))) := ho8.cell 0 _ rfl
                have d1 : w8.cell? ⟨g8, 1, none⟩ = some (.int .i64 (wrap64 (F + (k : Int)))) := ho8.cell 1 _ rfl
                have d5 : w8.cell? ⟨g8, 5, none⟩ = some (.int .i64 (k : Int)) := ho8.cell 5 _ rfl
                have hq1 : (wrap64 (F + (k : Int)) == wrap64 (F + (k : Int))) = true := by simp
                have hq2 : ((k : Int) == (k : Int)) = true := by simp
                have K8 := Lib.hid ((A7.out.many.keep).trans hk8)
                clear ho8 hk8
                go_wp2_with fail
                go_ret
                exact ⟨rfl, K8.out⟩
end User
end Law03
end Go.Proofs.Ytkmamebaichboaa
