/- The contract of ClonePart. No conditions but those stated. -/
import Derived.Test.YtkmpajdiedpfhaaClone4
namespace Go.Proofs.Ytkmpajdiedpfhaa
open Go.ChangeShapes Go.WideShapes Go.ChangeAt Go.RowKit
set_option linter.unusedVariables false
set_option linter.unusedSimpArgs false
namespace Clone
open Same
/-- The loop over the threads: they have their programs in new memory up to the k-th. -/
def PartInv (w0 : World) (lo : Nat) (v : Value) (l : List ThreadD) (k : Nat) (wr : World) : Prop :=
  FreshMix lo wr 58 4 k (ThreadRep (Own lo v) wr) (ThreadRep (Old w0) wr) v l
theorem part_step {w0 wr wz : World} {lo : Nat} {ao : Option Addr} {cap g i : Nat} {l : List ThreadD} {t : ThreadD} {pv : Value} (hw : w0.heap.size ≤ lo) (hlo : lo ≤ wr.heap.size) (h : PartInv w0 lo (.slice ao l.length cap) l i wr) (ht : l[i]? = some t) (ha : ao = some ⟨g, 0, none⟩)
    (kz : Keep [] wr wz) (hp : FreshSl wr.heap.size wz 42 6 (CallRep (Own wr.heap.size pv) wz) pv t.prog) : PartInv w0 lo (.slice ao l.length cap) l (i + 1) (wz.setCell ⟨g, i * 4 + 3, none⟩ pv) := by
  obtain ⟨ao', cap', e1, hle, hcm⟩ := FreshMix.form h
  cases e1
  obtain ⟨g', hg1, hg2, hm⟩ := FreshMix.row h ht
  rw [ha] at hg1
  cases hg1
  have hgl := hm.lt
  have h5 : Mix wz g 58 4 i (ThreadRep (Own lo (.slice ao l.length cap)) wr) (ThreadRep (Old w0) wr) l := hm.keep kz (by simp) (fun _ _ _ h => h) (fun _ _ _ h => h)
  have k6 : Keep [g] wr (wz.setCell ⟨g, i * 4 + 3, none⟩ pv) := (kz.mono (fun _ h _ => by cases h)).setCell (.inr (by simp)) _
  have k56 : Keep [g] wz (wz.setCell ⟨g, i * 4 + 3, none⟩ pv) := (Keep.refl _ _).setCell (.inr (by simp)) _
  have hB1 : ∀ b, Own lo (.slice ao l.length cap) b → b < wr.heap.size → (wz.setCell ⟨g, i * 4 + 3, none⟩ pv).heap[b]? = wr.heap[b]? := fun b hb hl =>
    k6.block b hl (by simp; intro e; subst e; exact hb.2 (by rw [ha]; rfl))
  have hB2 : ∀ b, Old w0 b → b < wr.heap.size → (wz.setCell ⟨g, i * 4 + 3, none⟩ pv).heap[b]? = wr.heap[b]? := fun b hb hl =>
    k6.block b hl (by simp; intro e; subst e; unfold Old at hb; omega)
  have hsl := hp.sld
  have hzz := kz.size
  refine FreshMix.back ha hg2 hle hcm (h5.step ht (fun cs => cs.set 3 pv) (fun f ho hl => put1_row ho hl (List.getElem?_eq_some_iff.1 ht).1 (by decide)) (fun cs hcl hr => ⟨by rw [List.length_set]; exact hcl, ?_⟩)
    (fun x cs _ hx => thread_move k6.size hB1 (fun _ h _ => h) hx) (fun x cs _ hx => thread_move k6.size hB2 (fun _ h _ => h) hx))
  obtain ⟨v, rfl, c1, c2, _, hb⟩ := hr
  have hmv : ∀ b, wr.heap.size ≤ b → b < wz.heap.size → (wz.setCell ⟨g, i * 4 + 3, none⟩ pv).heap[b]? = wz.heap[b]? := fun b hb2 hl => k56.block b hl (by simp; intro e; subst e; omega)
  have hmo : ∀ b, wr.heap.size ≤ b → Own lo (.slice ao l.length cap) b := fun b hb2 => ⟨by omega, by rw [ha]; simp [Value.ownBlock]; omega⟩
  exact ⟨pv, rfl, c1, c2, sld_move hsl k56.size hmv (fun b hb2 _ => hmo b hb2) (fun x cs _ hx => call_move k56.size (fun b hb2 hl => hmv b hb2.1 hl) (fun b hb2 _ => hmo b hb2.1) hx), hb⟩
theorem PartInv.move {w0 wr wz : World} {lo b : Nat} {v : Value} {l : List ThreadD} {i : Nat} (h : PartInv w0 lo v l i wr) (kk : Keep [b] wr wz) (h1 : w0.heap.size ≤ b) (h2 : b < lo) : PartInv w0 lo v l i wz := by
  have hB1 : ∀ c, Own lo v c → c < wr.heap.size → wz.heap[c]? = wr.heap[c]? := fun c hc hl => kk.block c hl (by simp; intro e; subst e; have := hc.1; omega)
  have hB2 : ∀ c, Old w0 c → c < wr.heap.size → wz.heap[c]? = wr.heap[c]? := fun c hc hl => kk.block c hl (by simp; intro e; subst e; unfold Old at hc; omega)
  rcases h with h | ⟨g, cap, e1, hg, hle, hc, hr⟩
  · exact .inl h
  · exact .inr ⟨g, cap, e1, hg, hle, hc, hr.keep kk (by simp; omega) (fun x cs _ hx => thread_move kk.size hB1 (fun _ h _ => h) hx) (fun x cs _ hx => thread_move kk.size hB2 (fun _ h _ => h) hx)⟩
theorem prog_step' {w0 wo wr w5 : World} {ao : Option Addr} {cap g k n : Nat} {l : List CallD} {c : CallD} {u : Value} (hn : l.length = n) (hw : w0.heap.size ≤ wo.heap.size) (h : ProgInv w0 wo (.slice ao n cap) l k wr) (hc : l[k]? = some c) (ha : ao = some ⟨g, 0, none⟩)
    (k5 : Keep [] wr w5) (hu : SlD (fun b => wr.heap.size ≤ b) w5 1 WordRep u c.words) : ProgInv w0 wo (.slice ao n cap) l (k + 1) (put6 w5 g (k * 6) (.int .i64 c.k) (.int .i64 c.h) (.int .i64 c.a) (.int .i64 c.b) u (.int .i64 c.t)) := by
  subst hn
  exact prog_step hw h hc ha k5 hu
theorem part_step' {w0 wr wz : World} {lo : Nat} {ao : Option Addr} {cap g i n : Nat} {l : List ThreadD} {t : ThreadD} {pv : Value} (hn : l.length = n) (hw : w0.heap.size ≤ lo) (hlo : lo ≤ wr.heap.size) (h : PartInv w0 lo (.slice ao n cap) l i wr) (ht : l[i]? = some t) (ha : ao = some ⟨g, 0, none⟩)
    (hp : ProgInv w0 wr pv t.prog t.prog.length wz) : PartInv w0 lo (.slice ao n cap) l (i + 1) (wz.setCell ⟨g, i * 4 + 3, none⟩ pv) := by
  subst hn
  exact part_step hw hlo h ht ha hp.2 (FreshMix.done hp.1 (Nat.le_refl _))
theorem prog_free {w0 wo wr w5 : World} {l : List CallD} {g k : Nat} {n cap : Nat} (h : ProgInv w0 wo (.slice (some ⟨g, 0, none⟩) n cap) l k wr) {c : CallD} (hc : l[k]? = some c) (k5 : Keep [] wr w5) : ∀ i : Nat, w5.frozen? ⟨g, i, none⟩ = false := by
  obtain ⟨g', e, _, hm⟩ := FreshMix.row h.1 hc
  cases e
  exact (hm.keep k5 (by simp) (fun _ _ _ h => h) (fun _ _ _ h => h)).free
theorem part_free {w0 wo wr : World} {lo g i n cap : Nat} {l : List ThreadD} (h : PartInv w0 lo (.slice (some ⟨g, 0, none⟩) n cap) l i wo) {t : ThreadD} (hc : l[i]? = some t) (k5 : Keep [] wo wr) : ∀ i : Nat, wr.frozen? ⟨g, i, none⟩ = false := by
  obtain ⟨g', e, _, hm⟩ := FreshMix.row h hc
  cases e
  exact (hm.keep k5 (by simp) (fun _ _ _ h => h) (fun _ _ _ h => h)).free
theorem keep_put1 (w : World) (b i : Nat) (v : Value) : Keep [b] w (w.setCell ⟨b, i, none⟩ v) := (Keep.refl [b] w).setCell (.inr (by simp)) v
def PartPost (w : World) (x : PartD) (e : Ending) (w' : World) : Prop := ∃ v1 v2, e = .returned (.agg #[v1, v2]) ∧ SlD (fun b => w.heap.size ≤ b) w' 4 (ThreadRep (fun b => w.heap.size ≤ b) w') v1 x.threads ∧ SlD (fun b => w.heap.size ≤ b) w' 3 ObjRep v2 x.objs ∧ Keep [] w w'
set_option maxHeartbeats 1000000 in
set_option maxRecDepth 100000 in
theorem clone_part {B : Nat → Prop} {w : World} {x : PartD} {v1 v2 : Value} (h1 : SlD B w 4 (ThreadRep B w) v1 x.threads) (h2 : SlD B w 3 ObjRep v2 x.objs) (hx : smallP x) :
    Calls Try.prog 41 #[.agg #[v1, v2]] w (PartPost w x) := by
  obtain ⟨ts, os⟩ := x
  obtain ⟨hb1, hb2, hb3⟩ := hx
  simp only at h1 h2 hb1 hb2 hb3 ⊢
  have HB3 := Lib.hid hb3
  have KK : Hid (Keep [] w ((w.alloc (.cells #[v1, v2] 54)).alloc (.cells #[.slice none 0 0, .slice none 0 0] 54))) := Lib.hid (((Keep.refl _ _).alloc _).alloc _)
  have BX := Lib.hid (two_fst w (.cells #[v1, v2] 54) (.cells #[.slice none 0 0, .slice none 0 0] 54))
  have BY := Lib.hid (two_snd w (.cells #[v1, v2] 54) (.cells #[.slice none 0 0, .slice none 0 0] 54))
  have H1 := Lib.hid (sld_move (B' := Old w) (Rep' := ThreadRep (Old w) ((w.alloc (.cells #[v1, v2] 54)).alloc (.cells #[.slice none 0 0, .slice none 0 0] 54))) h1 KK.out.size (fun b _ hl => KK.out.block b hl (by simp)) (fun b _ hl => hl) (fun x cs _ hx => thread_move KK.out.size (fun b _ hl => KK.out.block b hl (by simp)) (fun b _ hl => hl) hx))
  have H2 := Lib.hid (sld_move (B' := Old w) (Rep' := ObjRep) h2 (Nat.le_refl _) (fun _ _ _ => rfl) (fun b _ hl => hl) (fun _ _ _ h => h))
  clear h1 h2 hb3
  go_enter Try.func41, Try.ntmps41
  go_wp2_with fail
  refine (cloneT_sl H1.out ThreadRep.one hb1).mono ?_
  rintro e w2 ⟨vt, rfl, hfr, k2⟩
  have K2 := Lib.hid (KK.out.trans k2)
  have X2 := Lib.hid (k2.to BX.out (by simp))
  have Y2 := Lib.hid (k2.to BY.out (by simp))
  have hz2 := k2.size
  have FI : Hid (PartInv w (w.heap.size + 2) vt ts 0 w2) := Lib.hid (by
    have := FreshMix.start (Rep := ThreadRep (Own (w.heap.size + 2) vt) w2) hfr
    rcases this with h | ⟨g, cap, e1, hg, hle, hc, hr⟩
    · exact .inl h
    · exact .inr ⟨g, cap, e1, by simpa using hg, hle, hc, hr.keep (Keep.refl [] _) (by simp) (fun _ _ _ h => h) (fun x cs _ h => h.kept k2)⟩)
  obtain ⟨vo, vc, rfl, vle, vcm⟩ := FreshMix.form FI.out
  unfold maxLen at vcm
  simp only [World.size_alloc] at hz2
  clear k2 hfr
  obtain ⟨e0, e1⟩ := cells2 X2.out
  have f0 := free_of (i := 0) X2.out
  have X3 := Lib.hid (block_set 0 (.slice vo ts.length vc) X2.out)
  have Y3 := Lib.hid (show (w2.setCell ⟨w.heap.size, 0, none⟩ (.slice vo ts.length vc)).heap[w.heap.size + 1]? = _ from Keep.to (keep_put1 w2 w.heap.size 0 (.slice vo ts.length vc)) Y2.out (by simp))
  have K3 : Hid (Keep [] w (w2.setCell ⟨w.heap.size, 0, none⟩ (.slice vo ts.length vc))) := Lib.hid (K2.out.transS (keep_put1 w2 w.heap.size 0 (.slice vo ts.length vc)) (T := []) (by simp) (by simp))
  have F3 := Lib.hid (FI.out.move (keep_put1 w2 w.heap.size 0 (.slice vo ts.length vc)) (Nat.le_refl _) (by omega))
  have Z3 : w.heap.size + 2 ≤ (w2.setCell ⟨w.heap.size, 0, none⟩ (.slice vo ts.length vc)).heap.size := by simp; omega
  generalize htn : ts.length = tn at *
  have Htn := Lib.hid htn
  clear htn
  go_wp2_with fail
  generalize w2.setCell ⟨w.heap.size, 0, none⟩ (.slice vo tn vc) = w3 at *
  have X3' : Hid (w3.heap[w.heap.size]? = some (.cells #[.slice vo tn vc, v2] 54 (0, 0))) := X3
  clear X3 X2 Y2 K2 FI e0 e1 f0 KK BX BY
  go_loopw [13] (fun c wr => ∃ k : Nat, c = .int .i64 k ∧ k ≤ tn ∧ w.heap.size + 2 ≤ wr.heap.size ∧ PartInv w (w.heap.size + 2) (.slice vo tn vc) ts k wr ∧ Keep [] w wr ∧ wr.heap[w.heap.size]? = some (.cells #[.slice vo tn vc, v2] 54 (0, 0)) ∧ wr.heap[w.heap.size + 1]? = some (.cells #[.slice none 0 0, .slice none 0 0] 54 (0, 0))) (fun c _ => tn - (intOf c).toNat)
  case atStart => exact ⟨0, rfl, Nat.zero_le _, Z3, F3.out, K3.out, X3'.out, Y3.out⟩
  case round =>
    obtain ⟨i, rfl, hi, hz, hf, hk, hx, hy⟩ := hrel
    have HF := Lib.hid hf
    have HK := Lib.hid hk
    have HX := Lib.hid hx
    have HY := Lib.hid hy
    clear hf hk hx hy
    obtain ⟨e0, e1⟩ := cells2 HX.out
    by_cases hil : i < tn
    · have hil' : (i : Int) < tn := by omega
      obtain ⟨t, ht⟩ := get_of Htn hil
      have HT := Lib.hid ht
      obtain ⟨g, rfl, hg, hm⟩ := FreshMix.row (cap := vc) (n := tn) HF.out ht
      obtain ⟨cs, _, hc, pv, rfl, _, _, hpg, _⟩ := hm.at_ ht
      have g3 := hc 3 _ rfl
      have HPG := Lib.hid hpg
      have hsm := HB3.out t (List.mem_of_getElem? ht)
      have HSM := Lib.hid hsm.2
      have hln := hsm.1
      clear hc hpg hm hsm ht
      obtain ⟨qo, qc, rfl⟩ := HPG.out.form
      go_wp2_with fail
      refine (cloneCl_sl HPG.out CallRep.one hln).mono ?_
      rintro e w5 ⟨pv, rfl, hfr, k5⟩
      have PI : Hid (ProgInv w wr pv t.prog 0 w5) := Lib.hid ⟨by
        rcases FreshMix.start (Rep := CallRep (Own wr.heap.size pv) w5) hfr with h | ⟨g, cap, e1, hg, hle, hc, hr⟩
        · exact .inl h
        · exact .inr ⟨g, cap, e1, hg, hle, hc, hr.keep (Keep.refl [] _) (by simp) (fun _ _ _ h => h) (fun x cs _ h => h.kept k5)⟩, k5⟩
      obtain ⟨po, pc, rfl, ple, pcm⟩ := FreshMix.form PI.out.1
      unfold maxLen at pcm
      have G3 := Lib.hid g3
      clear hfr k5 e0 e1 g3
      generalize hpn : t.prog.length = pn at *
      have Hpn := Lib.hid hpn
      clear hpn
      go_wp2_with fail
      obtain ⟨wo, rfl⟩ : ∃ wo : World, wo = wr := ⟨_, rfl⟩
      go_loopw [25] (fun c wz => ∃ k : Nat, c = .int .i64 k ∧ k ≤ pn ∧ ProgInv w wo (.slice po pn pc) t.prog k wz) (fun c _ => pn - (intOf c).toNat)
      case atStart => exact ⟨0, rfl, Nat.zero_le _, PI.out⟩
      case round =>
        obtain ⟨k, rfl, hk, hp⟩ := hrel
        have HP := Lib.hid hp
        clear hp
        by_cases hkl : k < pn
        · have hkl' : (k : Int) < pn := by omega
          obtain ⟨c, hc0⟩ := get_of Hpn hkl
          have HC := Lib.hid hc0
          obtain ⟨g2, rfl, hg2, hm⟩ := FreshMix.row (cap := pc) (n := pn) HP.out.1 hc0
          obtain ⟨cs, _, hc, wv, rfl, hwv, _⟩ := hm.at_ hc0
          have HW := Lib.hid hwv
          have m0 := hc 0 _ rfl
          have m1 := hc 1 _ rfl
          have m2 := hc 2 _ rfl
          have m3 := hc 3 _ rfl
          have m4 := hc 4 _ rfl
          have m5 := hc 5 _ rfl
          simp only [Nat.add_zero] at m0
          have hwl := HSM.out c (List.mem_of_getElem? hc0)
          clear hc hm hwv hc0
          go_wp2_with fail
          refine (clone_call HW.out hwl).mono ?_
          rintro e w6 ⟨u, rfl, hu, k6⟩
          have K6 := Lib.hid k6
          have HU := Lib.hid hu
          have HFx := Lib.hid (prog_free HP.out HC.out k6)
          obtain ⟨uo, uc, rfl⟩ := HU.out.form
          have z0 := HFx.out (k * 6)
          have z1 := HFx.out (k * 6 + 1)
          have z2 := HFx.out (k * 6 + 2)
          have z3 := HFx.out (k * 6 + 3)
          have z4 := HFx.out (k * 6 + 4)
          have z5 := HFx.out (k * 6 + 5)
          have y0 := cell_keep k6 m0 (by simp)
          have y1 := cell_keep k6 m1 (by simp)
          have y2 := cell_keep k6 m2 (by simp)
          have y3 := cell_keep k6 m3 (by simp)
          have y4 := cell_keep k6 m4 (by simp)
          have y5 := cell_keep k6 m5 (by simp)
          clear k6 hu m0 m1 m2 m3 m4 m5
          go_wp2_with fail
          go_roundw
          case rel => exact ⟨k + 1, by go_num, by omega, prog_step' Hpn.out (by omega) HP.out HC.out rfl K6.out HU.out⟩
          case measure => simp [intOf]; omega
        · have hke : k = pn := by omega
          subst hke
          have HX3 := Lib.hid (HP.out.2.to HX.out (by simp))
          have HY3 := Lib.hid (HP.out.2.to HY.out (by simp))
          obtain ⟨e0, e1⟩ := cells2 HX3.out
          have f3 := part_free HF.out HT.out HP.out.2 (i * 4 + 3)
          have g3 := cell_keep HP.out.2 G3.out (by simp)
          have hz3 := HP.out.2.size
          have hgz := World.block_lt_of_cell? _ _ G3.out
          simp only at hgz
          go_wp2_with fail
          go_roundw
          case rel =>
            have kp := keep_put1 wr g (i * 4 + 3) (.slice po k pc)
            exact ⟨i + 1, by go_num, by omega, by have := kp.size; omega, part_step' Htn.out (by omega) (by omega) HF.out HT.out rfl (by rw [Hpn.out]; exact HP.out), (HK.out.trans HP.out.2).transS kp (T := []) (by simp) (by simp; have := HK.out.size; omega), kp.to HX3.out (by simp; omega), kp.to HY3.out (by simp; omega)⟩
          case measure => simp [intOf]; omega
    · have hie : i = tn := by omega
      have HS := Lib.hid (H2.out.keep (B' := Old w) HK.out.size (fun b hb hl => HK.out.block b hl (by simp)) (fun b hb => hb) (fun _ _ _ h => h))
      obtain ⟨qo, qc, rfl⟩ := HS.out.form
      go_wp2_with fail
      refine (cloneO_sl HS.out ObjRep.one hb2).mono ?_
      rintro e w7 ⟨vv, rfl, hfr, k7⟩
      have hsl := hfr.sld
      obtain ⟨ro, rc, rfl⟩ := hsl.form
      have HV := Lib.hid hsl
      have HT := Lib.hid (FreshMix.done HF.out (by rw [Htn.out]; omega)).sld
      have K7 := Lib.hid k7
      have X7 := Lib.hid (k7.to HX.out (by simp))
      have Y7 := Lib.hid (k7.to HY.out (by simp))
      clear hfr k7 hsl e0 e1
      have X8 := Lib.hid (block_set 1 (.slice ro os.length rc) X7.out)
      have Y8 := Lib.hid (show (w7.setCell ⟨w.heap.size, 1, none⟩ (.slice ro os.length rc)).heap[w.heap.size + 1]? = _ from Keep.to (keep_put1 w7 w.heap.size 1 (.slice ro os.length rc)) Y7.out (by simp))
      obtain ⟨e0, e1⟩ := cells2 X7.out
      have f1 := free_of (i := 1) X7.out
      obtain ⟨g0, g1⟩ := cells2 (show (w7.setCell ⟨w.heap.size, 1, none⟩ (.slice ro os.length rc)).heap[w.heap.size]? = some (.cells #[.slice vo tn vc, .slice ro os.length rc] 54 (0, 0)) from X8.out)
      obtain ⟨m0, m1⟩ := cells2 Y8.out
      have n0 := free_of (i := 0) Y8.out
      have n1 := free_of (i := 1) Y8.out
      have HW : Hid ((((w7.setCell ⟨w.heap.size, 1, none⟩ (.slice ro os.length rc)).setCell ⟨w.heap.size + 1, 0, none⟩ (.slice vo tn vc)).setCell ⟨w.heap.size + 1, 1, none⟩ (.slice ro os.length rc)).heap[w.heap.size + 1]? = some (.cells #[.slice vo tn vc, .slice ro os.length rc] 54 (0, 0))) :=
        Lib.hid (block_set 1 _ (block_set 0 _ Y8.out))
      have HKF : Hid (Keep [w.heap.size, w.heap.size + 1] w7 (((w7.setCell ⟨w.heap.size, 1, none⟩ (.slice ro os.length rc)).setCell ⟨w.heap.size + 1, 0, none⟩ (.slice vo tn vc)).setCell ⟨w.heap.size + 1, 1, none⟩ (.slice ro os.length rc))) :=
        Lib.hid ((((Keep.refl _ w7).setCell (.inr (by simp)) _).setCell (.inr (by simp)) _).setCell (.inr (by simp)) _)
      go_wp2_with fail
      generalize (((w7.setCell ⟨w.heap.size, 1, none⟩ (.slice ro os.length rc)).setCell ⟨w.heap.size + 1, 0, none⟩ (.slice vo tn vc)).setCell ⟨w.heap.size + 1, 1, none⟩ (.slice ro os.length rc)) = wF at *
      obtain ⟨z0, z1⟩ := cells2 HW.out
      have hs7 := K7.out.size
      have hmv : ∀ b, w.heap.size + 2 ≤ b → b < w7.heap.size → wF.heap[b]? = w7.heap[b]? := fun b hb hl => HKF.out.block b hl (by simp; omega)
      have hmv2 : ∀ b, w.heap.size + 2 ≤ b → b < wr.heap.size → wF.heap[b]? = wr.heap[b]? := fun b hb hl => (hmv b hb (by omega)).trans (K7.out.block b hl (by simp))
      refine bodyPost_ret (v := .agg #[.slice vo tn vc, .slice ro os.length rc]) (by simp [results, Try.results41, go_sem, z0, z1]) rfl
        ⟨_, _, rfl, sld_move HT.out (by have := HKF.out.size; omega) hmv2 (fun b hb _ => by omega) (fun x cs _ h => thread_move (by have := HKF.out.size; omega) (fun b hb hl => hmv2 b hb.1 hl) (fun b hb _ => by have := hb.1; omega) h), sld_move HV.out HKF.out.size (fun b hb hl => hmv b (by omega) hl) (fun b hb _ => by omega) (fun _ _ _ h => h), (HK.out.trans K7.out).transS HKF.out (T := []) (by simp) (by simp)⟩
end Clone
end Go.Proofs.Ytkmpajdiedpfhaa
