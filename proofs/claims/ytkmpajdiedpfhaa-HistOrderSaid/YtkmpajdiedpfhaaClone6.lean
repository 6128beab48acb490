/- The contract of Clone. No conditions but those stated. -/
import Derived.Test.YtkmpajdiedpfhaaClone5
import Derived.Deep.RegionLaw
import Derived.BigRegion
namespace Go.Proofs.Ytkmpajdiedpfhaa
open Go.ChangeShapes Go.WideShapes Go.ChangeAt Go.RowKit
set_option linter.unusedVariables false
set_option linter.unusedSimpArgs false
namespace Clone
open Same
theorem clone_part' {B : Nat → Prop} {w : World} {x : PartD} {v1 v2 : Value} (h : PartRep B w x [v1, v2]) (hx : smallP x) :
    Calls Try.prog 41 #[.agg #[v1, v2]] w fun e w' => ∃ a1 n1 c1 a2 n2 c2, e = .returned (.agg #[.slice a1 n1 c1, .slice a2 n2 c2]) ∧ PartRep (fun b => w.heap.size ≤ b) w' x [.slice a1 n1 c1, .slice a2 n2 c2] ∧ Keep [] w w' := by
  obtain ⟨_, _, e, h1, h2⟩ := h
  cases e
  refine (clone_part h1 h2 hx).mono ?_
  rintro e w' ⟨u1, u2, rfl, k1, k2, kk⟩
  obtain ⟨a1, c1, rfl⟩ := k1.form
  obtain ⟨a2, c2, rfl⟩ := k2.form
  exact ⟨_, _, _, _, _, _, rfl, ⟨_, _, rfl, k1, k2⟩, kk⟩
def put2 (w : World) (g o : Nat) (a b : Value) : World := (w.setCell ⟨g, o, none⟩ a).setCell ⟨g, o + 1, none⟩ b
theorem put2_row {w : World} {g : Nat} {T : TypeId} {f : Nat → List Value} {n k : Nat} {a b : Value} (h : OwnRow w g T (flatR f n)) (hf : ∀ i, i < n → (f i).length = 2) (hk : k < n) :
    OwnRow (put2 w g (k * 2) a b) g T (flatR (setF f k [a, b]) n) := by
  have h0 := put1_row (j := 0) (v := a) h hf hk (by decide)
  have l0 : ((f k).set 0 a).length = 2 := by rw [List.length_set]; exact hf k hk
  have h1 := put1_row (j := 1) (v := b) h0 (setF_len hf l0) hk (by decide)
  rw [setF_same, setF_twice] at h1
  have e6 : (((f k).set 0 a).set 1 b) = [a, b] := by
    match f k, hf k hk with
    | [_, _], _ => rfl
  rw [e6] at h1
  exact h1
theorem keep_put2 (w : World) (g o : Nat) (a b : Value) : Keep [g] w (put2 w g o a b) := ((Keep.refl [g] w).setCell (.inr (by simp)) _).setCell (.inr (by simp)) _
def ConfInv (w0 : World) (lo : Nat) (v : Value) (l : List PartD) (k : Nat) (wr : World) : Prop :=
  FreshMix lo wr 54 2 k (PartRep (Own lo v) wr) (PartRep (Old w0) wr) v l
theorem conf_step {w0 wr wz : World} {lo : Nat} {ao : Option Addr} {cap g i n : Nat} {l : List PartD} {t : PartD} {u1 u2 : Value} (hn : l.length = n) (hw : w0.heap.size ≤ lo) (hlo : lo ≤ wr.heap.size) (h : ConfInv w0 lo (.slice ao n cap) l i wr) (ht : l[i]? = some t) (ha : ao = some ⟨g, 0, none⟩)
    (kz : Keep [] wr wz) (hp : PartRep (fun b => wr.heap.size ≤ b) wz t [u1, u2]) : ConfInv w0 lo (.slice ao n cap) l (i + 1) (put2 wz g (i * 2) u1 u2) := by
  subst hn
  obtain ⟨ao', cap', e1, hle, hcm⟩ := FreshMix.form h
  cases e1
  obtain ⟨g', hg1, hg2, hm⟩ := FreshMix.row h ht
  rw [ha] at hg1
  cases hg1
  have hgl := hm.lt
  have h5 : Mix wz g 54 2 i (PartRep (Own lo (.slice ao l.length cap)) wr) (PartRep (Old w0) wr) l := hm.keep kz (by simp) (fun _ _ _ h => h) (fun _ _ _ h => h)
  have k56 : Keep [g] wz (put2 wz g (i * 2) u1 u2) := keep_put2 _ _ _ _ _
  have k6 : Keep [g] wr (put2 wz g (i * 2) u1 u2) := (kz.mono (fun _ h _ => by cases h)).trans k56
  have hB1 : ∀ b, Own lo (.slice ao l.length cap) b → b < wr.heap.size → (put2 wz g (i * 2) u1 u2).heap[b]? = wr.heap[b]? := fun b hb hl =>
    k6.block b hl (by simp; intro e; subst e; exact hb.2 (by rw [ha]; rfl))
  have hB2 : ∀ b, Old w0 b → b < wr.heap.size → (put2 wz g (i * 2) u1 u2).heap[b]? = wr.heap[b]? := fun b hb hl =>
    k6.block b hl (by simp; intro e; subst e; unfold Old at hb; omega)
  have hzz := kz.size
  have hmv : ∀ b, wr.heap.size ≤ b → b < wz.heap.size → (put2 wz g (i * 2) u1 u2).heap[b]? = wz.heap[b]? := fun b hb2 hl => k56.block b hl (by simp; intro e; subst e; omega)
  have hmo : ∀ b, wr.heap.size ≤ b → Own lo (.slice ao l.length cap) b := fun b hb2 => ⟨by omega, by rw [ha]; simp [Value.ownBlock]; omega⟩
  exact FreshMix.back ha hg2 hle hcm (h5.step ht (fun _ => [u1, u2]) (fun f ho hl => put2_row ho hl (List.getElem?_eq_some_iff.1 ht).1) (fun cs hcl hr => ⟨rfl, part_move k56.size hmv (fun b hb _ => hmo b hb) hp⟩)
    (fun x cs _ hx => part_move k6.size hB1 (fun _ h _ => h) hx) (fun x cs _ hx => part_move k6.size hB2 (fun _ h _ => h) hx))
theorem ConfInv.move {w0 wr wz : World} {lo b : Nat} {v : Value} {l : List PartD} {i : Nat} (h : ConfInv w0 lo v l i wr) (kk : Keep [b] wr wz) (h1 : w0.heap.size ≤ b) (h2 : b < lo) : ConfInv w0 lo v l i wz := by
  have hB1 : ∀ c, Own lo v c → c < wr.heap.size → wz.heap[c]? = wr.heap[c]? := fun c hc hl => kk.block c hl (by simp; intro e; subst e; have := hc.1; omega)
  have hB2 : ∀ c, Old w0 c → c < wr.heap.size → wz.heap[c]? = wr.heap[c]? := fun c hc hl => kk.block c hl (by simp; intro e; subst e; unfold Old at hc; omega)
  rcases h with h | ⟨g, cap, e1, hg, hle, hc, hr⟩
  · exact .inl h
  · exact .inr ⟨g, cap, e1, hg, hle, hc, hr.keep kk (by simp; omega) (fun x cs _ hx => part_move kk.size hB1 (fun _ h _ => h) hx) (fun x cs _ hx => part_move kk.size hB2 (fun _ h _ => h) hx)⟩
def smallF (x : ConfD) : Prop := x.parts.length ≤ 1000 ∧ x.wins.length ≤ 1000 ∧ x.chans.length ≤ 1000 ∧ ∀ p, p ∈ x.parts → smallP p
def ConfPost (w : World) (x : ConfD) (e : Ending) (w' : World) : Prop := ∃ v', e = .returned v' ∧ ConfRep (fun b => w.heap.size ≤ b) w' x v' ∧ Keep [] w w'
set_option maxHeartbeats 2000000 in
set_option maxRecDepth 100000 in
theorem clone_conf {B : Nat → Prop} {w : World} {x : ConfD} {v : Value} (h : ConfRep B w x v) (hx : smallF x) :
    Calls Try.prog 26 #[v] w (ConfPost w x) := by
  obtain ⟨ps, ws, cs⟩ := x
  obtain ⟨v1, v2, v3, rfl, h1, h2, h3⟩ := h
  obtain ⟨hb1, hb2, hb3, hb4⟩ := hx
  simp only at h1 h2 h3 hb1 hb2 hb3 hb4 ⊢
  have HB4 := Lib.hid hb4
  have KK : Hid (Keep [] w ((w.alloc (.cells #[v1, v2, v3] 26)).alloc (.cells #[.slice none 0 0, .slice none 0 0, .slice none 0 0] 26))) := Lib.hid (((Keep.refl _ _).alloc _).alloc _)
  have BX := Lib.hid (two_fst w (.cells #[v1, v2, v3] 26) (.cells #[.slice none 0 0, .slice none 0 0, .slice none 0 0] 26))
  have BY := Lib.hid (two_snd w (.cells #[v1, v2, v3] 26) (.cells #[.slice none 0 0, .slice none 0 0, .slice none 0 0] 26))
  have H1 := Lib.hid (sld_move (B' := Old w) (Rep' := PartRep (Old w) ((w.alloc (.cells #[v1, v2, v3] 26)).alloc (.cells #[.slice none 0 0, .slice none 0 0, .slice none 0 0] 26))) h1 KK.out.size (fun b _ hl => KK.out.block b hl (by simp)) (fun b _ hl => hl) (fun x cs _ hx => part_move KK.out.size (fun b _ hl => KK.out.block b hl (by simp)) (fun b _ hl => hl) hx))
  have H2 := Lib.hid (sld_move (B' := Old w) (Rep' := WinRep) h2 (Nat.le_refl _) (fun _ _ _ => rfl) (fun b _ hl => hl) (fun _ _ _ h => h))
  have H3 := Lib.hid (sld_move (B' := Old w) (Rep' := ChanRep) h3 (Nat.le_refl _) (fun _ _ _ => rfl) (fun b _ hl => hl) (fun _ _ _ h => h))
  clear h1 h2 h3 hb4
  go_enter Try.func26, Try.ntmps26
  go_wp2_with fail
  refine (cloneP_sl H1.out PartRep.one hb1).mono ?_
  rintro e w2 ⟨vt, rfl, hfr, k2⟩
  have K2 := Lib.hid (KK.out.trans k2)
  have X2 := Lib.hid (k2.to BX.out (by simp))
  have Y2 := Lib.hid (k2.to BY.out (by simp))
  have hz2 := k2.size
  have FI : Hid (ConfInv w (w.heap.size + 2) vt ps 0 w2) := Lib.hid (by
    have := FreshMix.start (Rep := PartRep (Own (w.heap.size + 2) vt) w2) hfr
    rcases this with h | ⟨g, cap, e1, hg, hle, hc, hr⟩
    · exact .inl h
    · exact .inr ⟨g, cap, e1, by simpa using hg, hle, hc, hr.keep (Keep.refl [] _) (by simp) (fun _ _ _ h => h) (fun x cs _ h => h.kept k2)⟩)
  obtain ⟨vo, vc, rfl, vle, vcm⟩ := FreshMix.form FI.out
  unfold maxLen at vcm
  simp only [World.size_alloc] at hz2
  clear k2 hfr
  obtain ⟨e0, e1, e2⟩ := cells3 X2.out
  have f0 := free_of (i := 0) X2.out
  have X3 := Lib.hid (block_set 0 (.slice vo ps.length vc) X2.out)
  have Y3 := Lib.hid (show (w2.setCell ⟨w.heap.size, 0, none⟩ (.slice vo ps.length vc)).heap[w.heap.size + 1]? = _ from Keep.to (keep_put1 w2 w.heap.size 0 (.slice vo ps.length vc)) Y2.out (by simp))
  have K3 : Hid (Keep [] w (w2.setCell ⟨w.heap.size, 0, none⟩ (.slice vo ps.length vc))) := Lib.hid (K2.out.transS (keep_put1 w2 w.heap.size 0 (.slice vo ps.length vc)) (T := []) (by simp) (by simp))
  have F3 := Lib.hid (FI.out.move (keep_put1 w2 w.heap.size 0 (.slice vo ps.length vc)) (Nat.le_refl _) (by omega))
  have Z3 : w.heap.size + 2 ≤ (w2.setCell ⟨w.heap.size, 0, none⟩ (.slice vo ps.length vc)).heap.size := by simp; omega
  generalize htn : ps.length = tn at *
  have Htn := Lib.hid htn
  clear htn
  go_wp2_with fail
  generalize w2.setCell ⟨w.heap.size, 0, none⟩ (.slice vo tn vc) = w3 at *
  have X3' : Hid (w3.heap[w.heap.size]? = some (.cells #[.slice vo tn vc, v2, v3] 26 (0, 0))) := X3
  clear X3 X2 Y2 K2 FI e0 e1 e2 f0 KK BX BY
  go_loopw [11] (fun c wr => ∃ k : Nat, c = .int .i64 k ∧ k ≤ tn ∧ w.heap.size + 2 ≤ wr.heap.size ∧ ConfInv w (w.heap.size + 2) (.slice vo tn vc) ps k wr ∧ Keep [] w wr ∧ wr.heap[w.heap.size]? = some (.cells #[.slice vo tn vc, v2, v3] 26 (0, 0)) ∧ wr.heap[w.heap.size + 1]? = some (.cells #[.slice none 0 0, .slice none 0 0, .slice none 0 0] 26 (0, 0))) (fun c _ => tn - (intOf c).toNat)
  case atStart => exact ⟨0, rfl, Nat.zero_le _, Z3, F3.out, K3.out, X3'.out, Y3.out⟩
  case round =>
    obtain ⟨i, rfl, hi, hz, hf, hk, hx, hy⟩ := hrel
    have HF := Lib.hid hf
    have HK := Lib.hid hk
    have HX := Lib.hid hx
    have HY := Lib.hid hy
    clear hf hk hx hy
    obtain ⟨e0, e1, e2⟩ := cells3 HX.out
    by_cases hil : i < tn
    · have hil' : (i : Int) < tn := by omega
      obtain ⟨t, ht⟩ := get_of Htn hil
      have HT := Lib.hid ht
      obtain ⟨g, rfl, hg, hm⟩ := FreshMix.row (cap := vc) (n := tn) HF.out ht
      obtain ⟨cs2, _, hc, hpr⟩ := hm.at_ ht
      have HPR' := hpr
      obtain ⟨p1, p2, rfl, _, _⟩ := hpr
      have HPR := Lib.hid (HPR'.kept (Keep.refl [] wr).drew)
      have HM := Lib.hid hm
      have g0 := hc 0 _ rfl
      have g1 := hc 1 _ rfl
      simp only [Nat.add_zero] at g0
      have HSM := Lib.hid (HB4.out t (List.mem_of_getElem? ht))
      have z0 := hm.free (i * 2)
      have z1 := hm.free (i * 2 + 1)
      clear hc hm HPR' ht
      go_upto_region 5 with fail
      go_region_law (first
          | (go_simp; go_at_call 41; ((with_reducible refine (clone_part' HPR.out HSM.out).mono ?_); rintro e w5 ⟨a1, n1, c1, a2, n2, c2, rfl, hpp, k5⟩; have K5 := Lib.hid ((Keep.refl [] wr).drew.trans k5); have HPP := Lib.hid hpp; clear k5 hpp; have y0 := cell_keep K5.out e0 (by simp); have y1 := cell_keep K5.out g0 (by simp); have y2 := cell_keep K5.out g1 (by simp); have y3 := (HM.out.keep K5.out (by simp) (fun _ _ _ h => h) (fun _ _ _ h => h)).free (i * 2); have y4 := (HM.out.keep K5.out (by simp) (fun _ _ _ h => h) (fun _ _ _ h => h)).free (i * 2 + 1))))
      all_goals
        go_wp2_with fail
        have kp := keep_put2 w5 g (i * 2) (.slice a1 n1 c1) (.slice a2 n2 c2)
        have hz5 := K5.out.size
        have hz6 := kp.size
        go_roundw
        case rel => exact ⟨i + 1, by go_num, by omega, by unfold put2 at hz6; omega, conf_step Htn.out (by omega) (by omega) HF.out HT.out rfl K5.out HPP.out, (HK.out.trans K5.out).transS kp (T := []) (by simp) (by simp; omega), kp.to (K5.out.to HX.out (by simp)) (by simp; omega), kp.to (K5.out.to HY.out (by simp)) (by simp; omega)⟩
        case measure => simp [intOf]; omega
    · have hie : i = tn := by omega
      have HS := Lib.hid (H2.out.keep (B' := Old w) HK.out.size (fun b hb hl => HK.out.block b hl (by simp)) (fun b hb => hb) (fun _ _ _ h => h))
      obtain ⟨qo, qc, rfl⟩ := HS.out.form
      go_wp2_with fail
      refine (cloneW_sl HS.out WinRep.one hb2).mono ?_
      rintro e w7 ⟨vv, rfl, hfr, k7⟩
      have hsl := hfr.sld
      obtain ⟨ro, rc, rfl⟩ := hsl.form
      have HV := Lib.hid hsl
      have HT := Lib.hid (FreshMix.done HF.out (by rw [Htn.out]; omega)).sld
      have K7 := Lib.hid k7
      have X7 := Lib.hid (k7.to HX.out (by simp))
      have Y7 := Lib.hid (k7.to HY.out (by simp))
      clear hfr k7 hsl e0 e1 e2
      have X8 := Lib.hid (show (w7.setCell ⟨w.heap.size, 1, none⟩ (.slice ro ws.length rc)).heap[w.heap.size]? = some (.cells #[.slice vo tn vc, .slice ro ws.length rc, v3] 26 (0, 0)) from block_set 1 (.slice ro ws.length rc) X7.out)
      have Y8 := Lib.hid (show (w7.setCell ⟨w.heap.size, 1, none⟩ (.slice ro ws.length rc)).heap[w.heap.size + 1]? = _ from Keep.to (keep_put1 w7 w.heap.size 1 (.slice ro ws.length rc)) Y7.out (by simp))
      have K8 := Lib.hid (keep_put1 w7 w.heap.size 1 (.slice ro ws.length rc))
      have KW8 := Lib.hid ((HK.out.trans K7.out).transS K8.out (T := []) (by simp) (by simp))
      obtain ⟨e0, e1, e2⟩ := cells3 X7.out
      have f1 := free_of (i := 1) X7.out
      obtain ⟨g0, g1, g2⟩ := cells3 X8.out
      have HS3 := Lib.hid (H3.out.keep (B' := Old w) KW8.out.size (fun b hb hl => KW8.out.block b hl (by simp)) (fun b hb => hb) (fun _ _ _ h => h))
      obtain ⟨tb, tc, rfl⟩ := HS3.out.form
      go_wp2_with fail
      clear e0 e1 e2 g0 g1 g2 f1
      generalize w7.setCell ⟨w.heap.size, 1, none⟩ (.slice ro ws.length rc) = w8 at *
      refine (cloneC_sl HS3.out ChanRep.one hb3).mono ?_
      rintro e w9 ⟨vx, rfl, hfr, k9⟩
      have hsl := hfr.sld
      obtain ⟨so, sc, rfl⟩ := hsl.form
      have HC := Lib.hid hsl
      have K9 := Lib.hid k9
      have X9 := Lib.hid (k9.to X8.out (by simp))
      have Y9 := Lib.hid (k9.to Y8.out (by simp))
      clear hfr k9 hsl
      have XA := Lib.hid (show (w9.setCell ⟨w.heap.size, 2, none⟩ (.slice so cs.length sc)).heap[w.heap.size]? = some (.cells #[.slice vo tn vc, .slice ro ws.length rc, .slice so cs.length sc] 26 (0, 0)) from block_set 2 (.slice so cs.length sc) X9.out)
      have YA := Lib.hid (show (w9.setCell ⟨w.heap.size, 2, none⟩ (.slice so cs.length sc)).heap[w.heap.size + 1]? = _ from Keep.to (keep_put1 w9 w.heap.size 2 (.slice so cs.length sc)) Y9.out (by simp))
      obtain ⟨e0, e1, e2⟩ := cells3 X9.out
      have f2 := free_of (i := 2) X9.out
      obtain ⟨g0, g1, g2⟩ := cells3 XA.out
      obtain ⟨m0, m1, m2⟩ := cells3 YA.out
      have n0 := free_of (i := 0) YA.out
      have n1 := free_of (i := 1) YA.out
      have n2 := free_of (i := 2) YA.out
      have HW : Hid (((((w9.setCell ⟨w.heap.size, 2, none⟩ (.slice so cs.length sc)).setCell ⟨w.heap.size + 1, 0, none⟩ (.slice vo tn vc)).setCell ⟨w.heap.size + 1, 1, none⟩ (.slice ro ws.length rc)).setCell ⟨w.heap.size + 1, 2, none⟩ (.slice so cs.length sc)).heap[w.heap.size + 1]? = some (.cells #[.slice vo tn vc, .slice ro ws.length rc, .slice so cs.length sc] 26 (0, 0))) :=
        Lib.hid (block_set 2 _ (block_set 1 _ (block_set 0 _ YA.out)))
      have HKF : Hid (Keep [w.heap.size, w.heap.size + 1] w9 ((((w9.setCell ⟨w.heap.size, 2, none⟩ (.slice so cs.length sc)).setCell ⟨w.heap.size + 1, 0, none⟩ (.slice vo tn vc)).setCell ⟨w.heap.size + 1, 1, none⟩ (.slice ro ws.length rc)).setCell ⟨w.heap.size + 1, 2, none⟩ (.slice so cs.length sc))) :=
        Lib.hid (((((Keep.refl _ w9).setCell (.inr (by simp)) _).setCell (.inr (by simp)) _).setCell (.inr (by simp)) _).setCell (.inr (by simp)) _)
      go_wp2_with fail
      generalize ((((w9.setCell ⟨w.heap.size, 2, none⟩ (.slice so cs.length sc)).setCell ⟨w.heap.size + 1, 0, none⟩ (.slice vo tn vc)).setCell ⟨w.heap.size + 1, 1, none⟩ (.slice ro ws.length rc)).setCell ⟨w.heap.size + 1, 2, none⟩ (.slice so cs.length sc)) = wF at *
      obtain ⟨z0, z1, z2⟩ := cells3 HW.out
      have hs7 := K7.out.size
      have hs8 := K8.out.size
      have hs9 := K9.out.size
      have hsF := HKF.out.size
      have mv9 : ∀ b, w.heap.size + 2 ≤ b → b < w9.heap.size → wF.heap[b]? = w9.heap[b]? := fun b hb hl => HKF.out.block b hl (by simp; omega)
      have mv8 : ∀ b, w.heap.size + 2 ≤ b → b < w8.heap.size → wF.heap[b]? = w8.heap[b]? := fun b hb hl => (mv9 b hb (by omega)).trans (K9.out.block b hl (by simp))
      have mv7 : ∀ b, w.heap.size + 2 ≤ b → b < w7.heap.size → wF.heap[b]? = w7.heap[b]? := fun b hb hl => (mv8 b hb (by omega)).trans (K8.out.block b hl (by simp; omega))
      have mvr : ∀ b, w.heap.size + 2 ≤ b → b < wr.heap.size → wF.heap[b]? = wr.heap[b]? := fun b hb hl => (mv7 b hb (by omega)).trans (K7.out.block b hl (by simp))
      refine bodyPost_ret (v := .agg #[.slice vo tn vc, .slice ro ws.length rc, .slice so cs.length sc]) (by simp [results, Try.results26, go_sem, z0, z1, z2]) rfl
        ⟨_, rfl, ⟨_, _, _, rfl, sld_move HT.out (by omega) mvr (fun b hb _ => by omega) (fun x cs _ h => part_move (by omega) (fun b hb hl => mvr b hb.1 hl) (fun b hb _ => by have := hb.1; omega) h), sld_move HV.out (by omega) (fun b hb hl => mv7 b (by omega) hl) (fun b hb _ => by omega) (fun _ _ _ h => h), sld_move HC.out (by omega) (fun b hb hl => mv9 b (by omega) hl) (fun b hb _ => by omega) (fun _ _ _ h => h)⟩, (KW8.out.trans K9.out).transS HKF.out (T := []) (by simp) (by simp)⟩
end Clone
end Go.Proofs.Ytkmpajdiedpfhaa
