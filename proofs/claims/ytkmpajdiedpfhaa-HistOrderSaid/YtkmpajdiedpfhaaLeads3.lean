/- The contracts of the two searches over channels. No conditions but those stated. -/
import Derived.Test.YtkmpajdiedpfhaaLeads2
import Derived.BigRegion
import Derived.Deep.RegionHeld3
namespace Go.Proofs.Ytkmpajdiedpfhaa
open Go.ChangeShapes Go.WideShapes Go.ChangeAt Go.RowKit
set_option linter.unusedVariables false
set_option linter.unusedSimpArgs false
open Leads
def chL (l : List ChanD) : Ch := l.map (fun c => (c.src, c.dst))
theorem ref_has {w : World} {g o cap : Nat} (R : List Int) (n : Int) (hle : R.length ≤ cap) (hm : cap ≤ maxLen) (hc : ∀ (j : Nat) (x : Int), R[j]? = some x → w.cell? ⟨g, o + j, none⟩ = some (.int .i64 x)) :
    Calls Try.prog 30 #[.slice (some ⟨g, o, none⟩) R.length cap, .int .i64 n] w fun e w' => e = .returned (.bool (decide (n ∈ R))) ∧ w = w' := by
  unfold maxLen at hm
  have HC := Lib.hid hc
  clear hc
  generalize hl : R.length = l at *
  have HL := Lib.hid hl
  clear hl
  go_enter Try.func30, Try.ntmps30
  go_wp2_with fail
  go_loop [8] (fun c => ∃ i : Nat, c = .int .i64 i ∧ i ≤ l ∧ n ∉ R.take i) (fun c => l - (intOf c).toNat)
  case atStart => exact ⟨0, rfl, Nat.zero_le _, by simp⟩
  case round =>
    obtain ⟨i, rfl, hi, hno⟩ := hrel
    by_cases hlt : i < l
    · have hlt' : (i : Int) < l := by omega
      obtain ⟨x, hx⟩ := get_of HL hlt
      have c1 := HC.out i x hx
      have HX := Lib.hid hx
      have HN := Lib.hid hno
      clear hx hno
      by_cases hq : x = n
      · subst hq
        have he : Hid (decide (x ∈ R) = true) := Lib.hid (by simpa using List.mem_of_getElem? HX.out)
        go_wp2_with fail
        go_ret
        exact ⟨ret_bool he.out.symm, rfl⟩
      · have hd : (x == n) = false := by simpa using hq
        go_wp2_with fail
        go_round
        case rel => exact ⟨i + 1, by go_num, by omega, by
          have h1 := HX.out
          have h2 := HN.out
          rw [List.take_add_one, h1]
          simp only [Option.toList_some, List.mem_append, List.mem_singleton, not_or]
          exact ⟨h2, fun e => hq e.symm⟩⟩
        case measure => simp [intOf]; omega
    · have he : Hid (decide (n ∈ R) = false) := Lib.hid (by
        rw [List.take_of_length_le (by rw [HL.out]; omega)] at hno
        simpa using hno)
      clear hno
      go_wp2_with fail
      go_ret
      exact ⟨ret_bool he.out.symm, rfl⟩
theorem quiet_eq {P : Program} {f : FuncId} {args : Array Value} {w : World} {n : Nat} {v : Value}
    (h : Calls P f args (w.drewN n) fun e w' => e = .returned v ∧ w.drewN n = w') : Calls P f args (w.drewN n) fun e w'' => e = .returned v ∧ ∃ m, w'' = w.drewN m :=
  h.mono fun _ _ ⟨he, hm⟩ => ⟨he, n, hm.symm⟩
theorem cells4 {w : World} {g : Nat} {T : TypeId} {v0 v1 v2 v3 : Value} (h : w.heap[g]? = some (.cells #[v0, v1, v2, v3] T (0, 0))) : w.cell? ⟨g, 0, none⟩ = some v0 ∧ w.cell? ⟨g, 1, none⟩ = some v1 ∧ w.cell? ⟨g, 2, none⟩ = some v2 ∧ w.cell? ⟨g, 3, none⟩ = some v3 := ⟨cell_of h rfl, cell_of h rfl, cell_of h rfl, cell_of h rfl⟩
theorem ref_has' {w : World} {g o cap : Nat} (R : List Int) (n : Int) (hle : R.length ≤ cap) (hm : cap ≤ maxLen) (hc : ∀ (j : Nat) (x : Int), R[j]? = some x → w.cell? ⟨g, o + j, none⟩ = some (.int .i64 x)) {bb : Bool} (hb : decide (n ∈ R) = bb) :
    Calls Try.prog 30 #[.slice (some ⟨g, o, none⟩) R.length cap, .int .i64 n] w fun e w' => e = .returned (.bool bb) ∧ w = w' := by rw [← hb]; exact ref_has R n hle hm hc
theorem infoInt : (Try.prog.info? 3).map (fun i => (i.zero, i.size, i.bytes)) = some (some (.int .i64 0), 1, 8) := by kernel_rfl
/-- The ints that were reached lie so. -/
def Ints (w : World) (base : Nat) (v : Value) (R : List Int) : Prop := Qu w base 3 1 v R.length (R.map (Value.int .i64))
theorem Ints.open_ {w : World} {base : Nat} {v : Value} {R : List Int} (h : Ints w base v R) : ∃ g o cap, v = .slice (some ⟨g, o, none⟩) R.length cap ∧ base ≤ g ∧ R.length ≤ cap ∧ cap ≤ maxLen ∧ ∀ (j : Nat) (x : Int), R[j]? = some x → w.cell? ⟨g, o + j, none⟩ = some (.int .i64 x) := by
  obtain ⟨g, o, cap, e, hb, _, hn, hc, _, hx⟩ := h
  exact ⟨g, o, cap, e, hb, hn, hc, fun j x hj => hx j _ (by rw [List.getElem?_map, hj]; rfl)⟩
theorem Ints.keep0 {w w' : World} {base : Nat} {v : Value} {R : List Int} (h : Ints w base v R) (k : Keep [] w w') : Ints w' base v R := Qu.keep0 h k
theorem scan_len (x : Int) (l : List ChanD) (R : List Int) (k : Nat) : (scan x ((chL l).take k) R).length ≤ R.length + k := by
  induction k with
  | zero => simp [scan]
  | succ k ih =>
    by_cases hk : k < (chL l).length
    · rw [scan_take_succ _ _ _ _ hk]
      unfold step1
      split
      · simp; omega
      · omega
    · rw [List.take_of_length_le (by omega)] at ih ⊢
      omega
theorem chL_get {l : List ChanD} {k : Nat} {y : ChanD} (h : l[k]? = some y) : ∃ hk : k < (chL l).length, (chL l)[k] = (y.src, y.dst) := by
  have hl : k < l.length := (List.getElem?_eq_some_iff.1 h).1
  refine ⟨by simpa [chL] using hl, ?_⟩
  have := (List.getElem?_eq_some_iff.1 h).2
  simp [chL, this]
theorem scan_skip {x : Int} {l : List ChanD} {R : List Int} {k : Nat} {y : ChanD} (h : l[k]? = some y) (hn : ¬ (y.src = x ∧ y.dst ∉ scan x ((chL l).take k) R)) : scan x ((chL l).take (k + 1)) R = scan x ((chL l).take k) R := by
  obtain ⟨hk, e⟩ := chL_get h
  rw [scan_take_succ _ _ _ _ hk, e]
  unfold step1
  rw [if_neg hn]
theorem scan_add {x : Int} {l : List ChanD} {R : List Int} {k : Nat} {y : ChanD} (h : l[k]? = some y) (hn : y.src = x ∧ y.dst ∉ scan x ((chL l).take k) R) : scan x ((chL l).take (k + 1)) R = scan x ((chL l).take k) R ++ [y.dst] := by
  obtain ⟨hk, e⟩ := chL_get h
  rw [scan_take_succ _ _ _ _ hk, e]
  unfold step1
  rw [if_pos hn]
set_option maxHeartbeats 2000000 in
set_option maxRecDepth 100000 in
theorem ref_leads {B : Nat → Prop} {w : World} {x : ConfD} {v : Value} (h : ConfRep B w x v) (hf : x.chans.length ≤ 40) (src dst : Int) :
    Calls Try.prog 13 #[v, .int .i64 src, .int .i64 dst] w fun e w' => e = .returned (.bool (leads (chL x.chans) src dst)) ∧ Keep [] w w' := by
  obtain ⟨v1, v2, v3, rfl, ⟨pa, pc, rfl, p1, p2, _⟩, ⟨wa, wc, rfl, w1, w2, _⟩, ⟨ca, cc, rfl, c1, c2, c3⟩⟩ := h
  obtain ⟨i0, hi0, hz0, hz1, hz2⟩ := info_parts infoInt
  generalize x.parts.length = pl at *
  generalize x.wins.length = wl at *
  generalize x.chans = l at *
  have hcl : (chL l).length = l.length := by simp [chL]
  generalize hll : l.length = cl at *
  unfold maxLen at p2 w2 c2
  have C3 := Lib.hid c3
  have Hll := Lib.hid hll
  have Hcl := Lib.hid hcl
  clear c3 hll hcl
  have KK : Hid (Keep [] w (w.alloc (.cells #[.slice pa pl pc, .slice wa wl wc, .slice ca cl cc] 26))) := Lib.hid ((Keep.refl _ _).alloc _)
  have BX := Lib.hid (heap_alloc_new w (.cells #[.slice pa pl pc, .slice wa wl wc, .slice ca cl cc] 26))
  go_enter Try.func13, Try.ntmps13
  go_wp2_with fail
  have Ho : Hid (Ints ((w.alloc (.cells #[.slice pa pl pc, .slice wa wl wc, .slice ca cl cc] 26)).alloc (.cells #[.int .i64 src] 3)) (w.heap.size + 1) (.slice (some ⟨w.heap.size + 1, 0, none⟩) 1 1) [src]) :=
    Lib.hid ⟨w.heap.size + 1, 0, 1, rfl, Nat.le_refl _, ⟨#[.int .i64 src], by simpa using heap_alloc_new (w.alloc (.cells #[.slice pa pl pc, .slice wa wl wc, .slice ca cl cc] 26)) (.cells #[.int .i64 src] 3), by simp⟩, by simp, by simp [maxLen], by simp, fun j u hu => by
      match j, hu with
      | 0, hu => simp at hu; subst hu; exact cell_of (by simpa using heap_alloc_new (w.alloc (.cells #[.slice pa pl pc, .slice wa wl wc, .slice ca cl cc] 26)) (.cells #[.int .i64 src] 3)) rfl⟩
  have K1 := Lib.hid (KK.out.alloc (.cells #[.int .i64 src] 3))
  have B1 := Lib.hid (Keep.to ((Keep.refl [] _).alloc (.cells #[.int .i64 src] 3)) BX.out (by simp))
  generalize (w.alloc (.cells #[.slice pa pl pc, .slice wa wl wc, .slice ca cl cc] 26)).alloc (.cells #[.int .i64 src] 3) = w3 at *
  go_loopw [7, 8] (fun s7 s8 wr => ∃ (i : Nat) (R : List Int), s8 = .int .i64 i ∧ At (chL l) src dst i R ∧ Ints wr (w.heap.size + 1) s7 R ∧ Keep [] w wr ∧ wr.heap[w.heap.size]? = some (.cells #[.slice pa pl pc, .slice wa wl wc, .slice ca cl cc] 26 (0, 0))) (fun _ s8 _ => cl + 2 - (intOf s8).toNat)
  case atStart => exact ⟨0, [src], rfl, At.start _ _ _, Ho.out, K1.out, B1.out⟩
  case round =>
    obtain ⟨i, R, rfl, hat, hin, kr, br⟩ := hrel
    have hRl := hat.len
    rw [Hcl.out] at hRl
    have hle := hat.le
    have HA := Lib.hid hat
    have HI := Lib.hid hin
    have KR := Lib.hid kr
    have BR := Lib.hid br
    obtain ⟨g, o, cap, rfl, hg, hlc, hcm, hc⟩ := hin.open_
    unfold maxLen at hcm
    have HC := Lib.hid hc
    clear hat hin kr br hc
    by_cases hlt : i < R.length
    · have hlt' : (i : Int) < R.length := by omega
      obtain ⟨y, hy⟩ : ∃ y, R[i]? = some y := ⟨_, List.getElem?_eq_getElem hlt⟩
      have HY := Lib.hid hy
      have cy := HC.out i y hy
      clear hy
      by_cases hq : y = dst
      · have he := Lib.hid (HA.out.hit y HY.out hq)
        have hd : (y == dst) = true := by simpa using hq
        clear hq
        go_wp2_with fail
        go_ret
        exact ⟨ret_bool he.out.symm, KR.out⟩
      · have hd : (y == dst) = false := by simpa using hq
        have q2 := (cells3 BR.out).2.2
        have HQ := Lib.hid hq
        clear hq
        go_wp2_with fail
        obtain ⟨wo, rfl⟩ : ∃ wo : World, wo = wr := ⟨_, rfl⟩
        clear q2 cy
        go_loopw [7, 28] (fun s7 s28 wq => ∃ k : Nat, s28 = .int .i64 k ∧ k ≤ cl ∧ Ints wq (w.heap.size + 1) s7 (scan y ((chL l).take k) R) ∧ Keep [] w wq ∧ wq.heap[w.heap.size]? = some (.cells #[.slice pa pl pc, .slice wa wl wc, .slice ca cl cc] 26 (0, 0))) (fun _ s28 _ => cl - (intOf s28).toNat)
        case atStart => exact ⟨0, rfl, Nat.zero_le _, by simpa [scan] using HI.out, KR.out, BR.out⟩
        case round =>
          obtain ⟨k, rfl, hk, hin2, kq, bq⟩ := hrel
          have hRk := scan_len y l R k
          have hpre := scan_pre y ((chL l).take k) R
          have HI2 := Lib.hid hin2
          have KQ := Lib.hid kq
          have BQ := Lib.hid bq
          obtain ⟨g2, o2, cap2, rfl, hg2, hlc2, hcm2, hc2⟩ := hin2.open_
          have hy2 : Hid ((scan y ((chL l).take k) R)[i]? = some y) := Lib.hid (by
            obtain ⟨t, ht⟩ := hpre
            rw [ht, List.getElem?_append_left hlt]; exact HY.out)
          have hil : i < (scan y ((chL l).take k) R).length := (List.getElem?_eq_some_iff.1 hy2.out).1
          have hil' : (i : Int) < ((scan y ((chL l).take k) R).length : Int) := by omega
          have HC2 := Lib.hid hc2
          unfold maxLen at hcm2
          clear hin2 kq bq hpre hc2
          by_cases hkl : k < cl
          · have hkl' : (k : Int) < cl := by omega
            obtain ⟨z, hz⟩ := get_of Hll hkl
            obtain ⟨b, o3, cs, rfl, _, _, _, hcz, rfl, zw1, _, zw3, _⟩ := C3.out k z hz
            have HZ := Lib.hid hz
            have e0 := cell_keep KQ.out (hcz 0 _ rfl) (by simp)
            have e1 := cell_keep KQ.out (hcz 1 _ rfl) (by simp)
            have e2 := cell_keep KQ.out (hcz 2 _ rfl) (by simp)
            have e3 := cell_keep KQ.out (hcz 3 _ rfl) (by simp)
            simp only [Nat.add_zero] at e0
            have q2 := (cells3 BQ.out).2.2
            clear hz hcz
            obtain ⟨z0, z1, z2, z3⟩ := z
            simp only at e0 e1 e2 e3 zw1 zw3
            have HSk := Lib.hid (scan_skip (x := y) (R := R) HZ.out)
            have HSa := Lib.hid (scan_add (x := y) (R := R) HZ.out)
            simp only at HSk HSa
            generalize hS : scan y ((chL l).take k) R = S at *
            have HS := Lib.hid hS
            clear hS
            have kA := (Keep.refl [] wr).alloc (.cells #[.int .i64 z0, .int .i64 z1, .int .i64 z2, .int .i64 z3] 66)
            obtain ⟨a0, a1, a2, a3⟩ := cells4 (heap_alloc_new wr (.cells #[.int .i64 z0, .int .i64 z1, .int .i64 z2, .int .i64 z3] 66))
            have cy2 := cell_keep kA (HC2.out i y hy2.out) (by simp)
            have KA := Lib.hid kA
            have HCA : Hid (∀ n (j : Nat) (x : Int), S[j]? = some x → ((wr.alloc (.cells #[.int .i64 z0, .int .i64 z1, .int .i64 z2, .int .i64 z3] 66)).drewN n).cell? ⟨g2, o2 + j, none⟩ = some (.int .i64 x)) := Lib.hid (fun n j x hj => cell_keep (KA.out.drewN n) (HC2.out j x hj) (by simp))
            clear kA
            have hcm3 : cap2 ≤ maxLen := by unfold maxLen; exact hcm2
            have HCM := Lib.hid hcm3
            clear hcm3
            by_cases hs : z0 = y
            · subst hs
              have hd0 : (z0 == z0) = true := by simp
              by_cases hm : z2 ∈ S
              · have hdm : Hid (decide (z2 ∈ S) = true) := Lib.hid (by simpa using hm)
                have HE := Lib.hid (HSk.out (fun h => h.2 hm))
                clear hm
                go_wp2_with fail
                go_quiet ((go_at_call 30; exact quiet_eq (ref_has' S z2 hlc2 HCM.out (HCA.out _) hdm.out)))
                go_wp2_with fail
                go_roundw
                case rel => exact ⟨k + 1, by go_num, by omega, by rw [HE.out]; exact HI2.out.keep0 (KA.out.drewN _), KQ.out.trans (KA.out.drewN _), (KA.out.drewN _).to BQ.out (by simp)⟩
                case measure => simp [intOf]; omega
              · have hdm : Hid (decide (z2 ∈ S) = false) := Lib.hid (by simpa using hm)
                have HE := Lib.hid (HSa.out ⟨rfl, hm⟩)
                clear hm
                go_wp2_with fail
                go_quiet ((go_at_call 30; exact quiet_eq (ref_has' S z2 hlc2 HCM.out (HCA.out _) hdm.out)))
                have hown := HI2.out.keep0 ((KA.out.drewN nq).alloc (.cells #[.int .i64 z2] 3))
                have Ho2 := Lib.hid hown
                have KN := Lib.hid (KQ.out.trans ((KA.out.drewN nq).alloc (.cells #[.int .i64 z2] 3)))
                have BN := Lib.hid (((KA.out.drewN nq).alloc (.cells #[.int .i64 z2] 3)).to BQ.out (by simp))
                have hbase : w.heap.size + 1 ≤ wr.heap.size := by have := lt_of_block BQ.out; omega
                have HNw := Lib.hid (World.news_of_block (w := (((wr.alloc (.cells #[.int .i64 z0, .int .i64 z1, .int .i64 z2, .int .i64 z3] 66)).drewN nq).alloc (.cells #[.int .i64 z2] 3))) (B := wr.heap.size + 1) (cs := #[.int .i64 z2]) (t := 3) (fr := (0, 0)) (by simpa using heap_alloc_new ((wr.alloc (.cells #[.int .i64 z0, .int .i64 z1, .int .i64 z2, .int .i64 z3] 66)).drewN nq) (.cells #[.int .i64 z2] 3)))
                clear hown
                go_wp2_with (at_builtin; refine wpList_append_qu rfl _ _ 64 rfl 3 i0 _ 1 8 Try.underlying64 hi0 hz0 hz1 hz2 rfl (by omega) rfl Ho2.out ⟨wr.heap.size + 1, 0, none⟩ 1 [.int .i64 z2] (by simp [Act.eval, Act.put]) rfl HNw.out (by simp [Value.oneCell']) (by unfold maxLen; omega) (by omega) (by simp; omega) ?_)
                intro v4 w4 T hq4 hk4 ht4 hv4
                have hbl := lt_of_block BN.out
                have K4 : Hid (Keep [] w w4) := Lib.hid (KN.out.transS hk4 (T := []) (by simp) (fun g hg hlt => absurd (ht4 g hg) (by simp [Value.ownBlock]; omega)))
                have B4 := Lib.hid (hk4.to BN.out (fun hm => absurd (ht4 _ hm) (by simp [Value.ownBlock]; omega)))
                have HQ4 : Hid (Ints w4 (w.heap.size + 1) v4 (S ++ [z2])) := Lib.hid (by
                  unfold Ints
                  rw [List.length_append, List.map_append]
                  exact hq4)
                clear hq4 hk4 ht4 hv4
                go_wp2_with fail
                go_roundw
                case rel => exact ⟨k + 1, by go_num, by omega, by rw [HE.out]; exact HQ4.out, K4.out, B4.out⟩
                case measure => simp [intOf]; omega
            · have hd0 : (z0 == y) = false := by simpa using hs
              have HE := Lib.hid (HSk.out (fun h => hs h.1))
              clear hs
              go_wp2_with fail
              go_quiet (fail)
              go_wp2_with fail
              go_roundw
              case rel => exact ⟨k + 1, by go_num, by omega, by rw [HE.out]; exact HI2.out.keep0 (KA.out.drewN _), KQ.out.trans (KA.out.drewN _), (KA.out.drewN _).to BQ.out (by simp)⟩
              case measure => simp [intOf]; omega
          · have hke : k = cl := by omega
            subst hke
            go_wp2_with fail
            go_roundw
            case rel => exact ⟨i + 1, scan y (chL l) R, by go_num, HA.out.next y HY.out HQ.out, by
              have e : (chL l).take k = chL l := List.take_of_length_le (by rw [Hcl.out]; omega)
              have := HI2.out
              rw [e] at this ⊢
              exact this, KQ.out, BQ.out⟩
            case measure => simp [intOf]; omega
    · have he := Lib.hid (HA.out.over (by omega))
      go_wp2_with fail
      go_ret
      exact ⟨ret_bool he.out.symm, KR.out⟩
end Go.Proofs.Ytkmpajdiedpfhaa
