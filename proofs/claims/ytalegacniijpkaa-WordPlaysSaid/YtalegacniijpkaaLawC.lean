/- The laws WordApart and WordPlays. No conditions. -/
import Derived.Test.YtalegacniijpkaaLawB
import Derived.Test.YtalegacniijpkaaWords
namespace Go.Proofs.Ytalegacniijpkaa
open Go.ChangeShapes Go.WideShapes Go.ChangeAt Go.RowKit
set_option linter.unusedVariables false
set_option linter.unusedSimpArgs false

theorem wordPut_nth (l : List Int) (a v : Int) (i : Nat) (h : (i : Int) ≠ a) : nth (wordPut l a v) i = nth l i := by
  unfold wordPut
  split
  · rename_i hin
    unfold nth
    simp only [List.getD_eq_getElem?_getD]
    rw [List.getElem?_set_ne (by omega)]
  · rfl
theorem doMem_nth (k a v x : Int) (l : List Int) (i : Nat) (h : (i : Int) ≠ a) : nth (doMem k a v x l) i = nth l i := by
  unfold doMem
  split
  · rfl
  · split
    · exact wordPut_nth _ _ _ _ h
    · split
      · exact wordPut_nth _ _ _ _ h
      · unfold wordSwap
        split
        · rename_i hs
          simp [swapOk] at hs
          unfold nth
          simp only [List.getD_eq_getElem?_getD]
          rw [List.getElem?_set_ne (by omega)]
        · rfl
theorem doMem_length (k a v x : Int) (l : List Int) : (doMem k a v x l).length = l.length := by
  unfold doMem
  split
  · rfl
  · split
    · exact wordPut_length _ _ _
    · split
      · exact wordPut_length _ _ _
      · exact wordSwap_length _ _ _ _

theorem wordApart_walk (n : Int) (hn : 0 ≤ n ∧ n ≤ 255) (ao : Option Addr) (len cap : Nat) (V : Nat → Nat → Value) (k a v x : Int) (w : World) (hl : SlOf w ao len cap [.int .i64] V) :
    Calls Try.prog 11 #[.int .u8 n, .slice ao len cap, .agg #[.int .u8 k, .int .i64 a, .int .i64 v, .int .i64 x]] w fun e w' => e = .returned (.bool true) ∧ Keep [] w w' := by
  have hm := Nat.le_trans hl.le hl.most
  unfold maxLen at hm
  have Hl := Lib.hid hl
  clear hl
  by_cases h3 : (300 : Int) < (len : Int)
  · go_enter Try.func11, Try.ntmps11
    go_wp2_with fail
    refine (awake01 _).mono ?_
    rintro e w0 ⟨rfl, hk0⟩
    have Hk0 := Lib.hid (((Keep.refl [] w).alloc _).trans hk0)
    clear hk0
    go_wp2_with fail
    refine (awake01 _).mono ?_
    rintro e w1 ⟨rfl, hk1⟩
    have Hk1 := Lib.hid (Hk0.out.trans hk1)
    clear hk1
    go_wp2_with fail
    go_ret
    exact ⟨rfl, Hk1.out⟩
  · go_enter Try.func11, Try.ntmps11
    go_wp2_with fail
    refine (awake01 _).mono ?_
    rintro e w0 ⟨rfl, hk0⟩
    have c0 : w0.heap[w.heap.size]? = some (.cells #[.int .u8 k, .int .i64 a, .int .i64 v, .int .i64 x] 51 (0, 0)) := hk0.to (heap_alloc_new w _) (by simp)
    have C0 := Lib.hid c0
    have hs0 : w.heap.size < w0.heap.size := by have := hk0.size; simp at this; omega
    have Hk0 : Hid (Keep [] w w0) := Lib.hid (((Keep.refl [] w).alloc _).trans hk0)
    clear hk0 c0
    go_wp2_with fail
    refine (word_new n _ (by omega)).mono ?_
    rintro e w1 ⟨rfl, hm1, hk1, hs1⟩
    have C1 := Lib.hid (hk1.to C0.out (by simp))
    generalize hz : (List.replicate (min (max n 0) 4000).toNat (0 : Int)) = l0 at hm1
    have Hm1 := Lib.hid hm1
    have Hk1 := Lib.hid (Hk0.out.trans hk1)
    have hz1 : w0.heap.size + 2 ≤ w1.heap.size := by omega
    clear hm1 hk1 hs1 hz
    go_wp2_with fail
    go_loopw [8, 25] (fun _ i wr => ∃ j : Nat, j ≤ len ∧ i = .int .i64 j ∧ w1.heap.size ≤ wr.heap.size ∧ Keep [] w wr ∧ (∃ l, MemRep 64 wr (w0.heap.size + 1) w0.heap.size l) ∧
        wr.heap[w.heap.size]? = some (.cells #[.int .u8 k, .int .i64 a, .int .i64 v, .int .i64 x] 51 (0, 0))) (fun _ i _ => len - (intOf i).toNat)
    case atStart => exact ⟨0, Nat.zero_le _, rfl, Nat.le_refl _, Hk1.out, ⟨_, Hm1.out⟩, C1.out⟩
    case round =>
      obtain ⟨j, hj, rfl, hzr, hkr, ⟨l, hmr⟩, hcr⟩ := hrel
      have Hkr := Lib.hid hkr
      have Hmr := Lib.hid hmr
      have Hcr := Lib.hid hcr
      clear hkr hmr hcr
      by_cases hlt : j < len
      · obtain ⟨b, o, rfl, hcell⟩ := (Hl.out.keepK Hkr.out).cell j hlt
        obtain ⟨h0, h1⟩ := hcell 0 _ rfl
        rw [h1.1] at h0
        have e0 : o + (j * [Kd.int .i64].length + 0) = o + j := by simp
        rw [e0] at h0
        clear hcell e0 h1
        generalize vInt (V j 0) = vj at h0
        go_wp2_with fail
        refine (word_store Hmr.out _ _).mono ?_
        rintro e w2 ⟨rfl, hm2, hk2⟩
        have Hm2 := Lib.hid hm2
        have hz2 := hk2.size
        have Hk2 := Lib.hid (Hkr.out.transS hk2 (T := []) (by simp) (by simp; omega))
        have C2 := Lib.hid (hk2.to Hcr.out (by simp; omega))
        clear hm2 hk2
        go_wp2_with fail
        go_roundw
        case rel => exact ⟨j + 1, by omega, by go_num, by omega, Hk2.out, ⟨_, Hm2.out⟩, C2.out⟩
        case measure => simp [intOf]; omega
      · clear hj Hm1 C1 Hk1
        go_wp2_with fail
        refine (word_words Hmr.out).mono ?_
        rintro e w3 ⟨g, cap1, rfl, ho, hg, hcap, hk3⟩
        have C3 := Lib.hid (hk3.to Hcr.out (by simp))
        have Hm3 := Lib.hid (Hmr.out.keep hk3 (by simp) (by simp))
        have Hg3 := Lib.hid ho
        have hgl : g < w3.heap.size := ho.lt
        have Hk3 := Lib.hid (Hkr.out.trans hk3)
        have hz3 := hk3.size
        clear hk3 ho Hcr Hmr Hkr
        go_wp2_with fail
        have cb : ∀ wx : World, wx.heap[w.heap.size]? = some (.cells #[.int .u8 k, .int .i64 a, .int .i64 v, .int .i64 x] 51 (0, 0)) →
            wx.cell? ⟨w.heap.size, 0, none⟩ = some (.int .u8 k) ∧ wx.cell? ⟨w.heap.size, 1, none⟩ = some (.int .i64 a) ∧ wx.cell? ⟨w.heap.size, 2, none⟩ = some (.int .i64 v) ∧ wx.cell? ⟨w.heap.size, 3, none⟩ = some (.int .i64 x) :=
          fun wx h => ⟨cell_of h rfl, cell_of h rfl, cell_of h rfl, cell_of h rfl⟩
        have Cb := Lib.hid cb
        clear cb
        obtain ⟨c0, c1, c2, c3⟩ := Cb.out _ C3.out
        go_region_held3 (fun w' => w'.cell? ⟨w.heap.size, 0, none⟩ = some (.int .u8 k) ∧ w'.cell? ⟨w.heap.size, 1, none⟩ = some (.int .i64 a) ∧ w'.cell? ⟨w.heap.size, 2, none⟩ = some (.int .i64 v) ∧ w'.cell? ⟨w.heap.size, 3, none⟩ = some (.int .i64 x))
          (first | go_keep | exact Cb.out _ C6.out | exact Cb.out _ C7.out)
          (first
            | (go_at_call 27; refine (ref_new 0 _ (by omega)).mono ?_; rintro e w6 ⟨rfl, hr6, hk6, hs6⟩; have C6 := Lib.hid (hk6.to C3.out (by simp)); have Hr6 := Lib.hid hr6; have Hk6 : Hid (Keep [] w3 w6) := Lib.hid ((Keep.refl [] w3).drew.trans hk6); have hz6 : w3.heap.size + 2 ≤ w6.heap.size := (by simp at hs6; omega); clear hr6 hk6 hs6)
            | (go_at_call 28; refine (do_any (⟨WRep.iff.2 (Hm3.out.keep Hk6.out (by simp) (by simp)), Hr6.out, by simp; omega, by simp; omega, by simp; omega, by omega, by simp; omega, Hr6.out.lt⟩ : Both _ _ _ _ _ _ _) k a v x).mono ?_; rintro e w7 ⟨t, rfl, ht, hm7, hr7, hk7⟩; have C7 := Lib.hid (hk7.to C6.out (by simp; omega)); have Hk7 := Lib.hid hk7; have Hm7 := Lib.hid (WRep.iff.1 hm7); clear ht hm7 hr7 hk7))
        have Hg7 := Lib.hid ((Hg3.out.keep Hk6.out (by simp)).keep Hk7.out (by simp; omega))
        have hz7 := Hk7.out.size
        have K7 := Lib.hid ((Hk3.out.transS Hk6.out (T := []) (by simp) (by simp)).transS Hk7.out (T := []) (by simp) (by simp; omega))
        clear c0 c1 c2 c3
        have hL := doMem_length k a v x l
        have hN := fun j h => doMem_nth k a v x l j h
        generalize hl' : doMem k a v x l = l' at hL hN Hm7
        have HL := Lib.hid hL
        have HN := Lib.hid hN
        clear hl' hL hN
        go_wp2_with fail
        refine (word_words Hm7.out).mono ?_
        rintro e w8 ⟨g8, cap8, rfl, ho8, hg8, hcap8, hk8⟩
        have C8 := Lib.hid (hk8.to C7.out (by simp))
        have Hg8 := Lib.hid (Hg7.out.keep hk8 (by simp))
        have Hn8 := Lib.hid ho8
        have K8 := Lib.hid (K7.out.trans hk8)
        have hmost := Hm7.out.most
        rw [HL.out]
        clear ho8 hk8
        rw [HL.out] at hcap8 hmost
        go_wp2_with fail
        go_loopw [11, 46] (fun _ i wr => ∃ j : Nat, j ≤ l.length ∧ i = .int .i64 j ∧ ∃ n, wr = w8.drewN n) (fun _ i _ => l.length - (intOf i).toNat)
        case atStart => exact ⟨0, Nat.zero_le _, rfl, 0, rfl⟩
        case round =>
          obtain ⟨j, hj, rfl, nn, rfl⟩ := hrel
          by_cases hlt : j < l.length
          · obtain ⟨c0, c1, c2, c3⟩ := Cb.out _ C8.out
            have cg := Hg8.out.int j hlt
            have cn := Hn8.out.int j (by rw [HL.out]; exact hlt)
            have hj0 : (0 : Int) ≤ (j : Int) := by omega
            have hj1 : (j : Int) < (l.length : Int) := by omega
            by_cases hja : (j : Int) = a
            · have hd : ((j : Int) != a) = false := by simpa using hja
              clear hja
              go_wp2_with fail
              go_quiet (fail)
              go_wp2_with fail
              go_roundw
              case rel => exact ⟨j + 1, by omega, by go_num, _, rfl⟩
              case measure => simp [intOf]; omega
            · have hd : ((j : Int) != a) = true := by simpa using hja
              rw [HN.out j hja] at cn
              clear hja
              have hd2 : (nth l j != nth l j) = false := by simp
              go_wp2_with fail
              go_quiet (fail)
              go_wp2_with fail
              go_roundw
              case rel => exact ⟨j + 1, by omega, by go_num, _, rfl⟩
              case measure => simp [intOf]; omega
          · go_wp2_with fail
            go_ret
            exact ⟨rfl, K8.out.trans (Keep.ofDrewN _ _ _)⟩

theorem wordApart_handed {H : Type} {enc : TypeId × Value → H} {W : World} {base : Nat} {args : Array Value} {ds : List (DataW H)} {p : List MemPlace}
    (h : Handed enc Try.prog Try.f11 base W args ds p) :
    Calls Try.prog 11 args W fun e W' => e = .returned (.bool true) ∧ Below W.heap.size W W' := by
  obtain ⟨hval, hA, hfz⟩ := h
  rw [Try.params11] at hA hval
  obtain ⟨v0, vs0, d0, ds0, p0, q0, hargs, rfl, rfl, h0, r0⟩ := trodAll_cons hA
  obtain ⟨v1, vs1, d1, ds1, p1, q1, rfl, rfl, rfl, h1, r1⟩ := trodAll_cons r0
  obtain ⟨v2, vs2, d2, ds2, p2, q2, rfl, rfl, rfl, h2, r2⟩ := trodAll_cons r1
  obtain ⟨rfl, rfl, rfl⟩ := trodAll_nil r2
  obtain rfl : args = #[v0, v1, v2] := by cases args; simp_all
  obtain ⟨n, rfl, rfl, rfl, w0⟩ := open_int Try.underlying5 (hval 0 5 v0 rfl rfl) h0
  obtain ⟨ao, len, cap, V, rfl, hsl⟩ := open_sl_one (.int .i64) Try.underlying25 (by kernel_rfl) (by kernel_rfl) (hval 1 25 v1 rfl rfl) h1
  obtain ⟨k, a, v, x, rfl, _⟩ := open_op (hval 2 51 v2 rfl rfl) h2
  exact (wordApart_walk n (bounds_u8 w0) ao len cap V k a v x W hsl).mono fun e W' ⟨he, hg⟩ => ⟨he, hg.below⟩

namespace LawWordApart
set_option maxRecDepth 100000 in
theorem lifted (os : Os) (started : os.Started) (H : Type) (enc : TypeId × Value → H) :
    ReturnsInHanded {} Try.checked os 11 .any (Rows.wordApartSpec.pre6 enc Try.prog Try.f11 Rows.wordApartRow.domain false) (Rows.wordApartSpec.post enc Try.prog Try.f11 false true false false) := by
  refine law_lifted (tb := 4) started rfl ?_ Try.underlying4 rfl (by kernel_rfl) Try.func11 (by kernel_rfl)
    (ChangeSpec.witness6 (enc := enc) (C := Try.checked) false ⟨#[], #[.int .u8 0, .slice none 0 0, .agg #[.int .u8 0, .int .i64 0, .int .i64 0, .int .i64 0]], []⟩ 8 (by kernel_rfl) (by kernel_rfl) (by kernel_rfl) (by kernel_rfl)) ?_
  · intro ds hd
    match ds, hd with
      | [d0, d1, d2], _ => exact ⟨rfl, rfl, rfl⟩
  · exact fun W base args ds p h => wordApart_handed h
theorem over : Rows.wordApartRow.holds Try.pinned (OpenSpec.ofChange Rows.wordApartSpec) :=
  OpenClaim.holds_of_wide 11 Try.f11 rfl rfl rfl rfl rfl rfl rfl ⟨rfl, rfl, rfl, rfl, rfl⟩ rfl rfl rfl rfl rfl (by kernel_rfl) Try.func11 (by kernel_rfl)
    (of_decide_eq_true (by kernel_rfl)) (by unfold Func.isWrapper; rw [if_neg (of_decide_eq_false (by kernel_rfl))]; exact ⟨rfl, rfl⟩)
    (fun os started H enc _ => lifted os started H enc)
/-- The statement. -/
theorem proved : Rows.WordApartSaid := over
end LawWordApart

theorem Both.remake {w w' : World} {p : Option Addr} {bm r br : Nat} {l lr l' lr' : List Int} (h : Both w p bm r br l lr) (k : Keep [bm, br] w w') (hm : WRep w' p bm l') (hr : RefRep w' r br lr') : Both w' p bm r br l' lr' :=
  ⟨hm, hr, h.n1, h.n2, fun m hm => ⟨(h.n3 m hm).1, (h.n3 m hm).2.1, k.lt (h.n3 m hm).2.2⟩, k.lt h.s1, k.lt h.s2, k.lt h.s3⟩
theorem opCells {w w' : World} {S : List Nat} (k : Keep S w w') {b c i j m n : Nat} {v0 v1 v2 v3 v4 : Value} (hb : b < w.heap.size) (hS : b ∉ S) (hc : c < w.heap.size) (hS' : c ∉ S)
    (h0 : w.cell? ⟨b, i, none⟩ = some v0) (h1 : w.cell? ⟨b, j, none⟩ = some v1) (h2 : w.cell? ⟨b, m, none⟩ = some v2) (h3 : w.cell? ⟨b, n, none⟩ = some v3) (h4 : w.cell? ⟨c, 0, none⟩ = some v4) :
    w'.cell? ⟨b, i, none⟩ = some v0 ∧ w'.cell? ⟨b, j, none⟩ = some v1 ∧ w'.cell? ⟨b, m, none⟩ = some v2 ∧ w'.cell? ⟨b, n, none⟩ = some v3 ∧ w'.cell? ⟨c, 0, none⟩ = some v4 :=
  ⟨by rw [World.cell?_of_block (k.block _ hb hS)]; exact h0, by rw [World.cell?_of_block (k.block _ hb hS)]; exact h1, by rw [World.cell?_of_block (k.block _ hb hS)]; exact h2, by rw [World.cell?_of_block (k.block _ hb hS)]; exact h3, by rw [World.cell?_of_block (k.block _ hc hS')]; exact h4⟩
theorem refInts {w : World} {m b : Nat} {l : List Int} (h : RefRep w m b l) {ao : Option Addr} {n : Nat} (hn : l.length = n) (hc : w.cell? ⟨m, 0, none⟩ = some (.slice ao n n)) : IntsAt w ao l := by
  obtain ⟨ao', hc', _, hall⟩ := h.head
  rw [hc] at hc'
  simp only [Option.some.injEq, Value.slice.injEq] at hc'
  intro i hi
  obtain ⟨e, h1, _⟩ := hall i hi
  exact ⟨b, 0, by rw [hc'.1, e], by rw [Nat.zero_add]; exact h1⟩

theorem wordPlays_walk (n : Int) (hn : 0 ≤ n ∧ n ≤ 255) (ao : Option Addr) (len cap : Nat) (V : Nat → Nat → Value) (w : World) (hl : SlOf w ao len cap [.int .u8, .int .i64, .int .i64, .int .i64] V) :
    Calls Try.prog 8 #[.int .u8 n, .slice ao len cap] w fun e w' => e = .returned (.bool true) ∧ Keep [] w w' := by
  have hm := Nat.le_trans hl.le hl.most
  unfold maxLen at hm
  have Hl := Lib.hid hl
  clear hl
  by_cases h3 : (300 : Int) < (len : Int)
  · go_enter Try.func8, Try.ntmps8
    go_wp2_with fail
    refine (awake01 _).mono ?_
    rintro e w0 ⟨rfl, hk0⟩
    have Hk0 := Lib.hid hk0
    clear hk0
    go_wp2_with fail
    refine (awake01 _).mono ?_
    rintro e w1 ⟨rfl, hk1⟩
    have Hk1 := Lib.hid (Hk0.out.trans hk1)
    clear hk1
    go_wp2_with fail
    go_ret
    exact ⟨rfl, Hk1.out⟩
  · go_enter Try.func8, Try.ntmps8
    go_wp2_with fail
    refine (awake01 _).mono ?_
    rintro e w0 ⟨rfl, hk0⟩
    have hz0 := hk0.size
    have Hk0 := Lib.hid hk0
    clear hk0
    go_wp2_with fail
    refine (word_new n _ (by omega)).mono ?_
    rintro e w1 ⟨rfl, hm1, hk1, hs1⟩
    have Hk1 := Lib.hid (Hk0.out.trans hk1)
    have hz1 : w0.heap.size + 2 ≤ w1.heap.size := by omega
    have Hm1 := Lib.hid hm1
    clear hm1 hk1 hs1
    go_wp2_with fail
    refine (ref_new n _ (by omega)).mono ?_
    rintro e w2 ⟨rfl, hr2, hk2, hs2⟩
    have Hk2 := Lib.hid (Hk1.out.trans hk2)
    have hz2 : w1.heap.size + 2 ≤ w2.heap.size := by omega
    have hlen : (List.replicate (min (max n 0) 4000).toNat (0 : Int)).length = n.toNat := by simp; omega
    have hb2 : Both w2 (some ⟨w0.heap.size + 1, 0, none⟩) w0.heap.size (w1.heap.size + 1) w1.heap.size (List.replicate (min (max n 0) 4000).toNat (0 : Int)) (List.replicate (min (max n 0) 4000).toNat (0 : Int)) :=
      ⟨WRep.iff.2 (Hm1.out.keep hk2 (by simp) (by simp)), hr2, by omega, by omega, by simp; omega, by omega, by omega, by omega⟩
    generalize (List.replicate (min (max n 0) 4000).toNat (0 : Int)) = l0 at hlen hb2
    have Hb2 := Lib.hid hb2
    have Hlen := Lib.hid hlen
    clear hr2 hk2 hs2 Hm1 hlen hb2
    go_wp2_with fail
    go_loopw [7, 24] (fun _ i wr => ∃ j : Nat, j ≤ len ∧ i = .int .i64 j ∧ w2.heap.size ≤ wr.heap.size ∧ Keep [] w wr ∧ ∃ l, l.length = n.toNat ∧ Both wr (some ⟨w0.heap.size + 1, 0, none⟩) w0.heap.size (w1.heap.size + 1) w1.heap.size l l) (fun _ i _ => len - (intOf i).toNat)
    case atStart => exact ⟨0, Nat.zero_le _, rfl, Nat.le_refl _, Hk2.out, _, Hlen.out, Hb2.out⟩
    case round =>
      obtain ⟨j, hj, rfl, hzr, hkr, l, hll, hbr⟩ := hrel
      have Hkr := Lib.hid hkr
      have Hll := Lib.hid hll
      have Hbr := Lib.hid hbr
      clear hkr hll hbr Hb2 Hlen
      by_cases hlt : j < len
      · obtain ⟨b, o, rfl, hcell⟩ := (Hl.out.keepK Hkr.out).cell j hlt
        have hj0 : (0 : Int) ≤ (j : Int) := by omega
        have hj1 : (j : Int) < (len : Int) := by omega
        obtain ⟨h0, g0⟩ := hcell 0 _ rfl
        obtain ⟨h1, g1⟩ := hcell 1 _ rfl
        obtain ⟨h2, g2⟩ := hcell 2 _ rfl
        obtain ⟨h3', g3⟩ := hcell 3 _ rfl
        rw [g0.1] at h0
        rw [g1.1] at h1
        rw [g2.1] at h2
        rw [g3.1] at h3'
        have e4 : [Kd.int .u8, .int .i64, .int .i64, .int .i64].length = 4 := rfl
        rw [e4, ← Nat.add_assoc] at h0 h1 h2 h3'
        rw [Nat.add_zero] at h0
        clear hcell g0 g1 g2 g3 e4
        generalize vInt (V j 0) = k at h0
        generalize vInt (V j 1) = a at h1
        generalize vInt (V j 2) = v at h2
        generalize vInt (V j 3) = x at h3'
        have hbl : b < w.heap.size := by
          obtain ⟨b', o', e', hc'⟩ := Hl.out.cell j hlt
          simp only [Option.some.injEq, Addr.mk.injEq] at e'
          have := World.block_lt_of_cell? w _ (hc' 0 _ rfl).1
          rw [e'.1]; exact this
        obtain ⟨aor, hcr, hmr, _⟩ := Hbr.out.ref.head
        go_wp2_with fail
        go_region_held3 (fun w' => w'.cell? ⟨b, o + j * 4, none⟩ = some (.int .u8 k) ∧ w'.cell? ⟨b, o + j * 4 + 1, none⟩ = some (.int .i64 a) ∧ w'.cell? ⟨b, o + j * 4 + 2, none⟩ = some (.int .i64 v) ∧ w'.cell? ⟨b, o + j * 4 + 3, none⟩ = some (.int .i64 x) ∧
            w'.cell? ⟨w1.heap.size + 1, 0, none⟩ = some (.slice aor l.length l.length))
          (first | go_keep | exact B7.out | exact B8.out)
          (first
            | (go_at_call 28; refine (do_any (Hbr.out.same (Keep.refl _ _).drew) k a v x).mono ?_; rintro e w7 ⟨t, rfl, ht, hm7, hr7, hk7⟩; obtain rfl : t = true := ht rfl; have Hk7 : Hid (Keep [w0.heap.size, w1.heap.size] wr w7) := Lib.hid (((Keep.refl _ wr).drew).trans hk7); have Hm7 := Lib.hid (WRep.iff.1 hm7); have Hr7 := Lib.hid hr7; have B7 : Hid (w7.cell? ⟨b, o + j * 4, none⟩ = some (.int .u8 k) ∧ w7.cell? ⟨b, o + j * 4 + 1, none⟩ = some (.int .i64 a) ∧ w7.cell? ⟨b, o + j * 4 + 2, none⟩ = some (.int .i64 v) ∧ w7.cell? ⟨b, o + j * 4 + 3, none⟩ = some (.int .i64 x) ∧ w7.cell? ⟨w1.heap.size + 1, 0, none⟩ = some (.slice aor l.length l.length)) := Lib.hid (opCells Hk7.out (by omega) (by simp; omega) (by omega) (by simp; omega) h0 h1 h2 h3' hcr); clear ht hm7 hr7 hk7)
            | (go_at_call 14; refine (word_words Hm7.out).mono ?_; rintro e w8 ⟨g8, cap8, rfl, ho8, hg8, hcap8, hk8⟩; have Hn8 := Lib.hid ho8; have Hk8 := Lib.hid hk8; have B8 := Lib.hid (opCells Hk8.out (Hk7.out.lt (by omega)) (by simp) (Hk7.out.lt (by have := Hbr.out.s3; omega)) (by simp) B7.out.1 B7.out.2.1 B7.out.2.2.1 B7.out.2.2.2.1 B7.out.2.2.2.2); clear ho8 hk8)
            | (go_at_call 29; refine (ref_words (some ⟨g8, 0, none⟩) aor (doMem k a v x l).length l.length _ _ (doMem k a v x l) (doMem k a v x l) Hn8.out.intsAt (refInts (Hr7.out.keep Hk8.out (by simp) (by simp)) (doMem_length k a v x l) B8.out.2.2.2.2) rfl (doMem_length k a v x l) (by have := Hm7.out.most; omega) (by have := Hm7.out.most; have := doMem_length k a v x l; omega)).mono ?_; rintro e w9 ⟨rfl, nd, rfl⟩; rw [decide_eq_true rfl]))
        have B9 := Lib.hid (((Hbr.out.remake Hk7.out (WRep.iff.2 Hm7.out) Hr7.out).same Hk8.out).same (Keep.ofDrewN [] w8 nd))
        have L9 := Lib.hid ((doMem_length k a v x l).trans Hll.out)
        have K9 := Lib.hid (((Hkr.out.transS Hk7.out (T := []) (by simp) (by simp; omega)).trans Hk8.out).trans (Keep.ofDrewN [] w8 nd))
        have hz9 : w2.heap.size ≤ (w8.drewN nd).heap.size := Nat.le_trans hzr (Nat.le_trans Hk7.out.size Hk8.out.size)
        generalize w8.drewN nd = w9 at *
        clear h0 h1 h2 h3' hcr
        go_wp2_with fail
        go_roundw
        case rel => exact ⟨j + 1, by omega, by go_num, hz9, K9.out, _, L9.out, B9.out⟩
        case measure => simp [intOf]; omega
      · go_wp2_with fail
        refine (word_len (WRep.iff.1 Hbr.out.mem)).mono ?_
        rintro e w' ⟨rfl, rfl⟩
        rw [Hll.out]
        have hb : ((n.toNat : Int) == n) = true := by simp; omega
        go_wp2_with fail
        go_ret
        exact ⟨ret_bool (by simp; omega), Hkr.out⟩

theorem wordPlays_handed {H : Type} {enc : TypeId × Value → H} {W : World} {base : Nat} {args : Array Value} {ds : List (DataW H)} {p : List MemPlace}
    (h : Handed enc Try.prog Try.f8 base W args ds p) :
    Calls Try.prog 8 args W fun e W' => e = .returned (.bool true) ∧ Below W.heap.size W W' := by
  obtain ⟨hval, hA, hfz⟩ := h
  rw [Try.params8] at hA hval
  obtain ⟨v0, vs0, d0, ds0, p0, q0, hargs, rfl, rfl, h0, r0⟩ := trodAll_cons hA
  obtain ⟨v1, vs1, d1, ds1, p1, q1, rfl, rfl, rfl, h1, r1⟩ := trodAll_cons r0
  obtain ⟨rfl, rfl, rfl⟩ := trodAll_nil r1
  obtain rfl : args = #[v0, v1] := by cases args; simp_all
  obtain ⟨n, rfl, rfl, rfl, w0⟩ := open_int Try.underlying5 (hval 0 5 v0 rfl rfl) h0
  obtain ⟨ao, len, cap, V, rfl, hsl⟩ := open_sl_struct [.int .u8, .int .i64, .int .i64, .int .i64] Try.underlying46 Try.underlying51 (by kernel_rfl) (by decide) (by kernel_rfl) (hval 1 46 v1 rfl rfl) h1
  exact (wordPlays_walk n (bounds_u8 w0) ao len cap V W hsl).mono fun e W' ⟨he, hg⟩ => ⟨he, hg.below⟩

namespace LawWordPlays
set_option maxRecDepth 100000 in
theorem lifted (os : Os) (started : os.Started) (H : Type) (enc : TypeId × Value → H) :
    ReturnsInHanded {} Try.checked os 8 .any (Rows.wordPlaysSpec.pre6 enc Try.prog Try.f8 Rows.wordPlaysRow.domain false) (Rows.wordPlaysSpec.post enc Try.prog Try.f8 false true false false) := by
  refine law_lifted (tb := 4) started rfl ?_ Try.underlying4 rfl (by kernel_rfl) Try.func8 (by kernel_rfl)
    (ChangeSpec.witness6 (enc := enc) (C := Try.checked) false ⟨#[], #[.int .u8 0, .slice none 0 0], []⟩ 8 (by kernel_rfl) (by kernel_rfl) (by kernel_rfl) (by kernel_rfl)) ?_
  · intro ds hd
    match ds, hd with
      | [d0, d1], _ => exact ⟨rfl, rfl, rfl⟩
  · exact fun W base args ds p h => wordPlays_handed h
theorem over : Rows.wordPlaysRow.holds Try.pinned (OpenSpec.ofChange Rows.wordPlaysSpec) :=
  OpenClaim.holds_of_wide 8 Try.f8 rfl rfl rfl rfl rfl rfl rfl ⟨rfl, rfl, rfl, rfl, rfl⟩ rfl rfl rfl rfl rfl (by kernel_rfl) Try.func8 (by kernel_rfl)
    (of_decide_eq_true (by kernel_rfl)) (by unfold Func.isWrapper; rw [if_neg (of_decide_eq_false (by kernel_rfl))]; exact ⟨rfl, rfl⟩)
    (fun os started H enc _ => lifted os started H enc)
/-- The statement. -/
theorem proved : Rows.WordPlaysSaid := over
end LawWordPlays
end Go.Proofs.Ytalegacniijpkaa
