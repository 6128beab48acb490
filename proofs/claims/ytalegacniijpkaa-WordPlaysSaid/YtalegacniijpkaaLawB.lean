/- The laws WordNil and WordKeeps. No conditions. -/
import Derived.Test.YtalegacniijpkaaLawA
import Derived.Test.YtalegacniijpkaaDo
import Derived.Test.YtalegacniijpkaaArgs
namespace Go.Proofs.Ytalegacniijpkaa
open Go.ChangeShapes Go.WideShapes Go.ChangeAt Go.RowKit
set_option linter.unusedVariables false
set_option linter.unusedSimpArgs false

/-- An Op by value: its four numbers. -/
theorem open_op {H : Type} {enc : TypeId × Value → H} {w : World} {base b0 : Nat} {spare : Nat → Bool} {held : Bool} {r : Reach} {v : Value} {d : DataW H} {p : List MemPlace}
    (hv : Value.okWide Try.prog w r b0 51 v) (h : DataW.Trod enc Try.prog w base spare held 51 v d p) :
    ∃ k a x y : Int, v = .agg #[.int .u8 k, .int .i64 a, .int .i64 x, .int .i64 y] ∧ 0 ≤ k ∧ k ≤ 255 := by
  obtain ⟨cs, rfl, hl, hc⟩ := open_st [.int .u8, .int .i64, .int .i64, .int .i64] Try.underlying51 (by kernel_rfl) (by kernel_rfl) hv h
  match cs, hl with
  | [c0, c1, c2, c3], _ =>
    obtain ⟨u0, e0, h0⟩ := hc 0 _ rfl
    obtain ⟨u1, e1, h1⟩ := hc 1 _ rfl
    obtain ⟨u2, e2, h2⟩ := hc 2 _ rfl
    obtain ⟨u3, e3, h3⟩ := hc 3 _ rfl
    simp only [List.getElem?_cons_zero, List.getElem?_cons_succ, Option.some.injEq] at e0 e1 e2 e3
    subst e0; subst e1; subst e2; subst e3
    exact ⟨vInt c0, vInt c1, vInt c2, vInt c3, by rw [← h0.1, ← h1.1, ← h2.1, ← h3.1], (bounds_u8 h0.2).1, (bounds_u8 h0.2).2⟩

theorem wordNil_walk (k a v x : Int) (w : World) :
    Calls Try.prog 10 #[.agg #[.int .u8 k, .int .i64 a, .int .i64 v, .int .i64 x]] w fun e w' => e = .returned (.bool true) ∧ Keep [] w w' := by
  go_enter Try.func10, Try.ntmps10
  go_wp2_with fail
  refine (awake01 _).mono ?_
  rintro e w0 ⟨rfl, hk0⟩
  have c0 : ∀ j u, (#[.int .u8 k, .int .i64 a, .int .i64 v, .int .i64 x] : Array Value)[j]? = some u → w0.cell? ⟨w.heap.size, j, none⟩ = some u := fun j u hu => by
    rw [World.cell?_of_block (hk0.block _ (by simp) (by simp))]
    exact cell_of (heap_alloc_new w _) hu
  have c00 := c0 0 _ rfl
  have c01 := c0 1 _ rfl
  have c02 := c0 2 _ rfl
  have c03 := c0 3 _ rfl
  have hs0 : w.heap.size < w0.heap.size := by have := hk0.size; simp at this; omega
  have Hk0 : Hid (Keep [] w w0) := Lib.hid (((Keep.refl [] w).alloc _).trans hk0)
  clear hk0 c0
  go_wp2_with fail
  have hb : Both (w0.alloc (.cells #[.slice none 0 0] 54)) none w.heap.size w0.heap.size w0.heap.size [] [] :=
    ⟨.inr ⟨rfl, rfl⟩, .inr ⟨heap_alloc_new w0 _, rfl, rfl⟩, by omega, by omega, (fun m hm => by cases hm), by simp; omega, by simp, by simp⟩
  refine (do_any hb k a v x).mono ?_
  rintro e w1 ⟨t, rfl, ht, hm1, hr1, hk1⟩
  obtain rfl : t = true := ht rfl
  have Hk1 := Lib.hid hk1
  clear hb hm1 hr1 hk1 ht c00 c01 c02 c03
  go_wp2_with (first
    | (go_at_call 15; refine (word_len_nil _).mono ?_; rintro e w' ⟨rfl, rfl⟩)
    | (go_at_call 14; refine (word_words_nil _).mono ?_; rintro e w' ⟨rfl, rfl⟩))
  go_ret
  exact ⟨rfl, (Hk0.out.alloc _).transS Hk1.out (by simp) (by simp; omega)⟩

theorem wordNil_handed {H : Type} {enc : TypeId × Value → H} {W : World} {base : Nat} {args : Array Value} {ds : List (DataW H)} {p : List MemPlace}
    (h : Handed enc Try.prog Try.f10 base W args ds p) :
    Calls Try.prog 10 args W fun e W' => e = .returned (.bool true) ∧ Below W.heap.size W W' := by
  obtain ⟨hval, hA, hfz⟩ := h
  rw [Try.params10] at hA hval
  obtain ⟨v0, vs0, d0, ds0, p0, q0, hargs, rfl, rfl, h0, r0⟩ := trodAll_cons hA
  obtain ⟨rfl, rfl, rfl⟩ := trodAll_nil r0
  obtain rfl : args = #[v0] := by cases args; simp_all
  obtain ⟨k, a, v, x, rfl, _⟩ := open_op (hval 0 51 v0 rfl rfl) h0
  exact (wordNil_walk k a v x W).mono fun e W' ⟨he, hg⟩ => ⟨he, hg.below⟩

namespace LawWordNil
set_option maxRecDepth 100000 in
theorem lifted (os : Os) (started : os.Started) (H : Type) (enc : TypeId × Value → H) :
    ReturnsInHanded {} Try.checked os 10 .any (Rows.wordNilSpec.pre6 enc Try.prog Try.f10 Rows.wordNilRow.domain false) (Rows.wordNilSpec.post enc Try.prog Try.f10 false true false false) := by
  refine law_lifted (tb := 4) started rfl ?_ Try.underlying4 rfl (by kernel_rfl) Try.func10 (by kernel_rfl)
    (ChangeSpec.witness6 (enc := enc) (C := Try.checked) false ⟨#[], #[.agg #[.int .u8 0, .int .i64 0, .int .i64 0, .int .i64 0]], []⟩ 8 (by kernel_rfl) (by kernel_rfl) (by kernel_rfl) (by kernel_rfl)) ?_
  · intro ds hd
    match ds, hd with
      | [d0], _ => exact ⟨rfl, rfl, rfl⟩
  · exact fun W base args ds p h => wordNil_handed h
theorem over : Rows.wordNilRow.holds Try.pinned (OpenSpec.ofChange Rows.wordNilSpec) :=
  OpenClaim.holds_of_wide 10 Try.f10 rfl rfl rfl rfl rfl rfl rfl ⟨rfl, rfl, rfl, rfl, rfl⟩ rfl rfl rfl rfl rfl (by kernel_rfl) Try.func10 (by kernel_rfl)
    (of_decide_eq_true (by kernel_rfl)) (by unfold Func.isWrapper; rw [if_neg (of_decide_eq_false (by kernel_rfl))]; exact ⟨rfl, rfl⟩)
    (fun os started H enc _ => lifted os started H enc)
/-- The statement. -/
theorem proved : Rows.WordNilSaid := over
end LawWordNil

theorem wordKeeps_walk (k a v x y : Int) (hy : -9223372036854775808 ≤ y ∧ y ≤ 9223372036854775807) (w : World) :
    Calls Try.prog 9 #[.agg #[.int .u8 k, .int .i64 a, .int .i64 v, .int .i64 x], .int .i64 y] w fun e w' => e = .returned (.bool true) ∧ Keep [] w w' := by
  go_enter Try.func9, Try.ntmps9
  go_wp2_with fail
  refine (awake01 _).mono ?_
  rintro e w0 ⟨rfl, hk0⟩
  have c0 : w0.heap[w.heap.size]? = some (.cells #[.int .u8 k, .int .i64 a, .int .i64 v, .int .i64 x] 51 (0, 0)) := hk0.to (heap_alloc_new w _) (by simp)
  have C0 := Lib.hid c0
  have hs0 : w.heap.size < w0.heap.size := by have := hk0.size; simp at this; omega
  have Hk0 : Hid (Keep [] w w0) := Lib.hid (((Keep.refl [] w).alloc _).trans hk0)
  clear hk0 c0
  go_wp2_with fail
  refine (word_new 3 _ (by omega)).mono ?_
  rintro e w1 ⟨rfl, hm1, hk1, hs1⟩
  have C1 := Lib.hid (hk1.to C0.out (by simp))
  have hr : (List.replicate (min (max (3 : Int) 0) 4000).toNat (0 : Int)) = [0, 0, 0] := by decide
  rw [hr] at hm1
  have hz1 : w0.heap.size + 2 ≤ w1.heap.size := by omega
  have Hm1 := Lib.hid hm1; have Hk1 := Lib.hid (Hk0.out.trans hk1); clear hm1 hk1 hs1 hr C0 Hk0
  go_wp2_with fail
  refine (word_store Hm1.out 1 y).mono ?_
  rintro e w2 ⟨rfl, hm2, hk2⟩
  have C2 := Lib.hid (hk2.to C1.out (by simp; omega))
  have hr : wordPut [0, 0, 0] 1 y = [0, y, 0] := rfl
  rw [hr] at hm2
  have hz2 := hk2.size
  have Hm2 := Lib.hid hm2; have Hk2 := Lib.hid (Hk1.out.transS hk2 (T := []) (by simp) (by simp; omega)); clear hm2 hk2 hr C1 Hk1 Hm1
  go_wp2_with fail
  refine (word_words Hm2.out).mono ?_
  rintro e w3 ⟨g, cap, rfl, ho, hg, hcap, hk3⟩
  have C3 := Lib.hid (hk3.to C2.out (by simp))
  have Hm3 := Lib.hid (Hm2.out.keep hk3 (by simp) (by simp))
  have Hg3 := Lib.hid ho
  have hgl : g < w3.heap.size := ho.lt
  have Hk3 := Lib.hid (Hk2.out.trans hk3)
  have hz3 := hk3.size
  clear hk3 ho C2 Hm2 Hk2
  go_wp2_with fail
  refine (word_words Hm3.out).mono ?_
  rintro e w4 ⟨g2, cap2, rfl, ho2, hg2, hcap2, hk4⟩
  have C4 := Lib.hid (hk4.to C3.out (by simp))
  have Hm4 := Lib.hid (Hm3.out.keep hk4 (by simp) (by simp))
  have Hg4 := Lib.hid (Hg3.out.keep hk4 (by simp))
  have Hk4 := Lib.hid (Hk3.out.trans hk4)
  have hz4 := hk4.size
  have hgl2 : g2 < w4.heap.size := ho2.lt
  have c41 := ho2.int 1 (by simp)
  have f41 := ho2.free 1
  have e41 : nth [0, y, 0] 1 = y := rfl
  rw [e41] at c41
  have hset : Keep [g2] w4 (w4.setCell ⟨g2, 1, none⟩ (.int .i64 (wrap64 (y + 1)))) := (Keep.refl _ _).setCell (by simp) _
  have Hset := Lib.hid hset
  clear hk4 ho2 C3 Hm3 Hg3 Hk3 hset e41
  go_wp2_with fail
  have Hm5 := Lib.hid (Hm4.out.keep Hset.out (by simp; omega) (by simp; omega))
  have Hg5 := Lib.hid (Hg4.out.keep Hset.out (by simp; omega))
  have C5 := Lib.hid (Hset.out.to C4.out (by simp; omega))
  have Hk5 := Lib.hid (Hk4.out.transS Hset.out (T := []) (by simp) (by simp; omega))
  clear Hm4 Hg4 C4 Hk4
  have Hz5 := Lib.hid Hset.out.size
  clear Hset
  generalize w4.setCell ⟨g2, 1, none⟩ (.int .i64 (wrap64 (y + 1))) = w5 at *
  refine (word_load Hm5.out 1).mono ?_
  rintro e w' ⟨rfl, rfl⟩
  have hr : wordGet [0, y, 0] 1 = y := rfl
  rw [hr]
  clear hr
  go_wp2_with fail
  have hz5 : w4.heap.size ≤ w5.heap.size := Hz5.out
  have cb : ∀ wx : World, wx.heap[w.heap.size]? = some (.cells #[.int .u8 k, .int .i64 a, .int .i64 v, .int .i64 x] 51 (0, 0)) →
      wx.cell? ⟨w.heap.size, 0, none⟩ = some (.int .u8 k) ∧ wx.cell? ⟨w.heap.size, 1, none⟩ = some (.int .i64 a) ∧ wx.cell? ⟨w.heap.size, 2, none⟩ = some (.int .i64 v) ∧ wx.cell? ⟨w.heap.size, 3, none⟩ = some (.int .i64 x) :=
    fun wx h => ⟨cell_of h rfl, cell_of h rfl, cell_of h rfl, cell_of h rfl⟩
  have Cb := Lib.hid cb
  clear cb
  obtain ⟨c0, c1, c2, c3⟩ := Cb.out _ C5.out
  go_region_held3 (fun w' => w'.cell? ⟨w.heap.size, 0, none⟩ = some (.int .u8 k) ∧ w'.cell? ⟨w.heap.size, 1, none⟩ = some (.int .i64 a) ∧ w'.cell? ⟨w.heap.size, 2, none⟩ = some (.int .i64 v) ∧ w'.cell? ⟨w.heap.size, 3, none⟩ = some (.int .i64 x))
    (first | go_keep | exact Cb.out _ C6.out | exact Cb.out _ C7.out)
    (first
      | (go_at_call 27; refine (ref_new 3 _ (by omega)).mono ?_; rintro e w6 ⟨rfl, hr6, hk6, hs6⟩; have C6 := Lib.hid (hk6.to C5.out (by simp)); have Hr6 := Lib.hid hr6; have Hk6 : Hid (Keep [] w5 w6) := Lib.hid ((Keep.refl [] w5).drew.trans hk6); have hz6 : w5.heap.size + 2 ≤ w6.heap.size := (by simp at hs6; omega); clear hr6 hk6 hs6)
      | (go_at_call 28; refine (do_any (⟨WRep.iff.2 (Hm5.out.keep Hk6.out (by simp) (by simp)), Hr6.out, by simp; omega, by simp; omega, by simp; omega, by omega, by simp; omega, Hr6.out.lt⟩ : Both _ _ _ _ _ _ _) k a v x).mono ?_; rintro e w7 ⟨t, rfl, ht, hm7, hr7, hk7⟩; have C7 := Lib.hid (hk7.to C6.out (by simp; omega)); have Hk7 := Lib.hid hk7; clear ht hm7 hr7 hk7))
  have Hg7 := Lib.hid ((Hg5.out.keep Hk6.out (by simp)).keep Hk7.out (by simp; omega))
  have c70 := Hg7.out.int 0 (by simp)
  have c71 := Hg7.out.int 1 (by simp)
  have c72 := Hg7.out.int 2 (by simp)
  have e70 : nth [0, y, 0] 0 = 0 := rfl
  have e71 : nth [0, y, 0] 1 = y := rfl
  have e72 : nth [0, y, 0] 2 = 0 := rfl
  rw [e70] at c70
  rw [e71] at c71
  rw [e72] at c72
  clear e70 e71 e72
  have K := Lib.hid ((Hk5.out.transS Hk6.out (T := []) (by simp) (by simp)).transS Hk7.out (T := []) (by simp) (by simp; omega))
  go_wp2_with fail
  go_ret
  exact ⟨rfl, K.out⟩

theorem wordKeeps_handed {H : Type} {enc : TypeId × Value → H} {W : World} {base : Nat} {args : Array Value} {ds : List (DataW H)} {p : List MemPlace}
    (h : Handed enc Try.prog Try.f9 base W args ds p) :
    Calls Try.prog 9 args W fun e W' => e = .returned (.bool true) ∧ Below W.heap.size W W' := by
  obtain ⟨hval, hA, hfz⟩ := h
  rw [Try.params9] at hA hval
  obtain ⟨v0, vs0, d0, ds0, p0, q0, hargs, rfl, rfl, h0, r0⟩ := trodAll_cons hA
  obtain ⟨v1, vs1, d1, ds1, p1, q1, rfl, rfl, rfl, h1, r1⟩ := trodAll_cons r0
  obtain ⟨rfl, rfl, rfl⟩ := trodAll_nil r1
  obtain rfl : args = #[v0, v1] := by cases args; simp_all
  obtain ⟨k, a, v, x, rfl, _⟩ := open_op (hval 0 51 v0 rfl rfl) h0
  obtain ⟨y, rfl, rfl, rfl, w1⟩ := open_int Try.underlying2 (hval 1 2 v1 rfl rfl) h1
  exact (wordKeeps_walk k a v x y (bounds_i64 w1) W).mono fun e W' ⟨he, hg⟩ => ⟨he, hg.below⟩

namespace LawWordKeeps
set_option maxRecDepth 100000 in
theorem lifted (os : Os) (started : os.Started) (H : Type) (enc : TypeId × Value → H) :
    ReturnsInHanded {} Try.checked os 9 .any (Rows.wordKeepsSpec.pre6 enc Try.prog Try.f9 Rows.wordKeepsRow.domain false) (Rows.wordKeepsSpec.post enc Try.prog Try.f9 false true false false) := by
  refine law_lifted (tb := 4) started rfl ?_ Try.underlying4 rfl (by kernel_rfl) Try.func9 (by kernel_rfl)
    (ChangeSpec.witness6 (enc := enc) (C := Try.checked) false ⟨#[], #[.agg #[.int .u8 0, .int .i64 0, .int .i64 0, .int .i64 0], .int .i64 0], []⟩ 8 (by kernel_rfl) (by kernel_rfl) (by kernel_rfl) (by kernel_rfl)) ?_
  · intro ds hd
    match ds, hd with
      | [d0, d1], _ => exact ⟨rfl, rfl, rfl⟩
  · exact fun W base args ds p h => wordKeeps_handed h
theorem over : Rows.wordKeepsRow.holds Try.pinned (OpenSpec.ofChange Rows.wordKeepsSpec) :=
  OpenClaim.holds_of_wide 9 Try.f9 rfl rfl rfl rfl rfl rfl rfl ⟨rfl, rfl, rfl, rfl, rfl⟩ rfl rfl rfl rfl rfl (by kernel_rfl) Try.func9 (by kernel_rfl)
    (of_decide_eq_true (by kernel_rfl)) (by unfold Func.isWrapper; rw [if_neg (of_decide_eq_false (by kernel_rfl))]; exact ⟨rfl, rfl⟩)
    (fun os started H enc _ => lifted os started H enc)
/-- The statement. -/
theorem proved : Rows.WordKeepsSaid := over
end LawWordKeeps
end Go.Proofs.Ytalegacniijpkaa
