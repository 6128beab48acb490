/- The law WordSizes. No conditions. -/
import Derived.Test.YtalegacniijpkaaWord
import Derived.Test.YtalegacniijpkaaLift
namespace Go.Proofs.Ytalegacniijpkaa
open Go.ChangeShapes Go.WideShapes Go.ChangeAt Go.RowKit
set_option linter.unusedVariables false
set_option linter.unusedSimpArgs false

theorem awake01 (w : World) : Calls Try.prog 12 #[] w fun e w' => e = .returned (.bool true) ∧ Keep [] w w' := by
  go_enter Try.func12, Try.ntmps12
  go_wp2_with fail
  refine (word_new 2 _ (by omega)).mono ?_
  rintro e w1 ⟨rfl, hm1, hk1, hs1⟩
  have Hm1 := Lib.hid hm1; have Hk1 := Lib.hid hk1; clear hm1 hk1 hs1
  go_wp2_with fail
  refine (word_len Hm1.out).mono ?_
  rintro e w' ⟨rfl, rfl⟩
  have hr : (List.replicate (min (max (2 : Int) 0) 4000).toNat (0 : Int)) = [0, 0] := by decide
  rw [hr] at Hm1 ⊢
  go_wp2_with fail
  refine (word_store Hm1.out 1 5).mono ?_
  rintro e w2 ⟨rfl, hm2, hk2⟩
  have hr : wordPut [0, 0] 1 5 = [0, 5] := by decide
  rw [hr] at hm2
  have hr : wordErr [0, 0] 1 = 0 := by decide
  rw [hr]
  have Hm2 := Lib.hid hm2; have Hk2 := Lib.hid hk2; clear hm2 hk2 hr
  go_wp2_with fail
  refine (word_words Hm2.out).mono ?_
  rintro e w3 ⟨g, cap, rfl, ho, hg, hcap, hk3⟩
  have hc := ho.int 1 (by decide)
  have Ho := Lib.hid ho; have Hk3 := Lib.hid hk3; clear ho hk3
  go_wp2_with fail
  go_ret
  refine ⟨rfl, ?_⟩
  exact (Hk1.out.transS Hk2.out (T := []) (by simp) (by simp)).trans Hk3.out

theorem nth_replicate (n i : Nat) : nth (List.replicate n 0) i = 0 := by
  unfold nth
  by_cases h : i < n <;> simp [h]

theorem wordSizes_walk (n : Int) (w : World) (h : -9223372036854775808 ≤ n ∧ n ≤ 9223372036854775807) :
    Calls Try.prog 3 #[.int .i64 n] w fun e w' => e = .returned (.bool true) ∧ Keep [] w w' := by
  go_enter Try.func3, Try.ntmps3
  go_wp2_with fail
  refine (awake01 _).mono ?_
  rintro e w0 ⟨rfl, hk0⟩
  have Hk0 := Lib.hid hk0; clear hk0
  go_wp2_with fail
  refine (word_new n _ h).mono ?_
  rintro e w1 ⟨rfl, hm1, hk1, hs1⟩
  have Hm1 := Lib.hid hm1; have Hk1 := Lib.hid hk1; clear hm1 hk1 hs1
  go_wp2_with fail
  refine (word_words Hm1.out).mono ?_
  rintro e w2 ⟨g, cap, rfl, ho, hg, hcap, hk2⟩
  have Hm2 := Lib.hid (Hm1.out.keep hk2 (by simp) (by simp))
  have Hk2 := Lib.hid hk2
  generalize hk : (min (max n 0) 4000).toNat = k at *
  have hlen : (List.replicate k (0 : Int)).length = k := by simp
  rw [hlen] at hcap ⊢
  have hc : ∀ j, j < k → w2.cell? ⟨g, j, none⟩ = some (.int .i64 0) := fun j hj => by rw [ho.int j (by simpa using hj), nth_replicate]
  have Hc := Lib.hid hc
  have Hk := Lib.hid hk
  have Hlen := Lib.hid hlen
  clear hc hk hlen hk2 ho
  have hk4 : k ≤ 4000 := by have := Hk.out; omega
  go_wp2_with fail
  go_loop [5, 14] (fun _ i => ∃ j : Nat, j ≤ k ∧ i = .int .i64 j) (fun _ i => k - (intOf i).toNat)
  case atStart => exact ⟨0, Nat.zero_le _, rfl⟩
  case round =>
    obtain ⟨j, hj, rfl⟩ := hrel
    by_cases hlt : j < k
    · have hcj := Hc.out j hlt
      go_wp2_with fail
      go_round
      case rel => exact ⟨j + 1, by omega, by go_num⟩
      case measure => simp [intOf]; omega
    · go_wp2_with fail
      refine (word_len Hm2.out).mono ?_
      rintro e w' ⟨rfl, rfl⟩
      rw [Hlen.out]
      have fin : ∀ X : Int, X = (k : Int) → ((k : Int) == X) = true := fun X hX => by simp [hX]
      have Hf := Lib.hid fin
      clear fin
      by_cases h0 : n < 0
      · have hb := Hf.out 0 (by have := Hk.out; omega)
        go_wp2_with (go_at_call 15; refine (word_len Hm2.out).mono ?_; rintro e w' ⟨rfl, rfl⟩; rw [Hlen.out])
        go_ret
        exact ⟨rfl, (Hk0.out.trans Hk1.out).trans Hk2.out⟩
      · by_cases h1 : 4000 < n
        · have hb := Hf.out 4000 (by have := Hk.out; omega)
          go_wp2_with (go_at_call 15; refine (word_len Hm2.out).mono ?_; rintro e w' ⟨rfl, rfl⟩; rw [Hlen.out])
          go_ret
          exact ⟨rfl, (Hk0.out.trans Hk1.out).trans Hk2.out⟩
        · have hb := Hf.out n (by have := Hk.out; omega)
          go_wp2_with (go_at_call 15; refine (word_len Hm2.out).mono ?_; rintro e w' ⟨rfl, rfl⟩; rw [Hlen.out])
          go_ret
          exact ⟨rfl, (Hk0.out.trans Hk1.out).trans Hk2.out⟩

theorem wordSizes_handed {H : Type} {enc : TypeId × Value → H} {W : World} {base : Nat} {args : Array Value} {ds : List (DataW H)} {p : List MemPlace}
    (h : Handed enc Try.prog Try.f3 base W args ds p) :
    Calls Try.prog 3 args W fun e W' => e = .returned (.bool true) ∧ Below W.heap.size W W' := by
  obtain ⟨hval, hA, hfz⟩ := h
  rw [Try.params3] at hA hval
  obtain ⟨v0, vs0, d0, ds0, p0, q0, hargs, rfl, rfl, h0, r0⟩ := trodAll_cons hA
  obtain ⟨rfl, rfl, rfl⟩ := trodAll_nil r0
  obtain rfl : args = #[v0] := by cases args; simp_all
  obtain ⟨a0, rfl, rfl, rfl, w0⟩ := open_int Try.underlying3 (hval 0 3 v0 rfl rfl) h0
  exact (wordSizes_walk a0 W (bounds_i64 w0)).mono fun e W' ⟨he, hg⟩ => ⟨he, hg.below⟩

namespace LawWordSizes
set_option maxRecDepth 100000 in
theorem lifted (os : Os) (started : os.Started) (H : Type) (enc : TypeId × Value → H) :
    ReturnsInHanded {} Try.checked os 3 .any (Rows.wordSizesSpec.pre6 enc Try.prog Try.f3 Rows.wordSizesRow.domain false) (Rows.wordSizesSpec.post enc Try.prog Try.f3 false true false false) := by
  refine law_lifted (tb := 4) started rfl ?_ Try.underlying4 rfl (by kernel_rfl) Try.func3 (by kernel_rfl)
    (ChangeSpec.witness6 (enc := enc) (C := Try.checked) false ⟨#[], #[.int .i64 0], []⟩ 8 (by kernel_rfl) (by kernel_rfl) (by kernel_rfl) (by kernel_rfl)) ?_
  · intro ds hd
    match ds, hd with
      | [d0], _ => exact ⟨rfl, rfl, rfl⟩
  · exact fun W base args ds p h => wordSizes_handed h
theorem over : Rows.wordSizesRow.holds Try.pinned (OpenSpec.ofChange Rows.wordSizesSpec) :=
  OpenClaim.holds_of_wide 3 Try.f3 rfl rfl rfl rfl rfl rfl rfl ⟨rfl, rfl, rfl, rfl, rfl⟩ rfl rfl rfl rfl rfl (by kernel_rfl) Try.func3 (by kernel_rfl)
    (of_decide_eq_true (by kernel_rfl)) (by unfold Func.isWrapper; rw [if_neg (of_decide_eq_false (by kernel_rfl))]; exact ⟨rfl, rfl⟩)
    (fun os started H enc _ => lifted os started H enc)
/-- The statement. -/
theorem proved : Rows.WordSizesSaid := over
end LawWordSizes
end Go.Proofs.Ytalegacniijpkaa
