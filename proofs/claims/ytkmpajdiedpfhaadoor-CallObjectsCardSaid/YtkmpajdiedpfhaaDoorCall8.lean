/- The contracts of the package call: names, awake, FewPart. No conditions but those stated. -/
import Derived.Test.YtkmpajdiedpfhaaDoorCall7
import Derived.Deep.DeepCutAuto
import Derived.Deep.WholeRow
namespace Go.Proofs.YtkmpajdiedpfhaaDoor
open Go.ChangeShapes Go.WideShapes Go.ChangeAt Go.RowKit
set_option linter.unusedVariables false
set_option linter.unusedSimpArgs false
namespace Call24
def nmL : List ByteArray := [⟨#[110, 111, 112]⟩, ⟨#[121, 105, 101, 108, 100]⟩, ⟨#[115, 108, 101, 101, 112]⟩, ⟨#[112, 114, 105, 111, 114, 105, 116, 121]⟩, ⟨#[115, 117, 115, 112, 101, 110, 100]⟩, ⟨#[114, 101, 115, 117, 109, 101]⟩, ⟨#[108, 111, 99, 107]⟩, ⟨#[117, 110, 108, 111, 99, 107]⟩, ⟨#[97, 99, 113, 117, 105, 114, 101]⟩, ⟨#[114, 101, 108, 101, 97, 115, 101]⟩, ⟨#[115, 101, 110, 100]⟩, ⟨#[114, 101, 99, 101, 105, 118, 101]⟩, ⟨#[99, 111, 117, 110, 116]⟩, ⟨#[115, 101, 116]⟩, ⟨#[99, 108, 101, 97, 114]⟩, ⟨#[97, 119, 97, 105, 116]⟩, ⟨#[116, 97, 107, 101]⟩, ⟨#[103, 105, 118, 101]⟩, ⟨#[119, 114, 105, 116, 101]⟩, ⟨#[114, 101, 97, 100]⟩, ⟨#[112, 111, 115, 116]⟩, ⟨#[102, 101, 116, 99, 104]⟩, ⟨#[114, 101, 115, 101, 116]⟩, ⟨#[99, 108, 111, 99, 107]⟩]
def nm (i : Nat) : ByteArray := nmL.getD i ⟨#[]⟩
def NamesAt (w : World) : Prop := ∀ i, i < 24 → w.cell? ⟨0, i, none⟩ = some (.string (nm i))
theorem NamesAt.keep {w w' : World} (h : NamesAt w) (k : Keep [] w w') : NamesAt w' := fun i hi => cell_keep k (h i hi) (by simp)
theorem call_name_in {w : World} (h : NamesAt w) (k : Nat) (hk : k < 24) : Calls Tryd.prog 8 #[.int .i64 k] w fun e w' => e = .returned (.string (nm k)) ∧ w = w' := by
  have hc := h k hk
  have hi : Hid (isB k = true) := Lib.hid (by simp [isB]; omega)
  have hk' : (k : Int) < 24 := by omega
  generalize nm k = s at *
  clear h
  go_enter Tryd.func8, Tryd.ntmps8
  go_wp2_with fail
  refine (call_is _ _).mono ?_
  rintro e w' ⟨rfl, rfl⟩
  rw [hi.out]
  go_wp2_with fail
  go_ret
  exact ⟨rfl, rfl⟩
theorem call_name_out {w : World} (k : Int) (hk : isB k = false) : Calls Tryd.prog 8 #[.int .i64 k] w fun e w' => e = .returned (.string ⟨#[]⟩) ∧ w = w' := by
  have hi := Lib.hid hk
  clear hk
  go_enter Tryd.func8, Tryd.ntmps8
  go_wp2_with fail
  refine (call_is _ _).mono ?_
  rintro e w' ⟨rfl, rfl⟩
  rw [hi.out]
  go_wp2_with fail
  go_ret
  exact ⟨rfl, rfl⟩
/-- The names, as the reference lays them. -/
def nmA : Array Value := #[.string ⟨#[110, 111, 112]⟩, .string ⟨#[121, 105, 101, 108, 100]⟩, .string ⟨#[115, 108, 101, 101, 112]⟩, .string ⟨#[112, 114, 105, 111, 114, 105, 116, 121]⟩, .string ⟨#[115, 117, 115, 112, 101, 110, 100]⟩, .string ⟨#[114, 101, 115, 117, 109, 101]⟩, .string ⟨#[108, 111, 99, 107]⟩, .string ⟨#[117, 110, 108, 111, 99, 107]⟩, .string ⟨#[97, 99, 113, 117, 105, 114, 101]⟩, .string ⟨#[114, 101, 108, 101, 97, 115, 101]⟩, .string ⟨#[115, 101, 110, 100]⟩, .string ⟨#[114, 101, 99, 101, 105, 118, 101]⟩, .string ⟨#[99, 111, 117, 110, 116]⟩, .string ⟨#[115, 101, 116]⟩, .string ⟨#[99, 108, 101, 97, 114]⟩, .string ⟨#[97, 119, 97, 105, 116]⟩, .string ⟨#[116, 97, 107, 101]⟩, .string ⟨#[103, 105, 118, 101]⟩, .string ⟨#[119, 114, 105, 116, 101]⟩, .string ⟨#[114, 101, 97, 100]⟩, .string ⟨#[112, 111, 115, 116]⟩, .string ⟨#[102, 101, 116, 99, 104]⟩, .string ⟨#[114, 101, 115, 101, 116]⟩, .string ⟨#[99, 108, 111, 99, 107]⟩]
theorem nm_arr (k : Nat) (hk : k < 24) : nmA[k]? = some (.string (nm k)) := by
  match k, hk with
  | 0, _ => rfl
  | 1, _ => rfl
  | 2, _ => rfl
  | 3, _ => rfl
  | 4, _ => rfl
  | 5, _ => rfl
  | 6, _ => rfl
  | 7, _ => rfl
  | 8, _ => rfl
  | 9, _ => rfl
  | 10, _ => rfl
  | 11, _ => rfl
  | 12, _ => rfl
  | 13, _ => rfl
  | 14, _ => rfl
  | 15, _ => rfl
  | 16, _ => rfl
  | 17, _ => rfl
  | 18, _ => rfl
  | 19, _ => rfl
  | 20, _ => rfl
  | 21, _ => rfl
  | 22, _ => rfl
  | 23, _ => rfl
  | n + 24, h => exact absurd h (by omega)
theorem nm_at (w : World) (k : Nat) (hk : k < 24) (T : TypeId) : (w.alloc (.cells nmA T)).cell? ⟨w.heap.size, k, none⟩ = some (.string (nm k)) := cell_of (heap_alloc_new w _) (nm_arr k hk)
theorem wpList_value {P : Program} {w : World} {ops : Array Oper} {rest : List Oper} {o : Oper} {a : Act} {Q : Exit → Act → World → Prop} (hg : o.guard = none) (A : Value)
    (hrun : (execOp a.eval o).run P w = .ok (.value A) w) (k : wpList P ops Q rest (a.put o.dst A) w) : wpList P ops Q (o :: rest) a w := by
  refine wpList_plain hg fun K hK' => ?_
  unfold Oper.wp
  rw [hrun]
  exact hK' _ _ k
theorem nmA_size : nmA.size = 24 := rfl
theorem nmA_one : nmA.all (·.oneCell') = true := by kernel_rfl
set_option maxHeartbeats 1000000 in
theorem ref_name_in {w : World} (k : Nat) (hk : k < 24) : Calls Tryd.prog 9 #[.int .i64 k] w fun e w' => e = .returned (.string (nm k)) ∧ Keep [] w w' := by
  have hk' : (k : Int) < 24 := by omega
  go_enter Tryd.func9, Tryd.ntmps9
  go_upto_region 1 with fail
  go_cut [3] (fun s3 wx => ∃ g : Nat, s3 = .pointer (some ⟨g, 0, none⟩) ∧ Keep [] w wx ∧ wx.cell? ⟨g, k, none⟩ = some (.string (nm k)))
  case first =>
    have hz := nmA_size
    have hI : Hid ((Tryd.prog.info? 44).map (·.size) = some nmA.size) := Lib.hid (by kernel_rfl)
    have hO := Lib.hid nmA_one
    have hN := Lib.hid (nm_at w k hk 44)
    apply wp_region_lit
    refine wpList_value rfl (.agg nmA) (by kernel_rfl) ?_
    generalize nmA = B at *
    go_wp2_with fail
    rw [run_storeCells_new _ _ _ _ hI.out (by rw [hz]; rfl) hO.out]
    go_wp2_with fail
    go_meet
    exact ⟨w.heap.size, rfl, (Keep.refl _ _).alloc _, hN.out⟩
  case rest =>
    obtain ⟨g, rfl, kk, hc⟩ := hcut
    have K := Lib.hid kk
    clear kk
    go_wp2_with fail
    go_ret
    exact ⟨rfl, K.out⟩
theorem ref_name_out {w : World} (k : Int) (hk : k < 0 ∨ 23 < k) : Calls Tryd.prog 9 #[.int .i64 k] w fun e w' => e = .returned (.string ⟨#[]⟩) ∧ Keep [] w w' := by
  go_enter Tryd.func9, Tryd.ntmps9
  go_upto_region 1 with fail
  go_cut [3] (fun s3 wx => ∃ g : Nat, s3 = .pointer (some ⟨g, 0, none⟩) ∧ Keep [] w wx)
  case first =>
    have hz := nmA_size
    have hI : Hid ((Tryd.prog.info? 44).map (·.size) = some nmA.size) := Lib.hid (by kernel_rfl)
    have hO := Lib.hid nmA_one
    apply wp_region_lit
    refine wpList_value rfl (.agg nmA) (by kernel_rfl) ?_
    generalize nmA = B at *
    go_wp2_with fail
    rw [run_storeCells_new _ _ _ _ hI.out (by rw [hz]; rfl) hO.out]
    go_wp2_with fail
    go_meet
    exact ⟨w.heap.size, rfl, (Keep.refl _ _).alloc _⟩
  case rest =>
    obtain ⟨g, rfl, kk⟩ := hcut
    have K := Lib.hid kk
    clear kk
    rcases hk with hk | hk
    all_goals
      go_wp2_with fail
      go_ret
      exact ⟨rfl, K.out⟩
end Call24
end Go.Proofs.YtkmpajdiedpfhaaDoor
