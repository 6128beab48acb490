/- The contracts of the package call: awake, FewPart. No conditions but those stated. -/
import Derived.Test.YtkmpajdiedpfhaaDoorCall8
namespace Go.Proofs.YtkmpajdiedpfhaaDoor
open Go.ChangeShapes Go.WideShapes Go.ChangeAt Go.RowKit
set_option linter.unusedVariables false
set_option linter.unusedSimpArgs false
namespace Call24
theorem call_awake {w : World} (h : NamesAt w) : Calls Tryd.prog 7 #[] w fun e w' => e = .returned (.bool true) ∧ Keep [] w w' := by
  have H := Lib.hid h
  clear h
  go_enter Tryd.func7, Tryd.ntmps7
  go_wp2_with fail
  refine (call_name_in H.out 10 (by omega)).mono ?_
  rintro e w' ⟨rfl, rfl⟩
  rw [show nm 10 = ⟨#[115, 101, 110, 100]⟩ from rfl]
  go_wp2_with fail
  refine (call_check (w := w) ⟨none, 0, 0, none, 0, 0, fun _ => 0⟩ ⟨0, 0, 0, 0, none, 0, 0, 0⟩ (caps := fun _ => 0) (ctl := fun _ => false) (prio := fun _ => 0) (pg := fun _ => (none, 0, 0))
    ⟨Nat.le_refl _, Nat.zero_le _, fun i hi => absurd hi (Nat.not_lt_zero _)⟩ ⟨Nat.le_refl _, Nat.zero_le _, fun i hi => absurd hi (Nat.not_lt_zero _)⟩ ⟨Nat.le_refl _, Nat.zero_le _⟩ 0).mono ?_
  rintro e w2 ⟨rfl, k2⟩
  rw [show checkI (fun _ => 0) (fun _ => false) ⟨none, 0, 0, none, 0, 0, fun _ => 0⟩ ⟨0, 0, 0, 0, none, 0, 0, 0⟩ 0 = 6 from by simp [checkI]]
  have K2 := Lib.hid k2
  clear k2
  go_wp2_with fail
  go_ret
  exact ⟨rfl, K2.out⟩
/-- The threads' programs. -/
def Pg (w : World) (p : Pt) (pg : Nat → Option Addr × Nat × Nat) : Prop := ∀ i, i < p.tl → (pg i).2.1 ≤ (pg i).2.2 ∧ (pg i).2.2 ≤ maxLen ∧ ∀ j, j < (pg i).2.1 → ∃ b o wo wl wc, (pg i).1 = some ⟨b, o, none⟩ ∧ w.cell? ⟨b, o + j * 6 + 4, none⟩ = some (.slice wo wl wc) ∧ wl ≤ wc ∧ wc ≤ maxLen
def FewPost (w : World) (tl ol : Nat) (e : Ending) (w' : World) : Prop := ∃ r, e = .returned (.bool r) ∧ (r = true → tl ≤ 20 ∧ ol ≤ 20) ∧ Keep [] w w'
set_option maxHeartbeats 1000000 in
set_option maxRecDepth 100000 in
theorem few_part {w : World} (p : Pt) {caps : Nat → Int} {ctl : Nat → Bool} {prio : Nat → Int} {pg : Nat → Option Addr × Nat × Nat} (ho : Ob w p) (ht : Th w p caps ctl prio pg) (hg : Pg w p pg) :
    Calls Tryd.prog 10 #[.agg p.cells] w (FewPost w p.tl p.ol) := by
  have a1 := ho.le; have a2 := ho.most; have a3 := ht.le; have a4 := ht.most
  unfold maxLen at a2 a4
  have HT := Lib.hid ht
  have HG := Lib.hid hg
  clear ho ht hg
  obtain ⟨ta, tl, tc, oa, ol, oc, kd⟩ := p
  simp only at a1 a2 a3 a4 ⊢
  have KK : Hid (Keep [] w (w.alloc (.cells #[.slice ta tl tc, .slice oa ol oc] 28))) := Lib.hid ((Keep.refl _ _).alloc _)
  unfold Pt.cells
  by_cases h1 : (20 : Int) < tl
  · go_enter Tryd.func10, Tryd.ntmps10
    go_wp2_with fail
    go_ret
    exact ⟨false, rfl, (fun e => by cases e), KK.out⟩
  by_cases h2 : (20 : Int) < ol
  · go_enter Tryd.func10, Tryd.ntmps10
    go_wp2_with fail
    go_ret
    exact ⟨false, rfl, (fun e => by cases e), KK.out⟩
  · have q0 := (cells2 (heap_alloc_new w (.cells #[.slice ta tl tc, .slice oa ol oc] 28))).1
    go_enter Tryd.func10, Tryd.ntmps10
    go_wp2_with fail
    generalize w.alloc (.cells #[.slice ta tl tc, .slice oa ol oc] 28) = w2 at *
    go_loop [19] (fun c => ∃ i : Nat, c = .int .i64 i ∧ i ≤ tl) (fun c => tl - (intOf c).toNat)
    case atStart => exact ⟨0, rfl, Nat.zero_le _⟩
    case round =>
      obtain ⟨i, rfl, hi⟩ := hrel
      by_cases hlt : i < tl
      · have hlt' : (i : Int) < tl := by omega
        obtain ⟨_, _, b, o, hta, _, _, _, c3⟩ := (HT.out.keep KK.out).cell i hlt
        have hta' : ta = some ⟨b, o, none⟩ := hta
        subst hta'
        clear hta
        obtain ⟨g1, g2, g3⟩ := HG.out i hlt
        generalize (pg i).1 = pa at *
        generalize (pg i).2.1 = pl at *
        generalize (pg i).2.2 = pc at *
        have G3 := Lib.hid g3
        unfold maxLen at g2
        clear g3
        by_cases h60 : (60 : Int) < pl
        · go_wp2_with fail
          go_ret
          exact ⟨false, rfl, (fun e => by cases e), KK.out⟩
        · go_wp2_with fail
          go_loop [33] (fun c => ∃ j : Nat, c = .int .i64 j ∧ j ≤ pl) (fun c => pl - (intOf c).toNat)
          case atStart => exact ⟨0, rfl, Nat.zero_le _⟩
          case round =>
            obtain ⟨j, rfl, hj⟩ := hrel
            by_cases hjl : j < pl
            · have hjl' : (j : Int) < pl := by omega
              obtain ⟨b2, o2, wo, wl, wc, rfl, c4, e1, e2⟩ := G3.out j hjl
              have c5 := cell_keep KK.out c4 (by simp)
              unfold maxLen at e2
              by_cases hw : (20 : Int) < wl
              · go_wp2_with fail
                go_ret
                exact ⟨false, rfl, (fun e => by cases e), KK.out⟩
              · go_wp2_with fail
                go_round
                case rel => exact ⟨j + 1, by go_num, by omega⟩
                case measure => simp [intOf]; omega
            · go_wp2_with fail
              go_round
              case rel => exact ⟨i + 1, by go_num, by omega⟩
              case measure => simp [intOf]; omega
      · go_wp2_with fail
        go_ret
        exact ⟨true, rfl, fun _ => ⟨by show tl ≤ 20; omega, by show ol ≤ 20; omega⟩, KK.out⟩
end Call24
end Go.Proofs.YtkmpajdiedpfhaaDoor
