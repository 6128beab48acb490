/- The contracts of the order's Len, Less and Swap. No conditions but those stated. -/
import Derived.Test.YtkmpajdiedpfhaaHeap1
import Derived.Deep.RegionHeld3
namespace Go.Proofs.Ytkmpajdiedpfhaa
open Go.ChangeShapes Go.WideShapes Go.ChangeAt Go.RowKit Go.Joins
set_option linter.unusedVariables false
set_option linter.unusedSimpArgs false
namespace Hist
open Same Clone
theorem ord_len {w : World} {ao : Option Addr} {n cap : Nat} :
    Calls Try.prog 36 #[.slice ao n cap] w fun e w' => e = .returned (.int .i64 n) ∧ w' = w := by
  go_enter Try.func36, Try.ntmps36
  go_wp2_with fail
  go_ret
  exact ⟨rfl, rfl⟩
set_option maxHeartbeats 2000000 in
theorem ord_less {lo n i j : Nat} {w : World} {g cap : Nat} {f : Nat → NE} (h : OrdRow lo w (.slice (some ⟨g, 0, none⟩) n cap) n f) (hi : i < n) (hj : j < n) (hn : n ≤ 1000) :
    Calls Try.prog 89 #[.slice (some ⟨g, 0, none⟩) n cap, .int .i64 i, .int .i64 j] w fun e w' => e = .returned (.bool (decide (NE.lt (f i) (f j)))) ∧ Keep [] w w' := by
  have ci := h.range hi 1 _ rfl
  have cj := h.range hj 1 _ rfl
  have ai := h.range hi 13 _ rfl
  have aj := h.range hj 13 _ rfl
  have hi0 : (0 : Int) ≤ (i : Int) := by omega
  have hj0 : (0 : Int) ≤ (j : Int) := by omega
  have hi1 : (i : Int) < (n : Int) := by omega
  have hj1 : (j : Int) < (n : Int) := by omega
  have hlt : Hid ((NE.lt (f i) (f j)) ↔ ((f i).x.step < (f j).x.step ∨ ((f i).x.step = (f j).x.step ∧ (f i).at_ < (f j).at_))) := Lib.hid Iff.rfl
  clear h
  generalize (f i).x.step = si at *
  generalize (f j).x.step = sj at *
  generalize (f i).at_ = ki at *
  generalize (f j).at_ = kj at *
  by_cases hs : si = sj
  · subst hs
    go_enter Try.func89, Try.ntmps89
    go_wp2_with fail
    go_region_held3 (fun w' => w'.cell? ⟨g, i * 14 + 1, none⟩ = some (.int .i64 si) ∧ w'.cell? ⟨g, j * 14 + 1, none⟩ = some (.int .i64 si) ∧ w'.cell? ⟨g, i * 14 + 13, none⟩ = some (.int .i64 ki) ∧ w'.cell? ⟨g, j * 14 + 13, none⟩ = some (.int .i64 kj)) (go_keep) (fail)
    go_wp2_with fail
    go_region_held3 (fun w' => w'.cell? ⟨g, i * 14 + 1, none⟩ = some (.int .i64 si) ∧ w'.cell? ⟨g, j * 14 + 1, none⟩ = some (.int .i64 si) ∧ w'.cell? ⟨g, i * 14 + 13, none⟩ = some (.int .i64 ki) ∧ w'.cell? ⟨g, j * 14 + 13, none⟩ = some (.int .i64 kj)) (go_keep) (fail)
    go_wp2_with fail
    go_ret
    exact ⟨ret_bool (by rw [decide_eq_decide, hlt.out]; simp), ((Keep.refl [] w).drew).drew⟩
  · go_enter Try.func89, Try.ntmps89
    go_wp2_with fail
    go_region_held3 (fun w' => w'.cell? ⟨g, i * 14 + 1, none⟩ = some (.int .i64 si) ∧ w'.cell? ⟨g, j * 14 + 1, none⟩ = some (.int .i64 sj) ∧ w'.cell? ⟨g, i * 14 + 13, none⟩ = some (.int .i64 ki) ∧ w'.cell? ⟨g, j * 14 + 13, none⟩ = some (.int .i64 kj)) (go_keep) (fail)
    go_wp2_with fail
    go_region_held3 (fun w' => w'.cell? ⟨g, i * 14 + 1, none⟩ = some (.int .i64 si) ∧ w'.cell? ⟨g, j * 14 + 1, none⟩ = some (.int .i64 sj) ∧ w'.cell? ⟨g, i * 14 + 13, none⟩ = some (.int .i64 ki) ∧ w'.cell? ⟨g, j * 14 + 13, none⟩ = some (.int .i64 kj)) (go_keep) (fail)
    go_wp2_with fail
    go_ret
    exact ⟨ret_bool (by rw [decide_eq_decide, hlt.out]; simp [hs]), ((Keep.refl [] w).drew).drew⟩
theorem noted_size : (Try.prog.info? 75).map (·.size) = some 14 := by kernel_rfl
set_option maxHeartbeats 2000000 in
set_option maxRecDepth 100000 in
theorem ord_swap {lo n i j : Nat} {w : World} {g cap : Nat} {f : Nat → NE} (h : OrdRow lo w (.slice (some ⟨g, 0, none⟩) n cap) n f) (hi : i < n) (hj : j < n) (hn : n ≤ 1000) :
    Calls Try.prog 92 #[.slice (some ⟨g, 0, none⟩) n cap, .int .i64 i, .int .i64 j] w fun e w' => e = .returned (.tuple #[]) ∧ OrdRow lo w' (.slice (some ⟨g, 0, none⟩) n cap) n (HeapL.swp f i j) ∧ Keep [g] w w' := by
  have ri := h.range hi
  have rj := h.range hj
  have ti := h.there hi
  have tj := h.there hj
  have hi0 : (0 : Int) ≤ (i : Int) := by omega
  have hj0 : (0 : Int) ≤ (j : Int) := by omega
  have hi1 : (i : Int) < (n : Int) := by omega
  have hj1 : (j : Int) < (n : Int) := by omega
  have H := Lib.hid (OrdRow.swap (h.keepT (Keep.refl [] w).drew (NoRow.nil _ _)) hi hj)
  have li : (f i).cells.length = 14 := NE.cells_length _
  have lj : (f j).cells.length = 14 := NE.cells_length _
  have oi := NE.cells_one (f i)
  have oj := NE.cells_one (f j)
  have ki : (Try.prog.info? 75).map (·.size) = some (f i).cells.length := by rw [li]; exact noted_size
  have kj : (Try.prog.info? 75).map (·.size) = some (f j).cells.length := by rw [lj]; exact noted_size
  have hu := Try.underlying75
  clear h
  generalize (f i).cells = ci at *
  generalize (f j).cells = cj at *
  go_enter Try.func92, Try.ntmps92
  go_wp2_with fail
  refine wp_region_any (by kernel_rfl) ?_
  change wpAny _ _ _ _ _ _ _ (World.drew _)
  refine' wpAny_take (i := 0) (v := _) rfl (by kernel_rfl) (by kernel_rfl) (by kernel_rfl) (fun _ _ _ h => h) (Or.inl ⟨by rfl, ?hy1⟩) ?rest1
  case hy1 => (intro w; go_simp; first | done | with_reducible rfl)
  change wpAny _ _ _ _ _ _ ({ tmps := #[.slice (some ⟨g, 0, none⟩) n cap, .int .i64 (i : Int), .int .i64 (j : Int), undef, undef, undef, .slice (some ⟨g, 0, none⟩) n cap, undef, undef, undef, undef, undef, undef, undef, undef, undef, undef, undef, undef, undef], defers := [] } : Act) _
  refine' wpAny_take (i := 1) (v := _) rfl (by kernel_rfl) (by kernel_rfl) (by kernel_rfl) (fun _ _ _ h => h) (Or.inl ⟨by rfl, ?hy2⟩) ?rest2
  case hy2 => (intro w; go_simp; first | done | with_reducible rfl)
  change wpAny _ _ _ _ _ _ ({ tmps := #[.slice (some ⟨g, 0, none⟩) n cap, .int .i64 (i : Int), .int .i64 (j : Int), undef, undef, undef, .slice (some ⟨g, 0, none⟩) n cap, .int .i64 (i : Int), undef, undef, undef, undef, undef, undef, undef, undef, undef, undef, undef, undef], defers := [] } : Act) _
  refine' wpAny_take (i := 2) (v := _) rfl (by kernel_rfl) (by kernel_rfl) (by kernel_rfl) (fun _ _ _ h => h) (Or.inl ⟨by rfl, ?hy3⟩) ?rest3
  case hy3 => (intro w; go_simp; first | done | with_reducible rfl)
  change wpAny _ _ _ _ _ _ ({ tmps := #[.slice (some ⟨g, 0, none⟩) n cap, .int .i64 (i : Int), .int .i64 (j : Int), undef, undef, undef, .slice (some ⟨g, 0, none⟩) n cap, .int .i64 (i : Int), .slice (some ⟨g, 0, none⟩) n cap, undef, undef, undef, undef, undef, undef, undef, undef, undef, undef, undef], defers := [] } : Act) _
  refine' wpAny_take (i := 3) (v := _) rfl (by kernel_rfl) (by kernel_rfl) (by kernel_rfl) (fun _ _ _ h => h) (Or.inl ⟨by rfl, ?hy4⟩) ?rest4
  case hy4 => (intro w; go_simp; first | done | with_reducible rfl)
  change wpAny _ _ _ _ _ _ ({ tmps := #[.slice (some ⟨g, 0, none⟩) n cap, .int .i64 (i : Int), .int .i64 (j : Int), undef, undef, undef, .slice (some ⟨g, 0, none⟩) n cap, .int .i64 (i : Int), .slice (some ⟨g, 0, none⟩) n cap, .int .i64 (j : Int), undef, undef, undef, undef, undef, undef, undef, undef, undef, undef], defers := [] } : Act) _
  refine' wpAny_take (i := 4) (v := _) rfl (by kernel_rfl) (by kernel_rfl) (by kernel_rfl) (fun _ _ _ h => h) (Or.inl ⟨by rfl, ?hy5⟩) ?rest5
  case hy5 => (intro w; go_simp; first | done | with_reducible rfl)
  change wpAny _ _ _ _ _ _ ({ tmps := #[.slice (some ⟨g, 0, none⟩) n cap, .int .i64 (i : Int), .int .i64 (j : Int), undef, undef, undef, .slice (some ⟨g, 0, none⟩) n cap, .int .i64 (i : Int), .slice (some ⟨g, 0, none⟩) n cap, .int .i64 (j : Int), .slice (some ⟨g, 0, none⟩) n cap, undef, undef, undef, undef, undef, undef, undef, undef, undef], defers := [] } : Act) _
  refine' wpAny_take (i := 5) (v := _) rfl (by kernel_rfl) (by kernel_rfl) (by kernel_rfl) (fun _ _ _ h => h) (Or.inl ⟨by rfl, ?hy6⟩) ?rest6
  case hy6 => (intro w; go_simp; first | done | with_reducible rfl)
  change wpAny _ _ _ _ _ _ ({ tmps := #[.slice (some ⟨g, 0, none⟩) n cap, .int .i64 (i : Int), .int .i64 (j : Int), undef, undef, undef, .slice (some ⟨g, 0, none⟩) n cap, .int .i64 (i : Int), .slice (some ⟨g, 0, none⟩) n cap, .int .i64 (j : Int), .slice (some ⟨g, 0, none⟩) n cap, .int .i64 (j : Int), undef, undef, undef, undef, undef, undef, undef, undef], defers := [] } : Act) _
  refine' wpAny_take (i := 6) (v := _) rfl (by kernel_rfl) (by kernel_rfl) (by kernel_rfl) (fun _ _ _ h => h) (Or.inl ⟨by rfl, ?hy7⟩) ?rest7
  case hy7 => (intro w; go_simp; first | done | with_reducible rfl)
  change wpAny _ _ _ _ _ _ ({ tmps := #[.slice (some ⟨g, 0, none⟩) n cap, .int .i64 (i : Int), .int .i64 (j : Int), undef, undef, undef, .slice (some ⟨g, 0, none⟩) n cap, .int .i64 (i : Int), .slice (some ⟨g, 0, none⟩) n cap, .int .i64 (j : Int), .slice (some ⟨g, 0, none⟩) n cap, .int .i64 (j : Int), .pointer (some ⟨g, j * 14, none⟩), undef, undef, undef, undef, undef, undef, undef], defers := [] } : Act) _
  refine' wpAny_take (i := 8) (v := _) rfl (by kernel_rfl) (by kernel_rfl) (by kernel_rfl) (fun _ _ _ h => h) (Or.inl ⟨by rfl, ?hy8⟩) ?rest8
  case hy8 => (intro w; go_simp; first | done | with_reducible rfl)
  change wpAny _ _ _ _ _ _ ({ tmps := #[.slice (some ⟨g, 0, none⟩) n cap, .int .i64 (i : Int), .int .i64 (j : Int), undef, undef, undef, .slice (some ⟨g, 0, none⟩) n cap, .int .i64 (i : Int), .slice (some ⟨g, 0, none⟩) n cap, .int .i64 (j : Int), .slice (some ⟨g, 0, none⟩) n cap, .int .i64 (j : Int), .pointer (some ⟨g, j * 14, none⟩), undef, .slice (some ⟨g, 0, none⟩) n cap, undef, undef, undef, undef, undef], defers := [] } : Act) _
  refine' wpAny_take (i := 9) (v := _) rfl (by kernel_rfl) (by kernel_rfl) (by kernel_rfl) (fun _ _ _ h => h) (Or.inl ⟨by rfl, ?hy9⟩) ?rest9
  case hy9 => (intro w; go_simp; first | done | with_reducible rfl)
  change wpAny _ _ _ _ _ _ ({ tmps := #[.slice (some ⟨g, 0, none⟩) n cap, .int .i64 (i : Int), .int .i64 (j : Int), undef, undef, undef, .slice (some ⟨g, 0, none⟩) n cap, .int .i64 (i : Int), .slice (some ⟨g, 0, none⟩) n cap, .int .i64 (j : Int), .slice (some ⟨g, 0, none⟩) n cap, .int .i64 (j : Int), .pointer (some ⟨g, j * 14, none⟩), undef, .slice (some ⟨g, 0, none⟩) n cap, .int .i64 (i : Int), undef, undef, undef, undef], defers := [] } : Act) _
  refine' wpAny_take (i := 10) (v := _) rfl (by kernel_rfl) (by kernel_rfl) (by kernel_rfl) (fun _ _ _ h => h) (Or.inl ⟨by rfl, ?hy10⟩) ?rest10
  case hy10 => (intro w; go_simp; first | done | with_reducible rfl)
  change wpAny _ _ _ _ _ _ ({ tmps := #[.slice (some ⟨g, 0, none⟩) n cap, .int .i64 (i : Int), .int .i64 (j : Int), undef, undef, undef, .slice (some ⟨g, 0, none⟩) n cap, .int .i64 (i : Int), .slice (some ⟨g, 0, none⟩) n cap, .int .i64 (j : Int), .slice (some ⟨g, 0, none⟩) n cap, .int .i64 (j : Int), .pointer (some ⟨g, j * 14, none⟩), undef, .slice (some ⟨g, 0, none⟩) n cap, .int .i64 (i : Int), .pointer (some ⟨g, i * 14, none⟩), undef, undef, undef], defers := [] } : Act) _
  refine wpAny_ready (rs := [7, 11]) (by kernel_rfl) (by simp) ?_
  refine AllReady.cons rfl (fun K hK => ?_) (AllReady.cons rfl (fun K hK => ?_) AllReady.nil)
  · rw [if_pos (by rfl)]
    refine wp_load_mid _ _ rfl g (j * 14) rfl cj _ (by simpa using rj) hu rfl kj ?_
    refine hK _ _ ?_
    clear hK K
    change wpAny _ _ _ _ _ _ ({ tmps := #[.slice (some ⟨g, 0, none⟩) n cap, .int .i64 (i : Int), .int .i64 (j : Int), undef, undef, undef, .slice (some ⟨g, 0, none⟩) n cap, .int .i64 (i : Int), .slice (some ⟨g, 0, none⟩) n cap, .int .i64 (j : Int), .slice (some ⟨g, 0, none⟩) n cap, .int .i64 (j : Int), .pointer (some ⟨g, j * 14, none⟩), .agg cj.toArray, .slice (some ⟨g, 0, none⟩) n cap, .int .i64 (i : Int), .pointer (some ⟨g, i * 14, none⟩), undef, undef, undef], defers := [] } : Act) _
    refine wpAny_ready (rs := [11]) (by kernel_rfl) (by simp) ?_
    refine AllReady.cons rfl (fun K hK => ?_) AllReady.nil
    rw [if_pos (by rfl)]
    refine wp_load_mid _ _ rfl g (i * 14) rfl ci _ (by simpa using ri) hu rfl ki ?_
    refine hK _ _ ?_
    clear hK K
    change wpAny _ _ _ _ _ _ ({ tmps := #[.slice (some ⟨g, 0, none⟩) n cap, .int .i64 (i : Int), .int .i64 (j : Int), undef, undef, undef, .slice (some ⟨g, 0, none⟩) n cap, .int .i64 (i : Int), .slice (some ⟨g, 0, none⟩) n cap, .int .i64 (j : Int), .slice (some ⟨g, 0, none⟩) n cap, .int .i64 (j : Int), .pointer (some ⟨g, j * 14, none⟩), .agg cj.toArray, .slice (some ⟨g, 0, none⟩) n cap, .int .i64 (i : Int), .pointer (some ⟨g, i * 14, none⟩), .agg ci.toArray, undef, undef], defers := [] } : Act) _
    refine' wpAny_take (i := 12) (v := _) rfl (by kernel_rfl) (by kernel_rfl) (by kernel_rfl) (fun _ _ _ h => h) (Or.inl ⟨by rfl, ?hy11⟩) ?rest11
    case hy11 => (intro w; go_simp; first | done | with_reducible rfl)
    change wpAny _ _ _ _ _ _ ({ tmps := #[.slice (some ⟨g, 0, none⟩) n cap, .int .i64 (i : Int), .int .i64 (j : Int), undef, undef, undef, .slice (some ⟨g, 0, none⟩) n cap, .int .i64 (i : Int), .slice (some ⟨g, 0, none⟩) n cap, .int .i64 (j : Int), .slice (some ⟨g, 0, none⟩) n cap, .int .i64 (j : Int), .pointer (some ⟨g, j * 14, none⟩), .agg cj.toArray, .slice (some ⟨g, 0, none⟩) n cap, .int .i64 (i : Int), .pointer (some ⟨g, i * 14, none⟩), .agg ci.toArray, .pointer (some ⟨g, i * 14, none⟩), undef], defers := [] } : Act) _
    refine wpAny_ready (rs := [13]) (by kernel_rfl) (by simp) ?_
    refine AllReady.cons rfl (fun K hK => ?_) AllReady.nil
    rw [if_pos (by rfl)]
    refine wp_store_mid _ _ _ rfl g (i * 14) cj.toArray rfl rfl (by rw [List.size_toArray, lj]; simpa using ti) (by rw [List.size_toArray]; exact kj) (all_oneCell_toArray oj) ?_
    refine hK _ _ ?_
    clear hK K
    change wpAny _ _ _ _ _ _ ({ tmps := #[.slice (some ⟨g, 0, none⟩) n cap, .int .i64 (i : Int), .int .i64 (j : Int), undef, undef, undef, .slice (some ⟨g, 0, none⟩) n cap, .int .i64 (i : Int), .slice (some ⟨g, 0, none⟩) n cap, .int .i64 (j : Int), .slice (some ⟨g, 0, none⟩) n cap, .int .i64 (j : Int), .pointer (some ⟨g, j * 14, none⟩), .agg cj.toArray, .slice (some ⟨g, 0, none⟩) n cap, .int .i64 (i : Int), .pointer (some ⟨g, i * 14, none⟩), .agg ci.toArray, .pointer (some ⟨g, i * 14, none⟩), undef], defers := [] } : Act) _
    refine' wpAny_take (i := 14) (v := _) rfl (by kernel_rfl) (by kernel_rfl) (by kernel_rfl) (fun _ _ _ h => h) (Or.inl ⟨by rfl, ?hy12⟩) ?rest12
    case hy12 => (intro w; go_simp; first | done | with_reducible rfl)
    change wpAny _ _ _ _ _ _ ({ tmps := #[.slice (some ⟨g, 0, none⟩) n cap, .int .i64 (i : Int), .int .i64 (j : Int), undef, undef, undef, .slice (some ⟨g, 0, none⟩) n cap, .int .i64 (i : Int), .slice (some ⟨g, 0, none⟩) n cap, .int .i64 (j : Int), .slice (some ⟨g, 0, none⟩) n cap, .int .i64 (j : Int), .pointer (some ⟨g, j * 14, none⟩), .agg cj.toArray, .slice (some ⟨g, 0, none⟩) n cap, .int .i64 (i : Int), .pointer (some ⟨g, i * 14, none⟩), .agg ci.toArray, .pointer (some ⟨g, i * 14, none⟩), .pointer (some ⟨g, j * 14, none⟩)], defers := [] } : Act) _
    refine wpAny_ready (rs := [15]) (by kernel_rfl) (by simp) ?_
    refine AllReady.cons rfl (fun K hK => ?_) AllReady.nil
    rw [if_pos (by rfl)]
    refine wp_store_mid _ _ _ rfl g (j * 14) ci.toArray rfl rfl (by rw [List.size_toArray, li]; exact World.there_setCells (by simpa using tj) _ _ _) (by rw [List.size_toArray]; exact ki) (all_oneCell_toArray oi) ?_
    refine hK _ _ ?_
    clear hK K
    change wpAny _ _ _ _ _ _ ({ tmps := #[.slice (some ⟨g, 0, none⟩) n cap, .int .i64 (i : Int), .int .i64 (j : Int), undef, undef, undef, .slice (some ⟨g, 0, none⟩) n cap, .int .i64 (i : Int), .slice (some ⟨g, 0, none⟩) n cap, .int .i64 (j : Int), .slice (some ⟨g, 0, none⟩) n cap, .int .i64 (j : Int), .pointer (some ⟨g, j * 14, none⟩), .agg cj.toArray, .slice (some ⟨g, 0, none⟩) n cap, .int .i64 (i : Int), .pointer (some ⟨g, i * 14, none⟩), .agg ci.toArray, .pointer (some ⟨g, i * 14, none⟩), .pointer (some ⟨g, j * 14, none⟩)], defers := [] } : Act) _
    refine wpAny_done (by kernel_rfl) ?_ _
    go_wp2_with fail
    go_end0
    exact ⟨rfl, H.out, ((Keep.refl [g] w).drew.trans (keep_setCells g cj _ _)).trans (keep_setCells g ci _ _)⟩
  · rw [if_pos (by rfl)]
    refine wp_load_mid _ _ rfl g (i * 14) rfl ci _ (by simpa using ri) hu rfl ki ?_
    refine hK _ _ ?_
    clear hK K
    change wpAny _ _ _ _ _ _ ({ tmps := #[.slice (some ⟨g, 0, none⟩) n cap, .int .i64 (i : Int), .int .i64 (j : Int), undef, undef, undef, .slice (some ⟨g, 0, none⟩) n cap, .int .i64 (i : Int), .slice (some ⟨g, 0, none⟩) n cap, .int .i64 (j : Int), .slice (some ⟨g, 0, none⟩) n cap, .int .i64 (j : Int), .pointer (some ⟨g, j * 14, none⟩), undef, .slice (some ⟨g, 0, none⟩) n cap, .int .i64 (i : Int), .pointer (some ⟨g, i * 14, none⟩), .agg ci.toArray, undef, undef], defers := [] } : Act) _
    refine wpAny_ready (rs := [7]) (by kernel_rfl) (by simp) ?_
    refine AllReady.cons rfl (fun K hK => ?_) AllReady.nil
    rw [if_pos (by rfl)]
    refine wp_load_mid _ _ rfl g (j * 14) rfl cj _ (by simpa using rj) hu rfl kj ?_
    refine hK _ _ ?_
    clear hK K
    change wpAny _ _ _ _ _ _ ({ tmps := #[.slice (some ⟨g, 0, none⟩) n cap, .int .i64 (i : Int), .int .i64 (j : Int), undef, undef, undef, .slice (some ⟨g, 0, none⟩) n cap, .int .i64 (i : Int), .slice (some ⟨g, 0, none⟩) n cap, .int .i64 (j : Int), .slice (some ⟨g, 0, none⟩) n cap, .int .i64 (j : Int), .pointer (some ⟨g, j * 14, none⟩), .agg cj.toArray, .slice (some ⟨g, 0, none⟩) n cap, .int .i64 (i : Int), .pointer (some ⟨g, i * 14, none⟩), .agg ci.toArray, undef, undef], defers := [] } : Act) _
    refine' wpAny_take (i := 12) (v := _) rfl (by kernel_rfl) (by kernel_rfl) (by kernel_rfl) (fun _ _ _ h => h) (Or.inl ⟨by rfl, ?hy13⟩) ?rest13
    case hy13 => (intro w; go_simp; first | done | with_reducible rfl)
    change wpAny _ _ _ _ _ _ ({ tmps := #[.slice (some ⟨g, 0, none⟩) n cap, .int .i64 (i : Int), .int .i64 (j : Int), undef, undef, undef, .slice (some ⟨g, 0, none⟩) n cap, .int .i64 (i : Int), .slice (some ⟨g, 0, none⟩) n cap, .int .i64 (j : Int), .slice (some ⟨g, 0, none⟩) n cap, .int .i64 (j : Int), .pointer (some ⟨g, j * 14, none⟩), .agg cj.toArray, .slice (some ⟨g, 0, none⟩) n cap, .int .i64 (i : Int), .pointer (some ⟨g, i * 14, none⟩), .agg ci.toArray, .pointer (some ⟨g, i * 14, none⟩), undef], defers := [] } : Act) _
    refine wpAny_ready (rs := [13]) (by kernel_rfl) (by simp) ?_
    refine AllReady.cons rfl (fun K hK => ?_) AllReady.nil
    rw [if_pos (by rfl)]
    refine wp_store_mid _ _ _ rfl g (i * 14) cj.toArray rfl rfl (by rw [List.size_toArray, lj]; simpa using ti) (by rw [List.size_toArray]; exact kj) (all_oneCell_toArray oj) ?_
    refine hK _ _ ?_
    clear hK K
    change wpAny _ _ _ _ _ _ ({ tmps := #[.slice (some ⟨g, 0, none⟩) n cap, .int .i64 (i : Int), .int .i64 (j : Int), undef, undef, undef, .slice (some ⟨g, 0, none⟩) n cap, .int .i64 (i : Int), .slice (some ⟨g, 0, none⟩) n cap, .int .i64 (j : Int), .slice (some ⟨g, 0, none⟩) n cap, .int .i64 (j : Int), .pointer (some ⟨g, j * 14, none⟩), .agg cj.toArray, .slice (some ⟨g, 0, none⟩) n cap, .int .i64 (i : Int), .pointer (some ⟨g, i * 14, none⟩), .agg ci.toArray, .pointer (some ⟨g, i * 14, none⟩), undef], defers := [] } : Act) _
    refine' wpAny_take (i := 14) (v := _) rfl (by kernel_rfl) (by kernel_rfl) (by kernel_rfl) (fun _ _ _ h => h) (Or.inl ⟨by rfl, ?hy14⟩) ?rest14
    case hy14 => (intro w; go_simp; first | done | with_reducible rfl)
    change wpAny _ _ _ _ _ _ ({ tmps := #[.slice (some ⟨g, 0, none⟩) n cap, .int .i64 (i : Int), .int .i64 (j : Int), undef, undef, undef, .slice (some ⟨g, 0, none⟩) n cap, .int .i64 (i : Int), .slice (some ⟨g, 0, none⟩) n cap, .int .i64 (j : Int), .slice (some ⟨g, 0, none⟩) n cap, .int .i64 (j : Int), .pointer (some ⟨g, j * 14, none⟩), .agg cj.toArray, .slice (some ⟨g, 0, none⟩) n cap, .int .i64 (i : Int), .pointer (some ⟨g, i * 14, none⟩), .agg ci.toArray, .pointer (some ⟨g, i * 14, none⟩), .pointer (some ⟨g, j * 14, none⟩)], defers := [] } : Act) _
    refine wpAny_ready (rs := [15]) (by kernel_rfl) (by simp) ?_
    refine AllReady.cons rfl (fun K hK => ?_) AllReady.nil
    rw [if_pos (by rfl)]
    refine wp_store_mid _ _ _ rfl g (j * 14) ci.toArray rfl rfl (by rw [List.size_toArray, li]; exact World.there_setCells (by simpa using tj) _ _ _) (by rw [List.size_toArray]; exact ki) (all_oneCell_toArray oi) ?_
    refine hK _ _ ?_
    clear hK K
    change wpAny _ _ _ _ _ _ ({ tmps := #[.slice (some ⟨g, 0, none⟩) n cap, .int .i64 (i : Int), .int .i64 (j : Int), undef, undef, undef, .slice (some ⟨g, 0, none⟩) n cap, .int .i64 (i : Int), .slice (some ⟨g, 0, none⟩) n cap, .int .i64 (j : Int), .slice (some ⟨g, 0, none⟩) n cap, .int .i64 (j : Int), .pointer (some ⟨g, j * 14, none⟩), .agg cj.toArray, .slice (some ⟨g, 0, none⟩) n cap, .int .i64 (i : Int), .pointer (some ⟨g, i * 14, none⟩), .agg ci.toArray, .pointer (some ⟨g, i * 14, none⟩), .pointer (some ⟨g, j * 14, none⟩)], defers := [] } : Act) _
    refine wpAny_done (by kernel_rfl) ?_ _
    go_wp2_with fail
    go_end0
    exact ⟨rfl, H.out, ((Keep.refl [g] w).drew.trans (keep_setCells g cj _ _)).trans (keep_setCells g ci _ _)⟩
end Hist
end Go.Proofs.Ytkmpajdiedpfhaa
