/- Law 10: the acts as programs; one act run alone; awake. No conditions but those stated. -/
import Derived.Test.YtkmamebaichboaaTable
import Derived.Test.YtkmamebaichboaaActs
namespace Go.Proofs.Ytkmamebaichboaa
open Go.ChangeShapes Go.WideShapes Go.ChangeAt Go.RowKit
set_option linter.unusedVariables false
set_option linter.unusedSimpArgs false
namespace Law10
open Prog
def tabHandleP (pos n i : Int) : Prog (Int × Bool) :=
  if tabHas n i = false then pure (0, false) else do
    let g ← ld (pos + i)
    let o ← isOff
    if o then pure (0, false) else pure (wrap64 (wrap64 (g * 256) + i), true)
theorem tabHandle_run (pos n i : Int) (s : St) : (tabHandleP pos n i).run s = tabHandle pos n i s := by
  unfold tabHandleP tabHandle
  by_cases h0 : tabHas n i = false
  · simp [h0]
  · simp only [if_neg h0, r_bind, r_ld, r_off]
    generalize St.load (pos + i) s = q1
    by_cases h1 : q1.2.off = true <;> simp [h1]
def tabNextP (pos n i : Int) : Prog Bool :=
  if tabHas n i = false then pure false else do
    let _ ← ad (pos + i) 1
    let o ← isOff
    pure (!o)
theorem tabNext_run (pos n i : Int) (s : St) : (tabNextP pos n i).run s = tabNext pos n i s := by
  unfold tabNextP tabNext
  by_cases h0 : tabHas n i = false
  · simp [h0]
  · simp only [if_neg h0, r_bind, r_ad, r_off]
    rfl
def tabCheckP (pos n h : Int) : Prog (Int × Bool) :=
  if h < 0 then pure (0, false) else
  if tabHas n (h % 256) = false then pure (0, false) else do
    let g ← ld (pos + h % 256)
    let o ← isOff
    if o then pure (0, false) else
    if g = h / 256 then pure (h % 256, true) else pure (0, false)
theorem tabCheck_run (pos n h : Int) (s : St) : (tabCheckP pos n h).run s = tabCheck pos n h s := by
  unfold tabCheckP tabCheck
  by_cases h9 : h < 0
  · simp [h9]
  by_cases h0 : tabHas n (h % 256) = false
  · simp [h0, h9]
  · simp only [if_neg h9, if_neg h0, r_bind, r_ld, r_off]
    generalize St.load (pos + h % 256) s = q1
    by_cases h1 : q1.2.off = true
    · simp [h1]
    · by_cases h2 : q1.1 = h / 256 <;> simp [h1, h2]
def actP (a : Act) : Prog (Int × Bool) :=
  if a.kind = 0 then tabHandleP 4 a.n a.i
  else if a.kind = 1 then tabCheckP 4 a.n a.q
  else (do let ok ← tabNextP 4 a.n a.i; pure (0, ok))
def actU (a : Act) (q : Int × Bool) : Act :=
  if a.kind = 0 then { a with got := q.1, ok := q.2 }
  else if a.kind = 1 then { a with got := q.1, ok := q.2 }
  else { a with ok := q.2 }
theorem actB_eq : actB = progB actP actU := by
  funext a s
  unfold actB progB actP actU
  by_cases k0 : a.kind = 0
  · simp only [if_pos k0, tabHandle_run]
  · by_cases k1 : a.kind = 1
    · simp only [if_neg k0, if_pos k1, tabCheck_run]
    · simp only [if_neg k0, if_neg k1, r_bind, tabNext_run, r_pure]
theorem actU_keeps (a : Act) (q : Int × Bool) : (actU a q).kind = a.kind ∧ (actU a q).n = a.n ∧ (actU a q).i = a.i ∧ (actU a q).q = a.q := by
  unfold actU
  split
  · exact ⟨rfl, rfl, rfl, rfl⟩
  · split <;> exact ⟨rfl, rfl, rfl, rfl⟩
theorem actP_U (a : Act) (q : Int × Bool) : actP (actU a q) = actP a := by
  obtain ⟨h1, h2, h3, h4⟩ := actU_keeps a q
  unfold actP
  rw [h1, h2, h3, h4]
theorem actU_U (a : Act) (q p : Int × Bool) : actU (actU a q) p = actU a p := by
  have h1 := (actU_keeps a q).1
  by_cases k0 : a.kind = 0
  · have e : actU a q = { a with got := q.1, ok := q.2 } := if_pos k0
    rw [e]; simp [actU, k0]
  · by_cases k1 : a.kind = 1
    · have e : actU a q = { a with got := q.1, ok := q.2 } := by simp [actU, k1]
      rw [e]; simp [actU, k1]
    · have e : actU a q = { a with ok := q.2 } := by simp [actU, k0, k1]
      rw [e]; simp [actU, k0, k1]
/-- One act, run alone. -/
theorem act_run {w : World} {m b x : Nat} {l : List Int} {a a' : Act} {l' : List Int} (hm : MemRep 134 w m b l) (hr : w.heap[x]? = some (.cells a.cells 27 (0, 0))) (hq : -9223372036854775808 ≤ a.q ∧ a.q ≤ 9223372036854775807)
    (hc : (actP a).cost l ≤ 5000) (ha : actU a ((actP a).solo l).1 = a') (hl : ((actP a).solo l).2 = l') :
    Calls Try.prog 24 #[.pointer (some ⟨m, 0, none⟩), .func (.func 25) #[.pointer (some ⟨x, 0, none⟩)] #[], .int .i64 5000] w fun e w' =>
      e = .returned (.bool true) ∧ MemRep 134 w' m b l' ∧ w'.heap[x]? = some (.cells a'.cells 27 (0, 0)) ∧ Keep [x, b] w w' := by
  have hxm : x ≠ m := fun e => by subst e; rw [hm.head] at hr; simp at hr
  have hxb : x ≠ b := fun e => by subst e; rw [hm.body] at hr; simp at hr
  have hB := bodyOK x
  rw [actB_eq] at hB
  subst ha hl
  refine (acts_run bodyK hB (hStays x) actP_U actU_U hm (r := a) ⟨hq, rfl, hr⟩ hxm hxb (lt_of_block hr) 5000 (by omega) hc).mono ?_
  rintro e w' ⟨o', he, h1, h2, h3, h4⟩
  exact ⟨he, h1, h2.2.2, h3.keep.mono (by simp)⟩

/-- The words behind t Nexts of slot a. -/
def M (a t : Int) : List Int := wordPut (List.replicate 20 0) (4 + a) t
theorem M_len (a t : Int) : (M a t).length = 20 := by unfold M; rw [wordPut_length]; rfl
theorem M_get {a t : Int} (h : 0 ≤ a ∧ a < 8) : wordGet (M a t) (4 + a) = t := get_put (by simp; omega)
theorem M_get_ne {a b t : Int} (h : a ≠ b) : wordGet (M a t) (4 + b) = 0 := by
  unfold M
  rw [get_put_ne (by omega)]
  exact get_zeros _ _
theorem has_in {k a : Int} (hk : 1 ≤ k ∧ k ≤ 8) (ha : 0 ≤ a ∧ a < k) : tabHas k a = true := decide_eq_true (by omega)
theorem w64 {x : Int} (h : -9223372036854775808 ≤ x ∧ x ≤ 9223372036854775807) : wrap64 x = x := IntWalk.wrap64_in x (by omega)
theorem next_solo {k a t : Int} (hk : 1 ≤ k ∧ k ≤ 8) (ha : 0 ≤ a ∧ a < k) (ht : 0 ≤ t ∧ t ≤ 1000) :
    (actP ⟨2, k, a, 0, 0, false⟩).cost (M a t) ≤ 5000 ∧ actU ⟨2, k, a, 0, 0, false⟩ ((actP ⟨2, k, a, 0, 0, false⟩).solo (M a t)).1 = ⟨2, k, a, 0, 0, true⟩ ∧ ((actP ⟨2, k, a, 0, 0, false⟩).solo (M a t)).2 = M a (t + 1) := by
  have e : actP ⟨2, k, a, 0, 0, false⟩ = (do let ok ← tabNextP 4 k a; pure (0, ok)) := rfl
  have hs : wordSum (M a t) (4 + a) 1 = t + 1 := by
    rw [sum_eq (by rw [M_len]; omega), M_get (by omega)]; exact w64 (by omega)
  have hp : wordPut (M a t) (4 + a) (t + 1) = M a (t + 1) := put_put
  simp [e, tabNextP, has_in hk ha, actU, hs, hp]
theorem handle_solo {k a b t g : Int} (hk : 1 ≤ k ∧ k ≤ 8) (hb : 0 ≤ b ∧ b < k) (hg : wordGet (M a t) (4 + b) = g) (ht : 0 ≤ g ∧ g ≤ 1000) :
    (actP ⟨0, k, b, 0, 0, false⟩).cost (M a t) ≤ 5000 ∧ actU ⟨0, k, b, 0, 0, false⟩ ((actP ⟨0, k, b, 0, 0, false⟩).solo (M a t)).1 = ⟨0, k, b, 0, g * 256 + b, true⟩ ∧ ((actP ⟨0, k, b, 0, 0, false⟩).solo (M a t)).2 = M a t := by
  have e : actP ⟨0, k, b, 0, 0, false⟩ = tabHandleP 4 k b := rfl
  have h1 : wrap64 (wrap64 (g * 256) + b) = g * 256 + b := by rw [w64 (x := g * 256) (by omega), w64 (by omega)]
  simp [e, tabHandleP, has_in hk hb, actU, hg, h1]
theorem check_solo {k a b t g h : Int} (hk : 1 ≤ k ∧ k ≤ 8) (hb : 0 ≤ b ∧ b < k) (ht : 0 ≤ g ∧ g ≤ 1000) (hh : h = g * 256 + b) :
    (actP ⟨1, k, 0, h, 0, false⟩).cost (M a t) ≤ 5000 ∧ actU ⟨1, k, 0, h, 0, false⟩ ((actP ⟨1, k, 0, h, 0, false⟩).solo (M a t)).1 = ⟨1, k, 0, h, if wordGet (M a t) (4 + b) = g then b else 0, decide (wordGet (M a t) (4 + b) = g)⟩ ∧
      ((actP ⟨1, k, 0, h, 0, false⟩).solo (M a t)).2 = M a t := by
  have e : actP ⟨1, k, 0, h, 0, false⟩ = tabCheckP 4 k h := rfl
  have h0 : ¬ h < 0 := by omega
  have h1 : h % 256 = b := by omega
  have h2 : h / 256 = g := by omega
  by_cases hg : wordGet (M a t) (4 + b) = g
  · simp [e, tabCheckP, h0, h1, h2, has_in hk hb, actU, hg]
  · simp [e, tabCheckP, h0, h1, h2, has_in hk hb, actU, hg]
theorem awake_pure : ((actP ⟨2, 3, 2, 0, 0, false⟩).cost (List.replicate 20 0) ≤ 5000 ∧
    (actP ⟨1, 3, 0, 258, 0, false⟩).cost ((actP ⟨2, 3, 2, 0, 0, false⟩).solo (List.replicate 20 0)).2 ≤ 5000) ∧
    actU ⟨2, 3, 2, 0, 0, false⟩ ((actP ⟨2, 3, 2, 0, 0, false⟩).solo (List.replicate 20 0)).1 = ⟨2, 3, 2, 0, 0, true⟩ ∧
    actU ⟨1, 3, 0, 258, 0, false⟩ ((actP ⟨1, 3, 0, 258, 0, false⟩).solo ((actP ⟨2, 3, 2, 0, 0, false⟩).solo (List.replicate 20 0)).2).1 = ⟨1, 3, 0, 258, 2, true⟩ := by
  decide +kernel
theorem awake10 (w : World) : Calls Try.prog 22 #[] w fun e w' => e = .returned (.bool true) ∧ Keep [] w w' := by
  have hp := awake_pure
  have Hp := Lib.hid hp
  clear hp
  go_enter Try.func22, Try.ntmps22
  go_wp2_with fail
  refine (word_new 20 _ (by omega)).mono ?_
  rintro e w1 ⟨rfl, hm1, hk1, hs1⟩
  have hr : (List.replicate (min (max (20 : Int) 0) 4000).toNat (0 : Int)) = List.replicate 20 0 := by decide
  rw [hr] at hm1
  have Hm1 := Lib.hid hm1; have Hk1 := Lib.hid hk1; have hz1 : w.heap.size + 2 ≤ w1.heap.size := by omega
  clear hm1 hk1 hs1 hr
  go_wp2_with fail
  have hm2 := Lib.hid (Hm1.out.keep (((Keep.refl [] w1).alloc (.cells (Act.cells ⟨2, 3, 2, 0, 0, false⟩) 27)).alloc (.cells (Act.cells ⟨1, 3, 0, 258, 0, false⟩) 27)) (by simp) (by simp))
  have hx2 := Lib.hid (two_fst w1 (.cells (Act.cells ⟨2, 3, 2, 0, 0, false⟩) 27) (.cells (Act.cells ⟨1, 3, 0, 258, 0, false⟩) 27))
  have hy2 := Lib.hid (two_snd w1 (.cells (Act.cells ⟨2, 3, 2, 0, 0, false⟩) 27) (.cells (Act.cells ⟨1, 3, 0, 258, 0, false⟩) 27))
  have hk2 := Lib.hid ((Hk1.out.alloc (.cells (Act.cells ⟨2, 3, 2, 0, 0, false⟩) 27)).alloc (.cells (Act.cells ⟨1, 3, 0, 258, 0, false⟩) 27))
  simp only [Act.cells] at hm2 hx2 hy2 hk2
  generalize hw2 : ((w1.alloc (.cells #[.int .u8 2, .int .i64 3, .int .i64 2, .int .i64 0, .int .i64 0, .bool false] 27)).alloc (.cells #[.int .u8 1, .int .i64 3, .int .i64 0, .int .i64 258, .int .i64 0, .bool false] 27)) = w2 at hm2 hx2 hy2 hk2 ⊢
  have hz2 : w1.heap.size + 2 ≤ w2.heap.size := by have := lt_of_block hy2.out; omega
  have Hw2 := Lib.hid hw2
  clear hw2
  refine (act_run (a := ⟨2, 3, 2, 0, 0, false⟩) hm2.out hx2.out (by simp) Hp.out.1.1 Hp.out.2.1 rfl).mono ?_
  rintro e w3 ⟨rfl, hm3, hx3, hk3⟩
  have Hm3 := Lib.hid hm3
  have Hx3 := Lib.hid hx3
  have Hy3 := Lib.hid (hk3.to hy2.out (by simp; omega))
  have Hk3 := Lib.hid (hk2.out.transS hk3 (T := []) (by simp) (by simp; omega))
  clear hm3 hx3 hk3
  go_wp2_with fail
  refine (act_run (a := ⟨1, 3, 0, 258, 0, false⟩) Hm3.out Hy3.out (by simp) Hp.out.1.2 Hp.out.2.2 rfl).mono ?_
  rintro e w4 ⟨rfl, hm4, hy4, hk4⟩
  have hx4 := hk4.to Hx3.out (by simp; omega)
  have c1 : w4.cell? ⟨w1.heap.size, 5, none⟩ = some (.bool true) := cell_of hx4 rfl
  have c3 : w4.cell? ⟨w1.heap.size + 1, 5, none⟩ = some (.bool true) := cell_of hy4 rfl
  have c4 : w4.cell? ⟨w1.heap.size + 1, 4, none⟩ = some (.int .i64 2) := cell_of hy4 rfl
  have Hk4 := Lib.hid (Hk3.out.transS hk4 (T := []) (by simp) (by simp; omega))
  clear hm4 hy4 hk4 hx4
  go_wp2_with fail
  go_ret
  exact ⟨rfl, Hk4.out⟩
end Law10
end Go.Proofs.Ytkmamebaichboaa
