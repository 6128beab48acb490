/- Law 6: the bodies of its acts; made. No conditions but those stated. -/
import Derived.Test.YtkmamebaichboaaQueue1
namespace Go.Proofs.Ytkmamebaichboaa
open Go.ChangeShapes Go.WideShapes Go.ChangeAt Go.RowKit
set_option linter.unusedVariables false
set_option linter.unusedSimpArgs false
namespace Law06
open LinkL Prog
def qNop (s : St) : St := s
def qAdd7 (s : St) : St := St.store 5 128 (St.load 5 (lkAppend 20 50 s)).2
section
variable {w : World} {f m b : Nat} {sl : Value} {s s' : St}
theorem q_add_odd' (h : FRep w f m b sl s) (n p : Int) (hp : ¬ (0 ≤ p ∧ p < 16)) (hq : qNop s = s') : Calls Try.prog 103 #[.pointer (some ⟨f, 0, none⟩), .int .i64 5, .int .i64 n, .int .i64 p] w (FPost f m b sl w (.tuple #[]) s') := by
  have hq' : s = s' := hq
  subst hq'
  exact q_add_odd h n p hp
theorem q_addFirst_odd' (h : FRep w f m b sl s) (n p : Int) (hp : ¬ (0 ≤ p ∧ p < 16)) (hq : qNop s = s') : Calls Try.prog 104 #[.pointer (some ⟨f, 0, none⟩), .int .i64 5, .int .i64 n, .int .i64 p] w (FPost f m b sl w (.tuple #[]) s') := by
  have hq' : s = s' := hq
  subst hq'
  exact q_addFirst_odd h n p hp
theorem q_drop_odd' (h : FRep w f m b sl s) (n p : Int) (hp : ¬ (0 ≤ p ∧ p < 16)) (hq : qNop s = s') : Calls Try.prog 105 #[.pointer (some ⟨f, 0, none⟩), .int .i64 5, .int .i64 n, .int .i64 p] w (FPost f m b sl w (.tuple #[]) s') := by
  have hq' : s = s' := hq
  subst hq'
  exact q_drop_odd h n p hp
theorem q_add7 (h : FRep w f m b sl s) (hv : (St.load 5 (lkAppend 20 50 s)).1 = 0) (hq : qAdd7 s = s') : Calls Try.prog 103 #[.pointer (some ⟨f, 0, none⟩), .int .i64 5, .int .i64 50, .int .i64 7] w (FPost f m b sl w (.tuple #[]) s') :=
  q_add h rfl (Prod.ext hv rfl) hq
theorem q_add7n (h : FRep w f m b sl s) (n p : Int) (hn : n = 50) (hp : p = 7) (hv : (St.load 5 (lkAppend 20 50 s)).1 = 0) (hq : qAdd7 s = s') : Calls Try.prog 103 #[.pointer (some ⟨f, 0, none⟩), .int .i64 5, .int .i64 n, .int .i64 p] w (FPost f m b sl w (.tuple #[]) s') := by
  subst hn hp
  exact q_add7 h hv hq
end
structure Act where
  kind : Int
  n : Int
  p : Int
  deriving DecidableEq
def Act.cells (a : Act) : Array Value := #[.int .u8 a.kind, .int .i64 a.n, .int .i64 a.p]
def ActRep (x : Nat) (a : Act) (o : List Nat) (w : World) : Prop := o = [] ∧ w.heap[x]? = some (.cells a.cells 128 (0, 0))
theorem actStays (x : Nat) : RStays x (ActRep x) := fun r o w w' S h k hx _ => ⟨h.1, k.to h.2 hx⟩
theorem body_add_odd (x : Nat) {w : World} {f m b : Nat} {sl : Value} {s : St} (h : FRep w f m b sl s) (a : Act) (hr : w.heap[x]? = some (.cells a.cells 128 (0, 0))) (ha : Apart x f m b sl []) (hk : a.kind = 0) (hp : ¬ (0 ≤ a.p ∧ a.p < 16)) :
    Calls Try.prog 67 #[.pointer (some ⟨x, 0, none⟩), .pointer (some ⟨f, 0, none⟩)] w fun e w1 => e = .returned (.tuple #[]) ∧ ∃ sl1, FRep w1 f m b sl1 (qNop s) ∧
      w1.heap[x]? = some (.cells (a : Act).cells 128 (0, 0)) ∧ Ev [x, f, b] sl w sl1 w1 ∧ Apart x f m b sl1 [] := by
  have hxl := lt_of_block hr
  obtain ⟨kind, n, p⟩ := a
  simp only at hk
  subst hk
  simp only at hp
  skip
  obtain ⟨s', hq⟩ : ∃ q, qNop s = q := ⟨_, rfl⟩
  have c0 : w.cell? ⟨x, 0, none⟩ = some (.int .u8 0) := cell_of hr rfl
  have c1 : w.cell? ⟨x, 1, none⟩ = some (.int .i64 n) := cell_of hr rfl
  have c2 : w.cell? ⟨x, 2, none⟩ = some (.int .i64 p) := cell_of hr rfl
  have Hq := Lib.hid hq
  have H := Lib.hid h
  have Ha := Lib.hid ha
  have Hr := Lib.hid hr
  have Hn : Hid (x ∉ [f, b] ++ blk sl) := Lib.hid (by simp; exact ⟨ha.xf, ha.xb, ha.xl⟩)
  clear hq h ha hr
  go_enter Try.func67, Try.ntmps67
  go_wp2_with fail
  go_region_held3 (fun w' => w'.cell? ⟨x, 1, none⟩ = some (.int .i64 n) ∧ w'.cell? ⟨x, 2, none⟩ = some (.int .i64 p))
    (first | go_keep | exact ⟨cell_of hx1.out rfl, cell_of hx1.out rfl⟩ | (refine ⟨?_, ?_⟩ <;> go_keep))
    (first
      | (go_at_call 103; refine (q_add_odd' (H.out.drewN 1) n p hp Hq.out).mono ?_; rintro e w1 ⟨sl1, rfl, h1, e1⟩; have hx1 := Lib.hid (e1.keep.to Hr.out Hn.out); have H1 := Lib.hid h1; have E1 : Hid (Ev [f, b] sl w sl1 w1) := Lib.hid ((Ev.ofKeep (Keep.ofDrewN [] w 1) (by simp)).trans e1); clear h1 e1))
  have Ha1 := Lib.hid (apart_ev Ha.out hxl E1.out H1.out)
  have Hfin : Hid (FRep w1 f m b sl1 s' ∧ w1.heap[x]? = some (.cells ({ kind := 0, n := n, p := p } : Act).cells 128 (0, 0)) ∧ Ev [x, f, b] sl w sl1 w1 ∧ Apart x f m b sl1 []) :=
    Lib.hid ⟨H1.out, hx1.out, E1.out.mono (by simp), Ha1.out⟩
  go_wp2_with fail
  go_end0
  have hq := Hq.out
  simp only [hq]
  exact ⟨trivial, sl1, Hfin.out⟩
theorem body_addFirst_odd (x : Nat) {w : World} {f m b : Nat} {sl : Value} {s : St} (h : FRep w f m b sl s) (a : Act) (hr : w.heap[x]? = some (.cells a.cells 128 (0, 0))) (ha : Apart x f m b sl []) (hk : a.kind = 1) (hp : ¬ (0 ≤ a.p ∧ a.p < 16)) :
    Calls Try.prog 67 #[.pointer (some ⟨x, 0, none⟩), .pointer (some ⟨f, 0, none⟩)] w fun e w1 => e = .returned (.tuple #[]) ∧ ∃ sl1, FRep w1 f m b sl1 (qNop s) ∧
      w1.heap[x]? = some (.cells (a : Act).cells 128 (0, 0)) ∧ Ev [x, f, b] sl w sl1 w1 ∧ Apart x f m b sl1 [] := by
  have hxl := lt_of_block hr
  obtain ⟨kind, n, p⟩ := a
  simp only at hk
  subst hk
  simp only at hp
  skip
  obtain ⟨s', hq⟩ : ∃ q, qNop s = q := ⟨_, rfl⟩
  have c0 : w.cell? ⟨x, 0, none⟩ = some (.int .u8 1) := cell_of hr rfl
  have c1 : w.cell? ⟨x, 1, none⟩ = some (.int .i64 n) := cell_of hr rfl
  have c2 : w.cell? ⟨x, 2, none⟩ = some (.int .i64 p) := cell_of hr rfl
  have Hq := Lib.hid hq
  have H := Lib.hid h
  have Ha := Lib.hid ha
  have Hr := Lib.hid hr
  have Hn : Hid (x ∉ [f, b] ++ blk sl) := Lib.hid (by simp; exact ⟨ha.xf, ha.xb, ha.xl⟩)
  clear hq h ha hr
  go_enter Try.func67, Try.ntmps67
  go_wp2_with fail
  go_region_held3 (fun w' => w'.cell? ⟨x, 1, none⟩ = some (.int .i64 n) ∧ w'.cell? ⟨x, 2, none⟩ = some (.int .i64 p))
    (first | go_keep | exact ⟨cell_of hx1.out rfl, cell_of hx1.out rfl⟩ | (refine ⟨?_, ?_⟩ <;> go_keep))
    (first
      | (go_at_call 104; refine (q_addFirst_odd' (H.out.drewN 1) n p hp Hq.out).mono ?_; rintro e w1 ⟨sl1, rfl, h1, e1⟩; have hx1 := Lib.hid (e1.keep.to Hr.out Hn.out); have H1 := Lib.hid h1; have E1 : Hid (Ev [f, b] sl w sl1 w1) := Lib.hid ((Ev.ofKeep (Keep.ofDrewN [] w 1) (by simp)).trans e1); clear h1 e1))
  have Ha1 := Lib.hid (apart_ev Ha.out hxl E1.out H1.out)
  have Hfin : Hid (FRep w1 f m b sl1 s' ∧ w1.heap[x]? = some (.cells ({ kind := 1, n := n, p := p } : Act).cells 128 (0, 0)) ∧ Ev [x, f, b] sl w sl1 w1 ∧ Apart x f m b sl1 []) :=
    Lib.hid ⟨H1.out, hx1.out, E1.out.mono (by simp), Ha1.out⟩
  go_wp2_with fail
  go_end0
  have hq := Hq.out
  simp only [hq]
  exact ⟨trivial, sl1, Hfin.out⟩
theorem body_drop_odd (x : Nat) {w : World} {f m b : Nat} {sl : Value} {s : St} (h : FRep w f m b sl s) (a : Act) (hr : w.heap[x]? = some (.cells a.cells 128 (0, 0))) (ha : Apart x f m b sl []) (hk : a.kind = 2) (hp : ¬ (0 ≤ a.p ∧ a.p < 16)) :
    Calls Try.prog 67 #[.pointer (some ⟨x, 0, none⟩), .pointer (some ⟨f, 0, none⟩)] w fun e w1 => e = .returned (.tuple #[]) ∧ ∃ sl1, FRep w1 f m b sl1 (qNop s) ∧
      w1.heap[x]? = some (.cells (a : Act).cells 128 (0, 0)) ∧ Ev [x, f, b] sl w sl1 w1 ∧ Apart x f m b sl1 [] := by
  have hxl := lt_of_block hr
  obtain ⟨kind, n, p⟩ := a
  simp only at hk
  subst hk
  simp only at hp
  skip
  obtain ⟨s', hq⟩ : ∃ q, qNop s = q := ⟨_, rfl⟩
  have c0 : w.cell? ⟨x, 0, none⟩ = some (.int .u8 2) := cell_of hr rfl
  have c1 : w.cell? ⟨x, 1, none⟩ = some (.int .i64 n) := cell_of hr rfl
  have c2 : w.cell? ⟨x, 2, none⟩ = some (.int .i64 p) := cell_of hr rfl
  have Hq := Lib.hid hq
  have H := Lib.hid h
  have Ha := Lib.hid ha
  have Hr := Lib.hid hr
  have Hn : Hid (x ∉ [f, b] ++ blk sl) := Lib.hid (by simp; exact ⟨ha.xf, ha.xb, ha.xl⟩)
  clear hq h ha hr
  go_enter Try.func67, Try.ntmps67
  go_wp2_with fail
  go_region_held3 (fun w' => w'.cell? ⟨x, 1, none⟩ = some (.int .i64 n) ∧ w'.cell? ⟨x, 2, none⟩ = some (.int .i64 p))
    (first | go_keep | exact ⟨cell_of hx1.out rfl, cell_of hx1.out rfl⟩ | (refine ⟨?_, ?_⟩ <;> go_keep))
    (first
      | (go_at_call 105; refine (q_drop_odd' (H.out.drewN 1) n p hp Hq.out).mono ?_; rintro e w1 ⟨sl1, rfl, h1, e1⟩; have hx1 := Lib.hid (e1.keep.to Hr.out Hn.out); have H1 := Lib.hid h1; have E1 : Hid (Ev [f, b] sl w sl1 w1) := Lib.hid ((Ev.ofKeep (Keep.ofDrewN [] w 1) (by simp)).trans e1); clear h1 e1))
  have Ha1 := Lib.hid (apart_ev Ha.out hxl E1.out H1.out)
  have Hfin : Hid (FRep w1 f m b sl1 s' ∧ w1.heap[x]? = some (.cells ({ kind := 2, n := n, p := p } : Act).cells 128 (0, 0)) ∧ Ev [x, f, b] sl w sl1 w1 ∧ Apart x f m b sl1 []) :=
    Lib.hid ⟨H1.out, hx1.out, E1.out.mono (by simp), Ha1.out⟩
  go_wp2_with fail
  go_end0
  have hq := Hq.out
  simp only [hq]
  exact ⟨trivial, sl1, Hfin.out⟩
theorem body_add7 (x : Nat) {w : World} {f m b : Nat} {sl : Value} {s : St} (h : FRep w f m b sl s) (a : Act) (hr : w.heap[x]? = some (.cells a.cells 128 (0, 0))) (ha : Apart x f m b sl []) (hk : a.kind = 0) (hn : a.n = 50) (h7 : a.p = 7) (hv : (St.load 5 (lkAppend 20 50 s)).1 = 0) :
    Calls Try.prog 67 #[.pointer (some ⟨x, 0, none⟩), .pointer (some ⟨f, 0, none⟩)] w fun e w1 => e = .returned (.tuple #[]) ∧ ∃ sl1, FRep w1 f m b sl1 (qAdd7 s) ∧
      w1.heap[x]? = some (.cells (a : Act).cells 128 (0, 0)) ∧ Ev [x, f, b] sl w sl1 w1 ∧ Apart x f m b sl1 [] := by
  have hxl := lt_of_block hr
  obtain ⟨kind, n, p⟩ := a
  simp only at hk
  subst hk
  simp only at hn h7
  have HN50 := Lib.hid hn
  have HP7 := Lib.hid h7
  clear hn h7
  obtain ⟨s', hq⟩ : ∃ q, qAdd7 s = q := ⟨_, rfl⟩
  have c0 : w.cell? ⟨x, 0, none⟩ = some (.int .u8 0) := cell_of hr rfl
  have c1 : w.cell? ⟨x, 1, none⟩ = some (.int .i64 n) := cell_of hr rfl
  have c2 : w.cell? ⟨x, 2, none⟩ = some (.int .i64 p) := cell_of hr rfl
  have Hq := Lib.hid hq
  have H := Lib.hid h
  have Ha := Lib.hid ha
  have Hr := Lib.hid hr
  have Hn : Hid (x ∉ [f, b] ++ blk sl) := Lib.hid (by simp; exact ⟨ha.xf, ha.xb, ha.xl⟩)
  clear hq h ha hr
  go_enter Try.func67, Try.ntmps67
  go_wp2_with fail
  go_region_held3 (fun w' => w'.cell? ⟨x, 1, none⟩ = some (.int .i64 n) ∧ w'.cell? ⟨x, 2, none⟩ = some (.int .i64 p))
    (first | go_keep | exact ⟨cell_of hx1.out rfl, cell_of hx1.out rfl⟩ | (refine ⟨?_, ?_⟩ <;> go_keep))
    (first
      | (go_at_call 103; refine (q_add7n (H.out.drewN 1) n p HN50.out HP7.out hv Hq.out).mono ?_; rintro e w1 ⟨sl1, rfl, h1, e1⟩; have hx1 := Lib.hid (e1.keep.to Hr.out Hn.out); have H1 := Lib.hid h1; have E1 : Hid (Ev [f, b] sl w sl1 w1) := Lib.hid ((Ev.ofKeep (Keep.ofDrewN [] w 1) (by simp)).trans e1); clear h1 e1))
  have Ha1 := Lib.hid (apart_ev Ha.out hxl E1.out H1.out)
  have Hfin : Hid (FRep w1 f m b sl1 s' ∧ w1.heap[x]? = some (.cells ({ kind := 0, n := n, p := p } : Act).cells 128 (0, 0)) ∧ Ev [x, f, b] sl w sl1 w1 ∧ Apart x f m b sl1 []) :=
    Lib.hid ⟨H1.out, hx1.out, E1.out.mono (by simp), Ha1.out⟩
  go_wp2_with fail
  go_end0
  have hq := Hq.out
  simp only [hq]
  exact ⟨trivial, sl1, Hfin.out⟩
theorem body_qinit (x : Nat) {w : World} {f m b : Nat} {sl : Value} {s : St} (h : FRep w f m b sl s) (a : Act) (hr : w.heap[x]? = some (.cells a.cells 128 (0, 0))) (ha : Apart x f m b sl [])  (k0 : a.kind ≠ 0) (k1 : a.kind ≠ 1) (k2 : a.kind ≠ 2) :
    Calls Try.prog 67 #[.pointer (some ⟨x, 0, none⟩), .pointer (some ⟨f, 0, none⟩)] w fun e w1 => e = .returned (.tuple #[]) ∧ ∃ sl1, FRep w1 f m b sl1 (qInit s) ∧
      w1.heap[x]? = some (.cells (a : Act).cells 128 (0, 0)) ∧ Ev [x, f, b] sl w sl1 w1 ∧ Apart x f m b sl1 [] := by
  have hxl := lt_of_block hr
  obtain ⟨kind, n, p⟩ := a
  simp only at k0 k1 k2
  have k0' : (kind == 0) = false := by simpa using k0
  have k1' : (kind == 1) = false := by simpa using k1
  have k2' : (kind == 2) = false := by simpa using k2
  clear k0 k1 k2
  obtain ⟨s', hq⟩ : ∃ q, qInit s = q := ⟨_, rfl⟩
  have c0 : w.cell? ⟨x, 0, none⟩ = some (.int .u8 kind) := cell_of hr rfl
  have Hq := Lib.hid hq
  have H := Lib.hid h
  have Ha := Lib.hid ha
  have Hr := Lib.hid hr
  have Hn : Hid (x ∉ [f, b] ++ blk sl) := Lib.hid (by simp; exact ⟨ha.xf, ha.xb, ha.xl⟩)
  clear hq h ha hr
  go_enter Try.func67, Try.ntmps67
  go_wp2_with fail
  refine (q_init H.out Hq.out).mono ?_
  rintro e w1 ⟨sl1, rfl, h1, e1⟩
  have hx1 := Lib.hid (e1.keep.to Hr.out Hn.out)
  have H1 := Lib.hid h1
  have E1 := Lib.hid e1
  clear h1 e1
  have Ha1 := Lib.hid (apart_ev Ha.out hxl E1.out H1.out)
  have Hfin : Hid (FRep w1 f m b sl1 s' ∧ w1.heap[x]? = some (.cells ({ kind := kind, n := n, p := p } : Act).cells 128 (0, 0)) ∧ Ev [x, f, b] sl w sl1 w1 ∧ Apart x f m b sl1 []) :=
    Lib.hid ⟨H1.out, hx1.out, E1.out.mono (by simp), Ha1.out⟩
  go_wp2_with fail
  go_end0
  have hq := Hq.out
  simp only [hq]
  exact ⟨trivial, sl1, Hfin.out⟩

theorem bodyK : ∀ (y z : Addr) (wx : World), (callFunc 67 #[.pointer (some y), .pointer (some z)]).run Try.prog wx = .ok (.enter 67 #[.pointer (some y), .pointer (some z)]) wx := fun _ _ _ => by kernel_rfl
/-- The record of an act, which no body changes. -/
def ARep (a : Act) (x : Nat) (r : Unit) (o : List Nat) (w : World) : Prop := o = [] ∧ w.heap[x]? = some (.cells a.cells 128 (0, 0))
theorem aStays (a : Act) (x : Nat) : RStays x (ARep a x) := fun r o w w' S h k hx _ => ⟨h.1, k.to h.2 hx⟩
def unitU (r : Unit) (q : Unit) : Unit := ()
/-- Of a priority that is none nothing is done. -/
theorem oddOK (a : Act) (x : Nat) (hk : a.kind = 0 ∨ a.kind = 1 ∨ a.kind = 2) (hp : ¬ (0 ≤ a.p ∧ a.p < 16)) : BodyOK 67 x (ARep a x) (progB (fun _ => (pure () : Prog Unit)) unitU) := by
  rintro f m b w sl s r o hf ⟨rfl, hr⟩ ha _
  have fin : ∀ (e : Ending) (w1 : World), (e = .returned (.tuple #[]) ∧ ∃ sl1, FRep w1 f m b sl1 (qNop s) ∧ w1.heap[x]? = some (.cells a.cells 128 (0, 0)) ∧ Ev [x, f, b] sl w sl1 w1 ∧ Apart x f m b sl1 []) →
      e = .returned (.tuple #[]) ∧ ∃ sl1 o1, FRep w1 f m b sl1 s ∧ ARep a x r o1 w1 ∧ EvO [x, f, b] (blk sl ++ []) w (blk sl1 ++ o1) w1 ∧ Apart x f m b sl1 o1 ∧ (∀ k ∈ o1, k < w1.heap.size) := by
    rintro e w1 ⟨he, sl1, h1, h2, h3, h4⟩
    exact ⟨he, sl1, [], h1, ⟨rfl, h2⟩, h3.toO [], h4, by simp⟩
  rcases hk with k0 | k0 | k0
  · exact (body_add_odd x hf a hr ha k0 hp).mono fun e w1 h => fin e w1 h
  · exact (body_addFirst_odd x hf a hr ha k0 hp).mono fun e w1 h => fin e w1 h
  · exact (body_drop_odd x hf a hr ha k0 hp).mono fun e w1 h => fin e w1 h
/-- Init, as a program. -/
def qIniP : Nat → Prog Unit
  | 0 => pure ()
  | k + 1 => do
    qIniP k
    initP (6 + (k : Int) * 2)
def qInitP : Prog Unit := do
  st 5 0
  qIniP 16
theorem qIni_run : ∀ (k : Nat) (s : St), (qIniP k).run s = ((), qIni k s)
  | 0, s => rfl
  | k + 1, s => by
    unfold qIniP qIni
    simp only [r_bind, qIni_run k, init_run]
theorem qInit_run (s : St) : qInitP.run s = ((), qInit s) := by
  unfold qInitP qInit
  simp only [r_bind, r_st, qIni_run]
theorem initOK (x : Nat) : BodyOK 67 x (ARep ⟨3, 0, 0⟩ x) (progB (fun _ => qInitP) unitU) := by
  rintro f m b w sl s r o hf ⟨rfl, hr⟩ ha _
  have e2 : (progB (fun _ : Unit => qInitP) unitU r s).2 = qInit s := by simp only [progB, qInit_run]
  rw [e2]
  refine (body_qinit x hf ⟨3, 0, 0⟩ hr ha (show ¬ (3 : Int) = 0 by decide) (show ¬ (3 : Int) = 1 by decide) (show ¬ (3 : Int) = 2 by decide)).mono ?_
  rintro e w1 ⟨he, sl1, h1, h2, h3, h4⟩
  exact ⟨he, sl1, [], h1, ⟨rfl, h2⟩, h3.toO [], h4, by simp⟩
def M6 : List Int := [0, 0, 0, 0, 0, 0, 6, 6, 8, 8, 10, 10, 12, 12, 14, 14, 16, 16, 18, 18, 20, 20, 22, 22, 24, 24, 26, 26, 28, 28, 30, 30, 32, 32, 34, 34, 36, 36] ++ List.replicate 62 0
theorem qinit_solo : qInitP.cost (List.replicate 100 0) ≤ 5000 ∧ (qInitP.solo (List.replicate 100 0)).2 = M6 := by decide +kernel
theorem made06 (w : World) : Calls Try.prog 65 #[] w fun e w' => e = .returned (.pointer (some ⟨w.heap.size + 1, 0, none⟩)) ∧ MemRep 134 w' (w.heap.size + 1) w.heap.size M6 ∧ Keep [] w w' := by
  have Hi := Lib.hid qinit_solo
  go_enter Try.func65, Try.ntmps65
  go_wp2_with fail
  refine (word_new 100 _ (by omega)).mono ?_
  rintro e w1 ⟨rfl, hm1, hk1, hs1⟩
  have hr : (List.replicate (min (max (100 : Int) 0) 4000).toNat (0 : Int)) = List.replicate 100 0 := by decide
  rw [hr] at hm1
  have hz1 : w.heap.size + 2 ≤ w1.heap.size := by omega
  have M1 := Lib.hid (hm1.keep ((Keep.refl [] w1).alloc (.cells (Act.cells ⟨3, 0, 0⟩) 128)) (by simp) (by simp))
  have X1 := Lib.hid (one_new w1 (.cells (Act.cells ⟨3, 0, 0⟩) 128))
  have K1 := Lib.hid (hk1.alloc (.cells (Act.cells ⟨3, 0, 0⟩) 128))
  have hlt := lt_of_block X1.out
  clear hm1 hk1 hs1 hr
  go_wp2_with fail
  refine (acts_run bodyK (initOK w1.heap.size) (aStays ⟨3, 0, 0⟩ _) (fun _ _ => rfl) (fun _ _ _ => rfl) M1.out (r := ()) ⟨rfl, X1.out⟩ (by omega) (by omega) hlt 5000 (by omega) Hi.out.1).mono ?_
  rintro e w2 ⟨o', rfl, hm2, _, hk2, _⟩
  rw [Hi.out.2] at hm2
  have M2 := Lib.hid hm2
  have K2 := Lib.hid (K1.out.transS hk2.keep (T := []) (by simp) (fun y hy hlt => by simp at hy; omega))
  clear hm2 hk2
  go_wp2_with fail
  go_ret
  exact ⟨rfl, M2.out, K2.out⟩
/-! ### Add, at the states of its run -/
def addP7 : Prog Unit := do
  aheadP 20 50
  let v ← ld 5
  st 5 128
theorem add7_run (s : St) : addP7.run s = ((), qAdd7 s) := by
  unfold addP7 qAdd7 lkAppend
  simp only [r_bind, ahead_run, r_ld, r_st]
def A7 : List AOp := [.load (wrap64 (20 + 1)), .store (wrap64 20) 50, .store (wrap64 (50 + 1)) 20, .store (wrap64 50) 20, .store (wrap64 (20 + 1)) 50, .load 5, .store 5 128]
theorem effs7 : effs A7 M6 = [20, 0, 0, 0, 0, 0, 0] := by decide +kernel
def M7 : List Int := [0, 0, 0, 0, 0, 128, 6, 6, 8, 8, 10, 10, 12, 12, 14, 14, 16, 16, 18, 18, 50, 50, 22, 22, 24, 24, 26, 26, 28, 28, 30, 30, 32, 32, 34, 34, 36, 36, 0, 0, 0, 0, 0, 0, 0, 0, 0, 0, 0, 0, 20, 20] ++ List.replicate 48 0
theorem add7_solo : addP7.cost M6 ≤ 5000 ∧ (addP7.solo M6).2 = M7 := by decide +kernel
theorem acc_off {o : AOp} {s : St} (h : s.off = true) : St.acc o s = (0, s) := by simp [St.acc, St.again, h]
def Jo (A : List AOp) (M : List Int) (i : Nat) (s : St) : Prop := s.off = true ∨ J A M i s
theorem Jo.acc {A : List AOp} {M : List Int} {i : Nat} {s : St} {o : AOp} (h : Jo A M i s) (ho : A[i]? = some o) : ((St.acc o s).1 = 0 ∨ (St.acc o s).1 = (effs A M)[i]?.getD 0) ∧ Jo A M (i + 1) (St.acc o s).2 := by
  rcases h with h | h
  · rw [acc_off h]
    exact ⟨.inl rfl, .inl h⟩
  · rcases h.acc ho with ⟨h1, h2⟩ | ⟨h1, h2⟩
    · exact ⟨.inl h2, .inl h1⟩
    · exact ⟨.inr h1, .inr h2⟩
theorem Jo.store {A : List AOp} {M : List Int} {i : Nat} {s : St} {a v : Int} (h : Jo A M i s) (ho : A[i]? = some (.store a v)) : Jo A M (i + 1) (St.store a v s) := by
  rw [St.store_acc]
  exact (h.acc ho).2
theorem add7_zero {s : St} (h : J A7 M6 0 s) : (St.load 5 (lkAppend 20 50 s)).1 = 0 := by
  unfold lkAppend lkAhead
  simp only [St.load_acc]
  rcases h.acc (o := .load (wrap64 (20 + 1))) rfl with ⟨h1, h2⟩ | ⟨h1, h2⟩
  · rw [if_pos h1, acc_off h1]
  · have hv : (St.acc (.load (wrap64 (20 + 1))) s).1 = 20 := by rw [h1, effs7]; rfl
    rw [if_neg (by rw [h2.off]; simp), hv]
    have g1 : Jo A7 M6 5 (lkLink 50 20 (lkLink 20 50 (St.acc (.load (wrap64 (20 + 1))) s).2)) := by
      unfold lkLink
      exact (((Jo.store (.inr h2) rfl).store rfl).store rfl).store rfl
    have g2 := (g1.acc (o := .load 5) rfl).1
    rcases g2 with g2 | g2
    · exact g2
    · rw [g2, effs7]; rfl
theorem add7At (x : Nat) {s : St} (hj : J A7 M6 0 s) : BodyAt 67 x (ARep ⟨0, 50, 7⟩ x) (progB (fun _ => addP7) unitU) () s := by
  rintro f m b w sl o hf ⟨rfl, hr⟩ ha _
  have e2 : (progB (fun _ : Unit => addP7) unitU () s).2 = qAdd7 s := by simp only [progB, add7_run]
  rw [e2]
  refine (body_add7 x hf ⟨0, 50, 7⟩ hr ha rfl rfl rfl (add7_zero hj)).mono ?_
  rintro e w1 ⟨he, sl1, h1, h2, h3, h4⟩
  exact ⟨he, sl1, [], h1, ⟨rfl, h2⟩, h3.toO [], h4, by simp⟩
theorem add7_feed : (∀ i, i < A7.length → ∃ o k, addP7.feed ((effs A7 M6).take i) = .acc o k ∧ A7[i]? = some o) ∧ ∃ a, addP7.feed (effs A7 M6) = .ret a := by
  rw [effs7]
  refine ⟨fun i hi => ?_, ⟨(), rfl⟩⟩
  match i, hi with
  | 0, _ => exact ⟨_, _, rfl, rfl⟩
  | 1, _ => exact ⟨_, _, rfl, rfl⟩
  | 2, _ => exact ⟨_, _, rfl, rfl⟩
  | 3, _ => exact ⟨_, _, rfl, rfl⟩
  | 4, _ => exact ⟨_, _, rfl, rfl⟩
  | 5, _ => exact ⟨_, _, rfl, rfl⟩
  | 6, _ => exact ⟨_, _, rfl, rfl⟩
end Law06
end Go.Proofs.Ytkmamebaichboaa
