/- The body of law 8's acts. No conditions but those stated. -/
import Derived.Test.YtkmamebaichboaaRing
namespace Go.Proofs.Ytkmamebaichboaa
open Go.ChangeShapes Go.WideShapes Go.ChangeAt Go.RowKit
set_option linter.unusedVariables false
set_option linter.unusedSimpArgs false

theorem own_ne {x : Nat} {sl : Value} (h : x ∉ blk sl) : ∀ k, sl.ownBlock = some k → k ∉ [x] := fun k hk e => h (by simp at e; subst e; exact mem_blk.2 hk)
theorem apart_ev {x f m b : Nat} {sl sl' : Value} {w w' : World} {s' : St} (ha : Apart x f m b sl []) (hx : x < w.heap.size) (he : Ev [f, b] sl w sl' w') (hr : FRep w' f m b sl' s') : Apart x f m b sl' [] := by
  refine ⟨ha.xf, ha.xm, ha.xb, fun hin => ?_, by simp, by simp, by simp, by simp, by simp⟩
  rw [mem_blk] at hin
  rcases he.new with e | e
  · exact ha.xl (mem_blk.2 (e ▸ hin))
  · have := e x hin; omega

namespace Law08
structure Act where
  kind : Int
  c : Int
  v : Int
  got : Int
  ok : Bool
  n : Int
  deriving DecidableEq
def Act.cells (a : Act) : Array Value := #[.int .u8 a.kind, .int .i64 a.c, .int .i64 a.v, .int .i64 a.got, .bool a.ok, .int .i64 a.n]
def ActRep (x : Nat) (a : Act) (o : List Nat) (w : World) : Prop := o = [] ∧ w.heap[x]? = some (.cells a.cells 65 (0, 0))
theorem actStays (x : Nat) : RStays x (ActRep x) := fun r o w w' S h k hx _ => ⟨h.1, k.to h.2 hx⟩
theorem body_put (x : Nat) {w : World} {f m b : Nat} {sl : Value} {s : St} (h : FRep w f m b sl s) (a : Act) (hr : w.heap[x]? = some (.cells a.cells 65 (0, 0))) (ha : Apart x f m b sl []) (hk : a.kind = 0)  :
    Calls Try.prog 39 #[.pointer (some ⟨x, 0, none⟩), .pointer (some ⟨f, 0, none⟩)] w fun e w1 => e = .returned (.tuple #[]) ∧ ∃ sl1, FRep w1 f m b sl1 (ringPut 3 a.c a.v s).2 ∧
      w1.heap[x]? = some (.cells ({ a with ok := (ringPut 3 a.c a.v s).1 } : Act).cells 65 (0, 0)) ∧ Ev [x, f, b] sl w sl1 w1 ∧ Apart x f m b sl1 [] := by
  have hxl := lt_of_block hr
  obtain ⟨kind, c, v, got, ok, n⟩ := a
  simp only at hk
  subst hk
  rcases hq : ringPut 3 c v s with ⟨r, s'⟩
  have c0 : w.cell? ⟨x, 0, none⟩ = some (.int .u8 0) := cell_of hr rfl
  have c1 : w.cell? ⟨x, 1, none⟩ = some (.int .i64 c) := cell_of hr rfl
  have c2 : w.cell? ⟨x, 2, none⟩ = some (.int .i64 v) := cell_of hr rfl
  have Hq := Lib.hid hq
  have H := Lib.hid h
  have Ha := Lib.hid ha
  have Hr := Lib.hid hr
  have Hn : Hid (x ∉ [f, b] ++ blk sl) := Lib.hid (by simp; exact ⟨ha.xf, ha.xb, ha.xl⟩)
  clear hq h ha hr
  go_enter Try.func39, Try.ntmps39
  go_wp2_with fail
  go_region_held3 (fun w' => w'.cell? ⟨x, 1, none⟩ = some (.int .i64 c) ∧ w'.cell? ⟨x, 2, none⟩ = some (.int .i64 v))
    (first | go_keep | exact ⟨cell_of hx1.out rfl, cell_of hx1.out rfl⟩ | (refine ⟨?_, ?_⟩ <;> go_keep) | exact ⟨cell_of (block_set 4 _ hx1.out) rfl, cell_of (block_set 4 _ hx1.out) rfl⟩)
    (first
      | (go_at_call 79; refine (ring_put (H.out.drewN 1) 3 c v (by omega) Hq.out).mono ?_; rintro e w1 ⟨sl1, rfl, h1, e1⟩; have hx1 := Lib.hid (e1.keep.to Hr.out Hn.out); have H1 := Lib.hid h1; have E1 : Hid (Ev [f, b] sl w sl1 w1) := Lib.hid ((Ev.ofKeep (Keep.ofDrewN [] w 1) (by simp)).trans e1); have f4 := free_of (i := 4) hx1.out; have d4 := cell_of (i := 4) (v := .bool ok) hx1.out rfl; clear h1 e1))
  have Ha1 := Lib.hid (apart_ev Ha.out hxl E1.out H1.out)
  have hk : Keep [x] w1 (w1.setCell ⟨x, 4, none⟩ (.bool r)) := (Keep.refl _ _).setCell (.inr (by simp)) _
  have Hfin : Hid (FRep (w1.setCell ⟨x, 4, none⟩ (.bool r)) f m b sl1 s' ∧ (w1.setCell ⟨x, 4, none⟩ (.bool r)).heap[x]? = some (.cells ({ kind := 0, c := c, v := v, got := got, ok := r, n := n } : Act).cells 65 (0, 0)) ∧ Ev [x, f, b] sl w sl1 (w1.setCell ⟨x, 4, none⟩ (.bool r)) ∧ Apart x f m b sl1 []) :=
    Lib.hid ⟨H1.out.keep hk (by simpa using Ha1.out.xf.symm) (by simpa using Ha1.out.xm.symm) (by simpa using Ha1.out.xb.symm) (own_ne Ha1.out.xl), block_set 4 _ (hx1.out), (E1.out.mono (by simp)).trans (Ev.ofKeep hk (by simp)), Ha1.out⟩
  go_wp2_with fail
  go_end0
  have hq := Hq.out
  simp only [hq]
  exact ⟨trivial, sl1, Hfin.out⟩
theorem body_get (x : Nat) {w : World} {f m b : Nat} {sl : Value} {s : St} (h : FRep w f m b sl s) (a : Act) (hr : w.heap[x]? = some (.cells a.cells 65 (0, 0))) (ha : Apart x f m b sl []) (hk : a.kind = 1)  :
    Calls Try.prog 39 #[.pointer (some ⟨x, 0, none⟩), .pointer (some ⟨f, 0, none⟩)] w fun e w1 => e = .returned (.tuple #[]) ∧ ∃ sl1, FRep w1 f m b sl1 (ringGet 3 a.c s).2 ∧
      w1.heap[x]? = some (.cells ({ a with got := (ringGet 3 a.c s).1.1, ok := (ringGet 3 a.c s).1.2 } : Act).cells 65 (0, 0)) ∧ Ev [x, f, b] sl w sl1 w1 ∧ Apart x f m b sl1 [] := by
  have hxl := lt_of_block hr
  obtain ⟨kind, c, v, got, ok, n⟩ := a
  simp only at hk
  subst hk
  rcases hq : ringGet 3 c s with ⟨⟨r0, r1⟩, s'⟩
  have c0 : w.cell? ⟨x, 0, none⟩ = some (.int .u8 1) := cell_of hr rfl
  have c1 : w.cell? ⟨x, 1, none⟩ = some (.int .i64 c) := cell_of hr rfl
  have Hq := Lib.hid hq
  have H := Lib.hid h
  have Ha := Lib.hid ha
  have Hr := Lib.hid hr
  have Hn : Hid (x ∉ [f, b] ++ blk sl) := Lib.hid (by simp; exact ⟨ha.xf, ha.xb, ha.xl⟩)
  clear hq h ha hr
  go_enter Try.func39, Try.ntmps39
  go_wp2_with fail
  refine (ring_get H.out 3 c (by omega) Hq.out).mono ?_
  rintro e w1 ⟨sl1, rfl, h1, e1⟩
  have hx1 := Lib.hid (e1.keep.to Hr.out Hn.out)
  have H1 := Lib.hid h1
  have E1 := Lib.hid e1
  have f3 := free_of (i := 3) hx1.out
  have d3 := cell_of (i := 3) (v := .int .i64 got) hx1.out rfl
  have f4 := free_of (i := 4) hx1.out
  have d4 := cell_of (i := 4) (v := .bool ok) hx1.out rfl
  clear h1 e1
  have Ha1 := Lib.hid (apart_ev Ha.out hxl E1.out H1.out)
  have hk : Keep [x] w1 ((w1.setCell ⟨x, 3, none⟩ (.int .i64 r0)).setCell ⟨x, 4, none⟩ (.bool r1)) := ((Keep.refl _ _).setCell (.inr (by simp)) _).setCell (.inr (by simp)) _
  have Hfin : Hid (FRep ((w1.setCell ⟨x, 3, none⟩ (.int .i64 r0)).setCell ⟨x, 4, none⟩ (.bool r1)) f m b sl1 s' ∧ ((w1.setCell ⟨x, 3, none⟩ (.int .i64 r0)).setCell ⟨x, 4, none⟩ (.bool r1)).heap[x]? = some (.cells ({ kind := 1, c := c, v := v, got := r0, ok := r1, n := n } : Act).cells 65 (0, 0)) ∧ Ev [x, f, b] sl w sl1 ((w1.setCell ⟨x, 3, none⟩ (.int .i64 r0)).setCell ⟨x, 4, none⟩ (.bool r1)) ∧ Apart x f m b sl1 []) :=
    Lib.hid ⟨H1.out.keep hk (by simpa using Ha1.out.xf.symm) (by simpa using Ha1.out.xm.symm) (by simpa using Ha1.out.xb.symm) (own_ne Ha1.out.xl), block_set 4 _ (block_set 3 _ (hx1.out)), (E1.out.mono (by simp)).trans (Ev.ofKeep hk (by simp)), Ha1.out⟩
  go_wp2_with fail
  go_end0
  have hq := Hq.out
  simp only [hq]
  exact ⟨trivial, sl1, Hfin.out⟩
theorem body_len (x : Nat) {w : World} {f m b : Nat} {sl : Value} {s : St} (h : FRep w f m b sl s) (a : Act) (hr : w.heap[x]? = some (.cells a.cells 65 (0, 0))) (ha : Apart x f m b sl []) (hk : a.kind = 2)  :
    Calls Try.prog 39 #[.pointer (some ⟨x, 0, none⟩), .pointer (some ⟨f, 0, none⟩)] w fun e w1 => e = .returned (.tuple #[]) ∧ ∃ sl1, FRep w1 f m b sl1 (ringLen 3 s).2 ∧
      w1.heap[x]? = some (.cells ({ a with n := (ringLen 3 s).1 } : Act).cells 65 (0, 0)) ∧ Ev [x, f, b] sl w sl1 w1 ∧ Apart x f m b sl1 [] := by
  have hxl := lt_of_block hr
  obtain ⟨kind, c, v, got, ok, n⟩ := a
  simp only at hk
  subst hk
  rcases hq : ringLen 3 s with ⟨r, s'⟩
  have c0 : w.cell? ⟨x, 0, none⟩ = some (.int .u8 2) := cell_of hr rfl
  have Hq := Lib.hid hq
  have H := Lib.hid h
  have Ha := Lib.hid ha
  have Hr := Lib.hid hr
  have Hn : Hid (x ∉ [f, b] ++ blk sl) := Lib.hid (by simp; exact ⟨ha.xf, ha.xb, ha.xl⟩)
  clear hq h ha hr
  go_enter Try.func39, Try.ntmps39
  go_wp2_with fail
  refine (ring_len H.out 3 (by omega) Hq.out).mono ?_
  rintro e w1 ⟨sl1, rfl, h1, e1⟩
  have hx1 := Lib.hid (e1.keep.to Hr.out Hn.out)
  have H1 := Lib.hid h1
  have E1 := Lib.hid e1
  have f5 := free_of (i := 5) hx1.out
  have d5 := cell_of (i := 5) (v := .int .i64 n) hx1.out rfl
  clear h1 e1
  have Ha1 := Lib.hid (apart_ev Ha.out hxl E1.out H1.out)
  have hk : Keep [x] w1 (w1.setCell ⟨x, 5, none⟩ (.int .i64 r)) := (Keep.refl _ _).setCell (.inr (by simp)) _
  have Hfin : Hid (FRep (w1.setCell ⟨x, 5, none⟩ (.int .i64 r)) f m b sl1 s' ∧ (w1.setCell ⟨x, 5, none⟩ (.int .i64 r)).heap[x]? = some (.cells ({ kind := 2, c := c, v := v, got := got, ok := ok, n := r } : Act).cells 65 (0, 0)) ∧ Ev [x, f, b] sl w sl1 (w1.setCell ⟨x, 5, none⟩ (.int .i64 r)) ∧ Apart x f m b sl1 []) :=
    Lib.hid ⟨H1.out.keep hk (by simpa using Ha1.out.xf.symm) (by simpa using Ha1.out.xm.symm) (by simpa using Ha1.out.xb.symm) (own_ne Ha1.out.xl), block_set 5 _ (hx1.out), (E1.out.mono (by simp)).trans (Ev.ofKeep hk (by simp)), Ha1.out⟩
  go_wp2_with fail
  go_end0
  have hq := Hq.out
  simp only [hq]
  exact ⟨trivial, sl1, Hfin.out⟩
theorem body_clear (x : Nat) {w : World} {f m b : Nat} {sl : Value} {s : St} (h : FRep w f m b sl s) (a : Act) (hr : w.heap[x]? = some (.cells a.cells 65 (0, 0))) (ha : Apart x f m b sl [])  (k0 : a.kind ≠ 0) (k1 : a.kind ≠ 1) (k2 : a.kind ≠ 2) :
    Calls Try.prog 39 #[.pointer (some ⟨x, 0, none⟩), .pointer (some ⟨f, 0, none⟩)] w fun e w1 => e = .returned (.tuple #[]) ∧ ∃ sl1, FRep w1 f m b sl1 (ringClear 3 s) ∧
      w1.heap[x]? = some (.cells (a : Act).cells 65 (0, 0)) ∧ Ev [x, f, b] sl w sl1 w1 ∧ Apart x f m b sl1 [] := by
  have hxl := lt_of_block hr
  obtain ⟨kind, c, v, got, ok, n⟩ := a
  simp only at k0 k1 k2
  have k0' : (kind == 0) = false := by simpa using k0
  have k1' : (kind == 1) = false := by simpa using k1
  have k2' : (kind == 2) = false := by simpa using k2
  clear k0 k1 k2
  obtain ⟨s', hq⟩ : ∃ q, ringClear 3 s = q := ⟨_, rfl⟩
  have c0 : w.cell? ⟨x, 0, none⟩ = some (.int .u8 kind) := cell_of hr rfl
  have Hq := Lib.hid hq
  have H := Lib.hid h
  have Ha := Lib.hid ha
  have Hr := Lib.hid hr
  have Hn : Hid (x ∉ [f, b] ++ blk sl) := Lib.hid (by simp; exact ⟨ha.xf, ha.xb, ha.xl⟩)
  clear hq h ha hr
  go_enter Try.func39, Try.ntmps39
  go_wp2_with fail
  refine (ring_clear H.out 3 (by omega) Hq.out).mono ?_
  rintro e w1 ⟨sl1, rfl, h1, e1⟩
  have hx1 := Lib.hid (e1.keep.to Hr.out Hn.out)
  have H1 := Lib.hid h1
  have E1 := Lib.hid e1
  clear h1 e1
  have Ha1 := Lib.hid (apart_ev Ha.out hxl E1.out H1.out)
  have Hfin : Hid (FRep w1 f m b sl1 s' ∧ w1.heap[x]? = some (.cells ({ kind := kind, c := c, v := v, got := got, ok := ok, n := n } : Act).cells 65 (0, 0)) ∧ Ev [x, f, b] sl w sl1 w1 ∧ Apart x f m b sl1 []) :=
    Lib.hid ⟨H1.out, hx1.out, E1.out.mono (by simp), Ha1.out⟩
  go_wp2_with fail
  go_end0
  have hq := Hq.out
  simp only [hq]
  exact ⟨trivial, sl1, Hfin.out⟩

def actB (a : Act) (s : St) : Act × St :=
  if a.kind = 0 then ({ a with ok := (ringPut 3 a.c a.v s).1 }, (ringPut 3 a.c a.v s).2)
  else if a.kind = 1 then ({ a with got := (ringGet 3 a.c s).1.1, ok := (ringGet 3 a.c s).1.2 }, (ringGet 3 a.c s).2)
  else if a.kind = 2 then ({ a with n := (ringLen 3 s).1 }, (ringLen 3 s).2)
  else (a, ringClear 3 s)
theorem to_body {x : Nat} {B : Act → St → Act × St} (h : ∀ (f m b : Nat) (w : World) (sl : Value) (s : St) (a : Act), FRep w f m b sl s → w.heap[x]? = some (.cells a.cells 65 (0, 0)) → Apart x f m b sl [] →
    Calls Try.prog 39 #[.pointer (some ⟨x, 0, none⟩), .pointer (some ⟨f, 0, none⟩)] w fun e w1 => e = .returned (.tuple #[]) ∧ ∃ sl1, FRep w1 f m b sl1 (B a s).2 ∧
      w1.heap[x]? = some (.cells (B a s).1.cells 65 (0, 0)) ∧ Ev [x, f, b] sl w sl1 w1 ∧ Apart x f m b sl1 []) : BodyOK 39 x (ActRep x) B := by
  rintro f m b w sl s a o hf ⟨rfl, hr⟩ ha _
  refine (h f m b w sl s a hf hr ha).mono ?_
  rintro e w1 ⟨he, sl1, h1, h2, h3, h4⟩
  exact ⟨he, sl1, [], h1, ⟨rfl, h2⟩, h3.toO [], h4, by simp⟩
theorem bodyOK (x : Nat) : BodyOK 39 x (ActRep x) actB := by
  refine to_body fun f m b w sl s a hf hr ha => ?_
  unfold actB
  by_cases k0 : a.kind = 0
  · simp only [if_pos k0]; exact body_put x hf a hr ha k0
  · by_cases k1 : a.kind = 1
    · simp only [if_neg k0, if_pos k1]; exact body_get x hf a hr ha k1
    · by_cases k2 : a.kind = 2
      · simp only [if_neg k0, if_neg k1, if_pos k2]; exact body_len x hf a hr ha k2
      · simp only [if_neg k0, if_neg k1, if_neg k2]; exact body_clear x hf a hr ha k0 k1 k2
theorem bodyK : ∀ (y z : Addr) (wx : World), (callFunc 39 #[.pointer (some y), .pointer (some z)]).run Try.prog wx = .ok (.enter 39 #[.pointer (some y), .pointer (some z)]) wx := fun _ _ _ => by kernel_rfl
end Law08
end Go.Proofs.Ytkmamebaichboaa
