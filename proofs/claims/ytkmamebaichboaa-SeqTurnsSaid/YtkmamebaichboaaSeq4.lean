/- Law 4: the bodies of a Write and of a Read; the same as programs; each run alone. No conditions but those stated. -/
import Derived.Test.YtkmamebaichboaaSeq3
import Derived.Test.YtkmamebaichboaaRunR
import Derived.Test.YtkmamebaichboaaActs
import Derived.Deep.RegionHeld3
namespace Go.Proofs.Ytkmamebaichboaa
open Go.ChangeShapes Go.WideShapes Go.ChangeAt Go.RowKit
set_option linter.unusedVariables false
set_option linter.unusedSimpArgs false
namespace SeqL
open Prog
/-! ### As programs -/
def storesP (pos : Int) : Nat → List Int → Prog Unit
  | _, [] => pure ()
  | i, v :: l => do
    st (pos + 1 + i) v
    storesP pos (i + 1) l
theorem stores_run (pos : Int) : ∀ (l : List Int) (i : Nat) (s : St), (storesP pos i l).run s = ((), seqStores pos i l s)
  | [], i, s => rfl
  | v :: l, i, s => by
    simp only [storesP, r_bind, r_st, seqStores]
    exact stores_run pos l (i + 1) _
def writeP (pos : Int) (l : List Int) : Prog Unit :=
  if seqW l.length = 0 then pure () else do
    let c ← ld pos
    st pos (wrap64 (c + 1))
    storesP pos 0 l
    st pos (wrap64 (c + 2))
theorem write_run (pos : Int) (l : List Int) (s : St) : (writeP pos l).run s = ((), seqWrite pos l s) := by
  unfold writeP seqWrite
  by_cases h0 : seqW l.length = 0
  · simp [h0]
  · simp only [if_neg h0, r_bind, r_ld, r_st, stores_run]
def evenP (pos : Int) : Nat → Int → Prog Int
  | 0, c => pure c
  | n + 1, c => do
    let o ← isOff
    if o then pure c else if c.tmod 2 = 0 then pure c else do
      let c' ← ld pos
      evenP pos n c'
theorem even_run (pos : Int) : ∀ (n : Nat) (c : Int) (s : St), (evenP pos n c).run s = seqEvenL pos n c s
  | 0, c, s => rfl
  | n + 1, c, s => by
    simp only [evenP, seqEvenL, r_bind, r_off]
    by_cases h1 : s.off = true
    · simp [h1]
    · by_cases h2 : c.tmod 2 = 0
      · simp [h1, h2]
      · simp only [h1, h2, if_false, r_bind, r_ld, Bool.false_eq_true]
        exact even_run pos n _ _
def loadsP (pos : Int) : Nat → Nat → Prog (List Int)
  | _, 0 => pure []
  | i, n + 1 => do
    let v ← ld (pos + 1 + i)
    let l ← loadsP pos (i + 1) n
    pure (v :: l)
theorem loads_run (pos : Int) : ∀ (n i : Nat) (s : St), (loadsP pos i n).run s = seqLoads pos i n s
  | 0, i, s => rfl
  | n + 1, i, s => by
    simp only [loadsP, seqLoads, r_bind, r_ld, r_pure]
    rw [loads_run pos n (i + 1) _]
def takeP (pos : Int) (n N : Nat) : Nat → Prog (List Int)
  | 0 => pure []
  | k + 1 => do
    let c0 ← ld pos
    let c ← evenP pos N c0
    let l ← loadsP pos 0 n
    let d ← ld pos
    let o ← isOff
    if o then pure [] else if d = c then pure l else takeP pos n N k
theorem take_run (pos : Int) (n : Nat) : ∀ (k : Nat) (s : St), (takeP pos n WN k).run s = seqTakeL pos n k s
  | 0, s => rfl
  | k + 1, s => by
    simp only [takeP, r_bind, r_ld, r_off, even_run, loads_run]
    show _ = if (St.load pos (seqLoads pos 0 n (seqEven pos s).2).2).2.off then ([], (St.load pos (seqLoads pos 0 n (seqEven pos s).2).2).2) else if (St.load pos (seqLoads pos 0 n (seqEven pos s).2).2).1 = (seqEven pos s).1 then ((seqLoads pos 0 n (seqEven pos s).2).1, (St.load pos (seqLoads pos 0 n (seqEven pos s).2).2).2) else seqTakeL pos n k (St.load pos (seqLoads pos 0 n (seqEven pos s).2).2).2
    rw [show seqEvenL pos WN (St.load pos s).1 (St.load pos s).2 = seqEven pos s from rfl]
    generalize seqEven pos s = q1
    generalize seqLoads pos 0 n q1.2 = q2
    generalize St.load pos q2.2 = q3
    by_cases h1 : q3.2.off = true
    · simp [h1]
    · by_cases h2 : q3.1 = q1.1
      · simp [h1, h2]
      · simp only [h1, h2, if_false, Bool.false_eq_true]
        exact take_run pos n k _
def readP (pos N : Int) : Prog (List Int) := if seqW N = 0 then pure [] else takeP pos N.toNat WN WN
theorem read_run (pos N : Int) (s : St) : (readP pos N).run s = seqRead pos N s := by
  unfold readP seqRead
  by_cases h0 : seqW N = 0
  · simp [h0]
  · simp only [if_neg h0]
    exact take_run _ _ _ _
/-! ### The bodies -/
def WRec (x : Nat) (ao : Option Addr) (cap : Nat) (l : List Int) (pos : Int) (r : Unit) (o : List Nat) (w : World) : Prop :=
  o = [] ∧ w.heap[x]? = some (.cells #[.int .i64 pos, .slice ao l.length cap] 89 (0, 0)) ∧ IntsAt w ao l ∧ l.length ≤ 1000 ∧ x ∉ roI ao
theorem ints_keep {S : List Nat} {w w' : World} {ao : Option Addr} {l : List Int} (h : IntsAt w ao l) (k : Keep S w w') (hs : ∀ b ∈ roI ao, b ∉ S) : IntsAt w' ao l := fun i hi => by
  obtain ⟨b, o, rfl, hc⟩ := h i hi
  exact ⟨b, o, rfl, cell_kept k hc (hs b (by simp [roI]))⟩
theorem wStays (x : Nat) (ao : Option Addr) (cap : Nat) (l : List Int) (pos : Int) : RStaysR x (roI ao) (WRec x ao cap l pos) := by
  rintro r o w w' S ⟨rfl, h1, h2, h3, h4⟩ k hx ho hro
  exact ⟨rfl, k.to h1 hx, ints_keep h2 k hro, h3, h4⟩
theorem w_K : ∀ (y z : Addr) (wx : World), (callFunc 49 #[.pointer (some y), .pointer (some z)]).run Try.prog wx = .ok (.enter 49 #[.pointer (some y), .pointer (some z)]) wx := fun _ _ _ => by kernel_rfl
set_option maxHeartbeats 2000000 in
theorem w_body (x : Nat) (ao : Option Addr) (cap : Nat) (l : List Int) (pos : Int) (hp : 0 ≤ pos ∧ pos ≤ 1000000) : BodyOKR 49 x (roI ao) (WRec x ao cap l pos) (progB (fun _ => writeP pos l) (fun r _ => r)) := by
  rintro f m b w sl s r o h ⟨rfl, h1, h2, h3, h4⟩ ha ho hro
  have hq : ((progB (fun _ : Unit => writeP pos l) (fun r _ => r)) r s).2 = seqWrite pos l s := by simp only [progB, write_run]
  have hr : ((progB (fun _ : Unit => writeP pos l) (fun r _ => r)) r s).1 = r := rfl
  rw [hq, hr]
  clear hq hr
  have c0 : w.drew.cell? ⟨x, 0, none⟩ = some (.int .i64 pos) := cell_of h1 rfl
  have c1 : w.drew.cell? ⟨x, 1, none⟩ = some (.slice ao l.length cap) := cell_of h1 rfl
  have HCW := Lib.hid (seq_write (h.keep (Keep.refl [] w).drew (by simp) (by simp) (by simp) (by simp)) pos hp (cap := cap) (ints_keep h2 (Keep.refl [] w).drew (by simp)) h3 (fun k hk => ⟨(hro k hk).2.1, (hro k hk).2.2.1, (hro k hk).2.2.2.1⟩) (s' := seqWrite pos l s) rfl)
  have S0 := Lib.hid (And.intro c0 c1)
  have H := Lib.hid h; have H1 := Lib.hid h1; have H2 := Lib.hid h2; have HA := Lib.hid ha; have HR := Lib.hid hro
  clear h h1 h2 ha ho hro c0 c1
  go_enter Try.func49, Try.ntmps49
  go_wp2_with fail
  go_region_held3 (fun w' => w'.cell? ⟨x, 0, none⟩ = some (.int .i64 pos) ∧ w'.cell? ⟨x, 1, none⟩ = some (.slice ao l.length cap))
    (first | exact S0.out | exact S1.out)
    (first
      | (go_at_call 91; ((with_reducible refine HCW.out.mono ?_); rintro _ w1 ⟨sl1, rfl, g1, g2⟩; have G1 := Lib.hid g1; have G2 : Hid (Ev [f, b] sl w sl1 w1) := Lib.hid ((Ev.ofKeep (Keep.refl [] w).drew (by simp)).trans g2); have S1 : Hid (w1.cell? ⟨x, 0, none⟩ = some (.int .i64 pos) ∧ w1.cell? ⟨x, 1, none⟩ = some (.slice ao l.length cap)) := Lib.hid (by have hx := G2.out.keep.to H1.out (by simp; exact ⟨HA.out.xf, HA.out.xb, HA.out.xl⟩); exact ⟨cell_of hx rfl, cell_of hx rfl⟩); clear g1 g2))
      | (fail))
  go_wp2_with fail
  go_end0
  have hx := G2.out.keep.to H1.out (by simp; exact ⟨HA.out.xf, HA.out.xb, HA.out.xl⟩)
  have hev : Ev [x, f, b] sl w sl1 w1 := G2.out.mono (by simp)
  refine ⟨rfl, sl1, [], G1.out, ⟨rfl, hx, ints_keep H2.out G2.out.keep (fun k hk => by have := HR.out k hk; simp; exact ⟨this.2.1, this.2.2.1, this.2.2.2.1⟩), h3, h4⟩, by simpa using hev.toO [], apart_ev HA.out (lt_of_block H1.out) G2.out G1.out, by simp⟩
def RRec (x : Nat) (pos N : Int) (r : List Int) (o : List Nat) (w : World) : Prop :=
  ∃ v, w.heap[x]? = some (.cells #[.int .i64 pos, .int .i64 N, v] 92 (0, 0)) ∧ w.ownsRow 0 2 1 v r.length (r.map (Value.int .i64)) ∧ o = blk v
end SeqL
end Go.Proofs.Ytkmamebaichboaa
