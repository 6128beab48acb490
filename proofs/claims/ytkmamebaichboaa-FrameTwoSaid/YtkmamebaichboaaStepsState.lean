/- Law 2: a frame over a body, and the accesses done one by one, side by side. No conditions but those stated. -/
import Derived.Test.YtkmamebaichboaaPlainStep
import Derived.Test.YtkmamebaichboaaRunsLaw
import Derived.Test.YtkmamebaichboaaMarksLaw
namespace Go.Proofs.Ytkmamebaichboaa
open Go.ChangeShapes Go.WideShapes Go.ChangeAt Go.RowKit
set_option linter.unusedVariables false
set_option linter.unusedSimpArgs false
namespace Law02
open Prog
/-- Where the blocks lie: f the frame, x its body's record, m and b the words, y the plain record, r and c the reference's words; all between lo0 and lo, and apart. -/
structure Ids (lo0 lo f x m b y r c : Nat) (ao : Option Addr) : Prop where
  ro : ∀ j ∈ roOf ao, j < lo0
  lows : lo0 ≤ f ∧ lo0 ≤ x ∧ lo0 ≤ m ∧ lo0 ≤ b ∧ lo0 ≤ y ∧ lo0 ≤ r ∧ lo0 ≤ c
  highs : f < lo ∧ x < lo ∧ m < lo ∧ b < lo ∧ y < lo ∧ r < lo ∧ c < lo
  apart : x ≠ f ∧ x ≠ m ∧ x ≠ b ∧ y ≠ f ∧ y ≠ x ∧ y ≠ m ∧ y ≠ b ∧ y ≠ r ∧ y ≠ c ∧ r ≠ f ∧ r ≠ x ∧ r ≠ m ∧ r ≠ b ∧ c ≠ f ∧ c ≠ x ∧ c ≠ m ∧ c ≠ b
structure SS (w0 : World) (lo f x m b y r c : Nat) (ao : Option Addr) (cap : Nat) (l : List Ins) (q : Pr × St) (p : Pl) (lm : List Int) (sl : Value) (o1 o2 : List Nat) (w : World) : Prop where
  fr : FRep w f m b sl q.2
  pr : PRep x ao cap l q.1 o1 w
  ap : Apart x f m b sl o1
  lt : ∀ j ∈ o1, j < w.heap.size
  ok : RoOK (roOf ao) w f b sl o1
  pl : PlRep y ao cap l p o2 w
  ref : RefRep w r c lm
  own1 : ∀ j ∈ blk sl ++ o1, lo ≤ j ∧ j ∉ o2 ∧ j < w.heap.size
  own2 : ∀ j ∈ o2, lo ≤ j ∧ j < w.heap.size
  keep : Keep [] w0 w
  le : lo ≤ w.heap.size
variable {w0 w w' : World} {lo f x m b y r c : Nat} {ao : Option Addr} {cap : Nat} {l : List Ins} {q q' : Pr × St} {p : Pl} {lm : List Int} {sl : Value} {o1 o2 : List Nat}
theorem SS.kept (h : SS w0 lo f x m b y r c ao cap l q p lm sl o1 o2 w) (k : Keep [] w w') : SS w0 lo f x m b y r c ao cap l q p lm sl o1 o2 w' :=
  ⟨h.fr.keep k (by simp) (by simp) (by simp) (by simp), pStays x ao cap l _ _ _ _ _ h.pr k (by simp) (by simp) (by simp), h.ap, fun j hj => k.lt (h.lt j hj), RoOK.mono h.ok k.size, h.pl.keep k (by simp) (by simp) (by simp), h.ref.keep k (by simp) (by simp), fun j hj => ⟨(h.own1 j hj).1, (h.own1 j hj).2.1, k.lt (h.own1 j hj).2.2⟩, fun j hj => ⟨(h.own2 j hj).1, k.lt (h.own2 j hj).2⟩, h.keep.trans k, Nat.le_trans h.le k.size⟩
theorem SS.frame (hi : Ids w0.heap.size lo f x m b y r c ao) (h : SS w0 lo f x m b y r c ao cap l q p lm sl o1 o2 w) (now : Int) (hq : stepP (pB l) now (q.1, q.2) = (q'.1, q'.2)) (hlen : q.2.log.length ≤ 900000) :
    Calls Try.prog 29 #[.pointer (some ⟨f, 0, none⟩), .int .i64 now, .func (.func 30) #[.pointer (some ⟨x, 0, none⟩)] #[]] w fun e w' => e = .returned (.bool q'.2.over) ∧ ∃ sl' o1', SS w0 lo f x m b y r c ao cap l q' p lm sl' o1' o2 w' := by
  refine (frame_stepR progK (progOK x ao cap l) (pStays x ao cap l) h.fr h.pr h.ap h.lt h.ok hlen now hq).mono ?_
  rintro e w' ⟨he, sl1, o1', g1, g2, g3, g4, g5, g6⟩
  obtain ⟨a1, a2, a3, a4, a5, a6, a7, a8, a9, a10, a11, a12, a13, a14, a15, a16, a17⟩ := hi.apart
  obtain ⟨l1, l2, l3, l4, l5, l6, l7⟩ := hi.lows
  obtain ⟨u1, u2, u3, u4, u5, u6, u7⟩ := hi.highs
  have hno : ∀ z, z < lo → z ∉ blk sl ++ o1 := fun z hz hm => by have := (h.own1 z hm).1; omega
  have hk : ∀ z, z < lo → z ≠ x → z ≠ f → z ≠ b → z ∉ [x, f, b] ++ (blk sl ++ o1) := by
    intro z h1 h2 h3 h4 hm
    rcases List.mem_append.1 hm with hm | hm
    · simp at hm; omega
    · exact hno z h1 hm
  have ho2 : ∀ z ∈ o2, z ∉ [x, f, b] ++ (blk sl ++ o1) := by
    intro z hz hm
    rcases List.mem_append.1 hm with hm | hm
    · have := (h.own2 z hz).1; simp at hm; omega
    · exact (h.own1 z hm).2.1 hz
  have hro : ∀ z ∈ roOf ao, z ∉ [x, f, b] ++ (blk sl ++ o1) := fun z hz => by
    have hz0 := hi.ro z hz
    exact hk z (by omega) (by omega) (by omega) (by omega)
  have hsz := g3.keep.size
  refine ⟨he, sl1, o1', g1, g2, g4, g5, g6, h.pl.keep g3.keep (hk y u5 a5 a4 a7) ho2 hro, h.ref.keep g3.keep (hk r u6 a11 a10 a13) (hk c u7 a15 a14 a17), fun j hj => ?_, fun j hj => ⟨(h.own2 j hj).1, Nat.lt_of_lt_of_le (h.own2 j hj).2 hsz⟩, h.keep.transS g3.keep (T := []) (by simp) (fun z hz hlt => ?_), Nat.le_trans h.le hsz⟩
  · have hjl : j < w'.heap.size := by
      rcases List.mem_append.1 hj with hj | hj
      · exact (g1.ne.2.2.2 j (mem_blk.1 hj)).2.2.2
      · exact g5 j hj
    rcases g3.new j hj with hn | hn
    · exact ⟨(h.own1 j hn).1, (h.own1 j hn).2.1, hjl⟩
    · refine ⟨by have := h.le; omega, fun hm => ?_, hjl⟩
      have := (h.own2 j hm).2
      omega
  · rcases List.mem_append.1 hz with hz | hz
    · simp at hz; omega
    · have := (h.own1 z hz).1; omega
theorem SS.plain (hi : Ids w0.heap.size lo f x m b y r c ao) (h : SS w0 lo f x m b y r c ao cap l q p lm sl o1 o2 w) (hpn : p.n ≤ 100000) (hpi : p.i ≤ 100000) (hpg : p.got.length ≤ 100000) (now : Int) :
    Calls Try.prog 42 #[.pointer (some ⟨y, 0, none⟩), .pointer (some ⟨r, 0, none⟩), .int .i64 now] w fun e w' => e = .returned (.bool (decide (p.i < l.length))) ∧ ∃ o2', SS w0 lo f x m b y r c ao cap l q (plStep l now p lm).1 (plStep l now p lm).2 sl o1 o2' w' := by
  obtain ⟨a1, a2, a3, a4, a5, a6, a7, a8, a9, a10, a11, a12, a13, a14, a15, a16, a17⟩ := hi.apart
  obtain ⟨l1, l2, l3, l4, l5, l6, l7⟩ := hi.lows
  obtain ⟨u1, u2, u3, u4, u5, u6, u7⟩ := hi.highs
  have hno : ∀ z, z < lo → z ∉ o2 := fun z hz hm => by have := (h.own2 z hm).1; omega
  refine (plain_step h.pl h.ref (hno c u7) (hno r u6) (fun hm => by have := hi.ro c hm; omega) (fun hm => by have := hi.ro y hm; omega) (fun j hj hm => by have := hi.ro j hm; have := (h.own2 j hj).1; omega) hpn hpi hpg a9 a8 now).mono ?_
  rintro e w' ⟨he, o2', g1, g2, g3, g4⟩
  have hk : ∀ z, z < lo → z ≠ y → z ≠ c → z ∉ y :: c :: o2 := by
    intro z h1 h2 h3 hm
    simp at hm
    rcases hm with hm | hm | hm
    · exact h2 hm
    · exact h3 hm
    · exact hno z h1 hm
  have hown : ∀ z ∈ blk sl ++ o1, z ∉ y :: c :: o2 := by
    intro z hz hm
    have h1 := h.own1 z hz
    simp at hm
    rcases hm with rfl | rfl | hm
    · omega
    · omega
    · exact h1.2.1 hm
  have hsz := g3.size
  refine ⟨he, o2', h.fr.keep g3 (hk f u1 (Ne.symm a4) (Ne.symm a14)) (hk m u3 (Ne.symm a6) (Ne.symm a16)) (hk b u4 (Ne.symm a7) (Ne.symm a17)) (fun z hz => hown z (List.mem_append.2 (.inl (mem_blk.2 hz)))),
    pStays x ao cap l _ _ _ _ _ h.pr g3 (hk x u2 (Ne.symm a5) (Ne.symm a15)) (fun z hz => hown z (List.mem_append.2 (.inr hz))) (fun z hz => hk z (by have := hi.ro z hz; omega) (fun e => by have := hi.ro z hz; omega) (fun e => by have := hi.ro z hz; omega)),
    h.ap, fun j hj => Nat.lt_of_lt_of_le (h.lt j hj) hsz, RoOK.mono h.ok hsz, g1, g2, fun j hj => ⟨(h.own1 j hj).1, fun hm => ?_, Nat.lt_of_lt_of_le (h.own1 j hj).2.2 hsz⟩, fun j hj => ?_, h.keep.transS g3 (T := []) (by simp) (fun z hz hlt => ?_), Nat.le_trans h.le hsz⟩
  · rcases g4 j hm with hn | hn
    · exact (h.own1 j hj).2.1 hn
    · have := (h.own1 j hj).2.2; omega
  · have hjl : j < w'.heap.size := by
      obtain ⟨slG, _, hO, rfl, _⟩ := g1
      rw [mem_blk] at hj
      rcases hO.2 with ⟨e, _⟩ | ⟨g, cap, cur, e, _, hh, _⟩
      · rw [e] at hj; simp [Value.ownBlock] at hj
      · rw [e] at hj; simp [Value.ownBlock] at hj; subst hj; exact lt_of_block hh
    rcases g4 j hj with hn | hn
    · exact ⟨(h.own2 j hn).1, hjl⟩
    · exact ⟨by have := h.le; omega, hjl⟩
  · simp at hz
    rcases hz with rfl | rfl | hz
    · omega
    · omega
    · have := (h.own2 z hz).1; omega
/-- A row of ints of the call's own reads as its list. -/
theorem own_ints {w : World} {sl : Value} {n : Nat} {lv : List Int} (h : w.ownsRow 0 2 1 sl n (lv.map (Value.int .i64))) (hn : lv.length = n) : ∃ ao cap, sl = .slice ao n cap ∧ IntsAt w ao lv := by
  rcases h.2 with ⟨rfl, h0⟩ | ⟨g, cap, cur, rfl, _, hh, _, _, _, ht⟩
  · have : lv = [] := List.eq_nil_of_length_eq_zero (by omega)
    subst this
    subst h0
    exact ⟨none, 0, rfl, IntsAt.nil _ _⟩
  · exact ⟨_, cap, rfl, OwnRow.intsAt (e := 2) ⟨cur, hh, by rw [List.length_map, hn]; simpa using ht⟩⟩
theorem step_off {l : List Ins} {q : Pr × St} {now : Int} (h : q.2.over = false) : (stepP (pB l) now q).2.off = true := by
  rw [stepP_go h]
  rfl
/-- The log behind a step that does an access. -/
theorem step_log {l : List Ins} {q : Pr × St} {p : Pl} {m : List Int} (h : Rel l q p m) (ho : q.2.over = false) {y : Ins} (hy : l[p.i]? = some y) (now : Int) : (stepP (pB l) now q).2.log = q.2.log ++ [(((insOp y p.last).eff m).1, now)] := by
  rw [stepP_go (B := pB l) (now := now) (q := q) ho]
  obtain ⟨k, hk1, hk2⟩ := body_feed l p.i y hy p.last p.got m
  have hf := h.feed
  rw [hk1] at hf
  obtain ⟨g1, _, _⟩ := step_acc (bodyP l false 0 []) q.2 now hf
  rw [h.mem] at g1
  exact g1
end Law02
end Go.Proofs.Ytkmamebaichboaa
