/- Law 2: three frames over one memory, side by side with the accesses done one by one. No conditions but those stated. -/
import Derived.Test.YtkmamebaichboaaStepsState
namespace Go.Proofs.Ytkmamebaichboaa
open Go.ChangeShapes Go.WideShapes Go.ChangeAt Go.RowKit
set_option linter.unusedVariables false
set_option linter.unusedSimpArgs false
namespace Law02
open Prog
section
variable {w0 w w' : World} {lo f x m b y r c : Nat} {ao : Option Addr} {cap : Nat} {l : List Ins} {q q' : Pr × St} {p : Pl} {lm : List Int} {sl : Value} {o1 o2 : List Nat}
/-- A step of the frame, with what it leaves alone. -/
theorem SS.frameK (hi : Ids w0.heap.size lo f x m b y r c ao) (h : SS w0 lo f x m b y r c ao cap l q p lm sl o1 o2 w) (now : Int) (hq : stepP (pB l) now (q.1, q.2) = (q'.1, q'.2)) (hlen : q.2.log.length ≤ 900000) :
    Calls Try.prog 29 #[.pointer (some ⟨f, 0, none⟩), .int .i64 now, .func (.func 30) #[.pointer (some ⟨x, 0, none⟩)] #[]] w fun e w' => e = .returned (.bool q'.2.over) ∧ ∃ sl' o1', SS w0 lo f x m b y r c ao cap l q' p lm sl' o1' o2 w' ∧ Keep ([x, f, b] ++ (blk sl ++ o1)) w w' ∧ ∀ j ∈ blk sl' ++ o1', j ∈ blk sl ++ o1 ∨ w.heap.size ≤ j := by
  refine (frame_stepR progK (progOK x ao cap l) (pStays x ao cap l) h.fr h.pr h.ap h.lt h.ok hlen now hq).mono ?_
  rintro e w' ⟨he, sl1, o1', g1, g2, g3, g4, g5, g6⟩
  obtain ⟨a1, a2, a3, a4, a5, a6, a7, a8, a9, a10, a11, a12, a13, a14, a15, a16, a17⟩ := hi.apart
  obtain ⟨l1, l2, l3, l4, l5, l6, l7⟩ := hi.lows
  obtain ⟨u1, u2, u3, u4, u5, u6, u7⟩ := hi.highs
  have hno : ∀ z, z < lo → z ∉ blk sl ++ o1 := fun z hz hm => by have := (h.own1 z hm).1; omega
  have hk : ∀ z, z < lo → z ≠ x → z ≠ f → z ≠ b → z ∉ [x, f, b] ++ (blk sl ++ o1) := by
    intro z h1 h2 h3 h4 hm
    rcases List.mem_append.1 hm with hm | hm
    · simp at hm; omega
    · exact hno z h1 hm
  have ho2 : ∀ z ∈ o2, z ∉ [x, f, b] ++ (blk sl ++ o1) := by
    intro z hz hm
    rcases List.mem_append.1 hm with hm | hm
    · have := (h.own2 z hz).1; simp at hm; omega
    · exact (h.own1 z hm).2.1 hz
  have hro : ∀ z ∈ roOf ao, z ∉ [x, f, b] ++ (blk sl ++ o1) := fun z hz => by
    have hz0 := hi.ro z hz
    exact hk z (by omega) (by omega) (by omega) (by omega)
  have hsz := g3.keep.size
  refine ⟨he, sl1, o1', ⟨g1, g2, g4, g5, g6, h.pl.keep g3.keep (hk y u5 a5 a4 a7) ho2 hro, h.ref.keep g3.keep (hk r u6 a11 a10 a13) (hk c u7 a15 a14 a17), fun j hj => ?_, fun j hj => ⟨(h.own2 j hj).1, Nat.lt_of_lt_of_le (h.own2 j hj).2 hsz⟩, h.keep.transS g3.keep (T := []) (by simp) (fun z hz hlt => ?_), Nat.le_trans h.le hsz⟩, g3.keep, g3.new⟩
  · have hjl : j < w'.heap.size := by
      rcases List.mem_append.1 hj with hj | hj
      · exact (g1.ne.2.2.2 j (mem_blk.1 hj)).2.2.2
      · exact g5 j hj
    rcases g3.new j hj with hn | hn
    · exact ⟨(h.own1 j hn).1, (h.own1 j hn).2.1, hjl⟩
    · refine ⟨by have := h.le; omega, fun hm => ?_, hjl⟩
      have := (h.own2 j hm).2
      omega
  · rcases List.mem_append.1 hz with hz | hz
    · simp at hz; omega
    · have := (h.own1 z hz).1; omega
theorem SS.plainK (hi : Ids w0.heap.size lo f x m b y r c ao) (h : SS w0 lo f x m b y r c ao cap l q p lm sl o1 o2 w) (hpn : p.n ≤ 100000) (hpi : p.i ≤ 100000) (hpg : p.got.length ≤ 100000) (now : Int) :
    Calls Try.prog 42 #[.pointer (some ⟨y, 0, none⟩), .pointer (some ⟨r, 0, none⟩), .int .i64 now] w fun e w' => e = .returned (.bool (decide (p.i < l.length))) ∧ ∃ o2', SS w0 lo f x m b y r c ao cap l q (plStep l now p lm).1 (plStep l now p lm).2 sl o1 o2' w' ∧ Keep (y :: c :: o2) w w' ∧ ∀ j ∈ o2', j ∈ o2 ∨ w.heap.size ≤ j := by
  obtain ⟨a1, a2, a3, a4, a5, a6, a7, a8, a9, a10, a11, a12, a13, a14, a15, a16, a17⟩ := hi.apart
  obtain ⟨l1, l2, l3, l4, l5, l6, l7⟩ := hi.lows
  obtain ⟨u1, u2, u3, u4, u5, u6, u7⟩ := hi.highs
  have hno : ∀ z, z < lo → z ∉ o2 := fun z hz hm => by have := (h.own2 z hm).1; omega
  refine (plain_step h.pl h.ref (hno c u7) (hno r u6) (fun hm => by have := hi.ro c hm; omega) (fun hm => by have := hi.ro y hm; omega) (fun j hj hm => by have := hi.ro j hm; have := (h.own2 j hj).1; omega) hpn hpi hpg a9 a8 now).mono ?_
  rintro e w' ⟨he, o2', g1, g2, g3, g4⟩
  have hk : ∀ z, z < lo → z ≠ y → z ≠ c → z ∉ y :: c :: o2 := by
    intro z h1 h2 h3 hm
    simp at hm
    rcases hm with hm | hm | hm
    · exact h2 hm
    · exact h3 hm
    · exact hno z h1 hm
  have hown : ∀ z ∈ blk sl ++ o1, z ∉ y :: c :: o2 := by
    intro z hz hm
    have h1 := h.own1 z hz
    simp at hm
    rcases hm with rfl | rfl | hm
    · omega
    · omega
    · exact h1.2.1 hm
  have hsz := g3.size
  refine ⟨he, o2', ⟨h.fr.keep g3 (hk f u1 (Ne.symm a4) (Ne.symm a14)) (hk m u3 (Ne.symm a6) (Ne.symm a16)) (hk b u4 (Ne.symm a7) (Ne.symm a17)) (fun z hz => hown z (List.mem_append.2 (.inl (mem_blk.2 hz)))),
    pStays x ao cap l _ _ _ _ _ h.pr g3 (hk x u2 (Ne.symm a5) (Ne.symm a15)) (fun z hz => hown z (List.mem_append.2 (.inr hz))) (fun z hz => hk z (by have := hi.ro z hz; omega) (fun e => by have := hi.ro z hz; omega) (fun e => by have := hi.ro z hz; omega)),
    h.ap, fun j hj => Nat.lt_of_lt_of_le (h.lt j hj) hsz, RoOK.mono h.ok hsz, g1, g2, fun j hj => ⟨(h.own1 j hj).1, fun hm => ?_, Nat.lt_of_lt_of_le (h.own1 j hj).2.2 hsz⟩, fun j hj => ?_, h.keep.transS g3 (T := []) (by simp) (fun z hz hlt => ?_), Nat.le_trans h.le hsz⟩, g3, g4⟩
  · rcases g4 j hm with hn | hn
    · exact (h.own1 j hj).2.1 hn
    · have := (h.own1 j hj).2.2; omega
  · have hjl : j < w'.heap.size := by
      obtain ⟨slG, _, hO, rfl, _⟩ := g1
      rw [mem_blk] at hj
      rcases hO.2 with ⟨e, _⟩ | ⟨g, cap, cur, e, _, hh, _⟩
      · rw [e] at hj; simp [Value.ownBlock] at hj
      · rw [e] at hj; simp [Value.ownBlock] at hj; subst hj; exact lt_of_block hh
    rcases g4 j hj with hn | hn
    · exact ⟨(h.own2 j hn).1, hjl⟩
    · exact ⟨by have := h.le; omega, hjl⟩
  · simp at hz
    rcases hz with rfl | rfl | hz
    · omega
    · omega
    · have := (h.own2 z hz).1; omega
/-- Another one's step: the words may be turned, the rest stays. -/
theorem SS.other {S : List Nat} {M R : List Int} (h : SS w0 lo f x m b y r c ao cap l q p lm sl o1 o2 w) (k : Keep S w w') (hf : f ∉ S) (hx : x ∉ S) (hy : y ∉ S) (ho : ∀ j ∈ blk sl ++ o1, j ∉ S) (ho2 : ∀ j ∈ o2, j ∉ S) (hr : ∀ j ∈ roOf ao, j ∉ S) (hlow : ∀ z ∈ S, w0.heap.size ≤ z)
    (hm : MemRep 134 w' m b M) (hR : RefRep w' r c R) : SS w0 lo f x m b y r c ao cap l (q.1, { q.2 with mem := M }) p R sl o1 o2 w' :=
  ⟨h.fr.withMem k hf (fun z hz => ho z (List.mem_append.2 (.inl (mem_blk.2 hz)))) hm, pStays x ao cap l _ _ _ _ _ h.pr k hx (fun z hz => ho z (List.mem_append.2 (.inr hz))) hr, h.ap, fun j hj => k.lt (h.lt j hj), RoOK.mono h.ok k.size, h.pl.keep k hy ho2 hr, hR, fun j hj => ⟨(h.own1 j hj).1, (h.own1 j hj).2.1, k.lt (h.own1 j hj).2.2⟩, fun j hj => ⟨(h.own2 j hj).1, k.lt (h.own2 j hj).2⟩, h.keep.transS k (T := []) (by simp) (fun z hz hlt => by have := hlow z hz; omega), Nat.le_trans h.le k.size⟩
theorem Rel.turn {M : List Int} (h : Rel l q p lm) : Rel l (q.1, { q.2 with mem := M }) p M :=
  ⟨h.feed, rfl, h.len, h.over, h.go, h.small⟩
end
/-- One of those that take turns: what stays of it, and what changes. -/
structure Fix where
  f : Nat
  x : Nat
  y : Nat
  ao : Option Addr
  cap : Nat
  l : List Ins
structure Dyn where
  q : Pr × St
  p : Pl
  sl : Value
  o1 : List Nat
  o2 : List Nat
def Dyn.own (d : Dyn) : List Nat := blk d.sl ++ d.o1 ++ d.o2
structure Trio (n : Nat) (w0 : World) (lo m b r c : Nat) (F : Nat → Fix) (D : Nat → Dyn) (M R : List Int) (w : World) : Prop where
  ss : ∀ i, i < n → SS w0 lo (F i).f (F i).x m b (F i).y r c (F i).ao (F i).cap (F i).l (D i).q (D i).p R (D i).sl (D i).o1 (D i).o2 w
  ids : ∀ i, i < n → Ids w0.heap.size lo (F i).f (F i).x m b (F i).y r c (F i).ao
  mem : ∀ i, i < n → (D i).q.2.mem = M
  heads : ∀ i j, i < n → j < n → i ≠ j → ∀ z ∈ [(F i).f, (F i).x, (F i).y], z ∉ [(F j).f, (F j).x, (F j).y]
  owns : ∀ i j, i < n → j < n → i ≠ j → ∀ z ∈ (D i).own, z ∉ (D j).own
  fb : ∀ i, i < n → (F i).f ≠ b ∧ (F i).f ≠ c
def setD (D : Nat → Dyn) (k : Nat) (d : Dyn) (M : List Int) : Nat → Dyn := fun i => if i = k then d else { D i with q := ((D i).q.1, { (D i).q.2 with mem := M }) }
theorem setD_same (D : Nat → Dyn) (k : Nat) (d : Dyn) (M : List Int) : setD D k d M k = d := if_pos rfl
theorem setD_ne {D : Nat → Dyn} {k i : Nat} {d : Dyn} {M : List Int} (h : i ≠ k) : setD D k d M i = { D i with q := ((D i).q.1, { (D i).q.2 with mem := M }) } := if_neg h
variable {n : Nat} {w0 w w' : World} {lo m b r c : Nat} {F : Nat → Fix} {D : Nat → Dyn} {M R : List Int}
/-- What a turn leaves alone. -/
def Far (lo b c : Nat) (f : Fix) (w w' : World) : Prop := ∀ z, z < lo → z ≠ b → z ≠ c → z ∉ [f.f, f.x, f.y] → z < w.heap.size → w'.heap[z]? = w.heap[z]?
theorem Trio.turn (h : Trio n w0 lo m b r c F D M R w) {k : Nat} (hk : k < n) {d : Dyn} {S : List Nat} {M' R' : List Int} (hs : SS w0 lo (F k).f (F k).x m b (F k).y r c (F k).ao (F k).cap (F k).l d.q d.p R' d.sl d.o1 d.o2 w') (hM : d.q.2.mem = M') (kk : Keep S w w') (hS : ∀ z ∈ S, z ∈ [(F k).f, (F k).x, (F k).y] ∨ z = b ∨ z = c ∨ z ∈ (D k).own) (hn : ∀ z ∈ d.own, z ∈ (D k).own ∨ w.heap.size ≤ z) :
    Trio n w0 lo m b r c F (setD D k d M') M' R' w' := by
  have hlo : ∀ i, i < n → ∀ z ∈ (D i).own, lo ≤ z ∧ z < w.heap.size := by
    intro i hi z hz
    unfold Dyn.own at hz
    rcases List.mem_append.1 hz with hz | hz
    · exact ⟨((h.ss i hi).own1 z hz).1, ((h.ss i hi).own1 z hz).2.2⟩
    · exact (h.ss i hi).own2 z hz
  have hno : ∀ i, i < n → i ≠ k → (F i).f ∉ S ∧ (F i).x ∉ S ∧ (F i).y ∉ S := by
    intro i hi hik
    have h1 := h.heads i k hi hk hik
    have h2 := (h.ids i hi).highs
    have h3 := (h.ids i hi).apart
    have h4 := h.fb i hi
    refine ⟨fun hm => ?_, fun hm => ?_, fun hm => ?_⟩
    · rcases hS _ hm with h5 | h5 | h5 | h5
      · exact h1 _ (by simp) h5
      · exact h4.1 h5
      · exact h4.2 h5
      · have := (hlo k hk _ h5).1; omega
    · rcases hS _ hm with h5 | h5 | h5 | h5
      · exact h1 _ (by simp) h5
      · exact h3.2.2.1 h5
      · exact h3.2.2.2.2.2.2.2.2.2.2.2.2.2.2.1 h5.symm
      · have := (hlo k hk _ h5).1; omega
    · rcases hS _ hm with h5 | h5 | h5 | h5
      · exact h1 _ (by simp) h5
      · exact h3.2.2.2.2.2.2.1 h5
      · exact h3.2.2.2.2.2.2.2.2.1 h5
      · have := (hlo k hk _ h5).1; omega
  have hSlo : ∀ z ∈ S, w0.heap.size ≤ z := by
    intro z hz
    have h2 := (h.ids k hk).lows
    have h3 := (h.ids k hk).highs
    have h6 : w0.heap.size ≤ lo := by omega
    rcases hS z hz with h5 | h5 | h5 | h5
    · simp at h5; omega
    · omega
    · omega
    · have := (hlo k hk _ h5).1; omega
  refine ⟨fun i hi => ?_, h.ids, fun i hi => ?_, h.heads, fun i j hi hj hij z hz => ?_, h.fb⟩
  · by_cases hik : i = k
    · subst hik; rw [setD_same]; exact hs
    · rw [setD_ne hik]
      obtain ⟨g1, g2, g3⟩ := hno i hi hik
      have hown : ∀ z ∈ (D i).own, z ∉ S := by
        intro z hz hm
        have h2 := hlo i hi z hz
        have h3 := (h.ids k hk).highs
        rcases hS _ hm with h5 | h5 | h5 | h5
        · simp at h5; omega
        · omega
        · omega
        · exact h.owns i k hi hk hik z hz h5
      refine (h.ss i hi).other kk g1 g2 g3 (fun z hz => hown z (by unfold Dyn.own; exact List.mem_append.2 (.inl hz))) (fun z hz => hown z (by unfold Dyn.own; exact List.mem_append.2 (.inr hz))) (fun z hz hm => ?_) hSlo (hM ▸ hs.fr.mem) hs.ref
      have h1 := (h.ids i hi).ro z hz
      have := hSlo z hm
      omega
  · by_cases hik : i = k
    · subst hik; rw [setD_same]; exact hM
    · rw [setD_ne hik]
  · by_cases hik : i = k
    · subst hik
      rw [setD_same] at hz
      rw [setD_ne (Ne.symm hij)]
      intro hm
      have hm' : z ∈ (D j).own := hm
      rcases hn z hz with h1 | h1
      · exact h.owns i j hi hj hij z h1 hm'
      · have := (hlo j hj z hm').2; omega
    · rw [setD_ne hik] at hz
      have hz' : z ∈ (D i).own := hz
      by_cases hjk : j = k
      · subst hjk
        rw [setD_same]
        intro hm
        rcases hn z hm with h1 | h1
        · exact h.owns i j hi hj hij z hz' h1
        · have := (hlo i hi z hz').2; omega
      · rw [setD_ne hjk]
        exact h.owns i j hi hj hij z hz'
theorem Trio.far (h : Trio n w0 lo m b r c F D M R w) {k : Nat} (hk : k < n) {S : List Nat} (kk : Keep S w w') (hS : ∀ z ∈ S, z ∈ [(F k).f, (F k).x, (F k).y] ∨ z = b ∨ z = c ∨ z ∈ (D k).own) : Far lo b c (F k) w w' := by
  intro z hz hb hc hh hl
  refine kk.block z hl (fun hm => ?_)
  rcases hS z hm with h5 | h5 | h5 | h5
  · exact hh h5
  · exact hb h5
  · exact hc h5
  · unfold Dyn.own at h5
    rcases List.mem_append.1 h5 with h6 | h6
    · have := ((h.ss k hk).own1 z h6).1; omega
    · have := ((h.ss k hk).own2 z h6).1; omega
theorem Trio.frame (h : Trio n w0 lo m b r c F D M R w) {k : Nat} (hk : k < n) (now : Int) {q' : Pr × St} (hq : stepP (pB (F k).l) now (D k).q = q') (hlen : (D k).q.2.log.length ≤ 900000) :
    Calls Try.prog 29 #[.pointer (some ⟨(F k).f, 0, none⟩), .int .i64 now, .func (.func 30) #[.pointer (some ⟨(F k).x, 0, none⟩)] #[]] w fun e w' => e = .returned (.bool q'.2.over) ∧ ∃ d, d.q = q' ∧ d.p = (D k).p ∧ Trio n w0 lo m b r c F (setD D k d q'.2.mem) q'.2.mem R w' ∧ Far lo b c (F k) w w' := by
  refine ((h.ss k hk).frameK (h.ids k hk) now (q' := q') hq hlen).mono ?_
  rintro e w' ⟨he, sl', o1', g1, g2, g3⟩
  have hS : ∀ z ∈ [(F k).x, (F k).f, b] ++ (blk (D k).sl ++ (D k).o1), z ∈ [(F k).f, (F k).x, (F k).y] ∨ z = b ∨ z = c ∨ z ∈ (D k).own := by
    intro z hz
    rcases List.mem_append.1 hz with hz | hz
    · simp at hz
      rcases hz with rfl | rfl | rfl
      · simp
      · simp
      · simp
    · exact .inr (.inr (.inr (List.mem_append.2 (.inl hz))))
  refine ⟨he, ⟨q', (D k).p, sl', o1', (D k).o2⟩, rfl, rfl, h.turn hk g1 rfl g2 hS (fun z hz => ?_), h.far hk g2 hS⟩
  unfold Dyn.own at hz ⊢
  rcases List.mem_append.1 hz with hz | hz
  · rcases g3 z hz with h1 | h1
    · exact .inl (List.mem_append.2 (.inl h1))
    · exact .inr h1
  · exact .inl (List.mem_append.2 (.inr hz))
theorem Trio.plain (h : Trio n w0 lo m b r c F D M R w) {k : Nat} (hk : k < n) (hpn : (D k).p.n ≤ 100000) (hpi : (D k).p.i ≤ 100000) (hpg : (D k).p.got.length ≤ 100000) (now : Int) :
    Calls Try.prog 42 #[.pointer (some ⟨(F k).y, 0, none⟩), .pointer (some ⟨r, 0, none⟩), .int .i64 now] w fun e w' => e = .returned (.bool (decide ((D k).p.i < (F k).l.length))) ∧ ∃ d, d.q = (D k).q ∧ d.p = (plStep (F k).l now (D k).p R).1 ∧ Trio n w0 lo m b r c F (setD D k d M) M (plStep (F k).l now (D k).p R).2 w' ∧ Far lo b c (F k) w w' := by
  refine ((h.ss k hk).plainK (h.ids k hk) hpn hpi hpg now).mono ?_
  rintro e w' ⟨he, o2', g1, g2, g3⟩
  have hS : ∀ z ∈ (F k).y :: c :: (D k).o2, z ∈ [(F k).f, (F k).x, (F k).y] ∨ z = b ∨ z = c ∨ z ∈ (D k).own := by
    intro z hz
    simp at hz
    rcases hz with rfl | rfl | hz
    · simp
    · simp
    · exact .inr (.inr (.inr (List.mem_append.2 (.inr hz))))
  refine ⟨he, ⟨(D k).q, (plStep (F k).l now (D k).p R).1, (D k).sl, (D k).o1, o2'⟩, rfl, rfl, h.turn hk g1 (h.mem k hk) g2 hS (fun z hz => ?_), h.far hk g2 hS⟩
  unfold Dyn.own at hz ⊢
  rcases List.mem_append.1 hz with hz | hz
  · exact .inl (List.mem_append.2 (.inl hz))
  · rcases g3 z hz with h1 | h1
    · exact .inl (List.mem_append.2 (.inr h1))
    · exact .inr h1
theorem Trio.kept (h : Trio n w0 lo m b r c F D M R w) (k : Keep [] w w') : Trio n w0 lo m b r c F D M R w' :=
  ⟨fun i hi => (h.ss i hi).kept k, h.ids, h.mem, h.heads, h.owns, h.fb⟩
end Law02
end Go.Proofs.Ytkmamebaichboaa
