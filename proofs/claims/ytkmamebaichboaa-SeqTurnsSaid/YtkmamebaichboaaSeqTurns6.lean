/- Law 4: SeqTurns: the state at its loop's head, and its steps. No conditions but those stated. -/
import Derived.Test.YtkmamebaichboaaSeqTurns5
import Derived.Test.YtkmamebaichboaaSeqVals
import Derived.Test.YtkmamebaichboaaMany
import Derived.Test.YtkmamebaichboaaSeq5
namespace Go.Proofs.Ytkmamebaichboaa
open Go.ChangeShapes Go.WideShapes Go.ChangeAt Go.RowKit
set_option linter.unusedVariables false
set_option linter.unusedSimpArgs false
namespace SeqL
open Prog
/-- A reader that has done some accesses, or none. -/
def Rd (n cnt least N : Nat) (d : One) : Prop :=
  ∃ f x s sl o r, d = ⟨f, x, s, sl, o, [], RRec x 0 n r o⟩ ∧ s.over = false ∧ s.log.length ≤ N ∧ (s.log.length = 0 ∨ RPh n least cnt s.log.length ((readP 0 n).feed (ans s)))
def Wt (n V j : Nat) (d : One) : Prop :=
  ∃ f x s sl ao cap, d = ⟨f, x, s, sl, [], roI ao, WRec x ao cap (vers (V + 1) n) 0 () []⟩ ∧ s.over = false ∧ ans s = wlog V j
theorem Rd.later {n cnt cnt' least N N' : Nat} {d : One} {l : List Int} (h : Rd n cnt least N d) (hc : cnt ≤ cnt') (hN : N ≤ N') : Rd n cnt' least N' (d.turn l) := by
  obtain ⟨f, x, s, sl, o, r, rfl, h1, h2, h3⟩ := h
  refine ⟨f, x, { s with mem := l }, sl, o, r, rfl, h1, Nat.le_trans h2 hN, ?_⟩
  rcases h3 with h3 | h3
  · exact .inl h3
  · exact .inr (h3.later hc)
theorem Wt.turn {n V j : Nat} {d : One} {l : List Int} (h : Wt n V j d) : Wt n V j (d.turn l) := by
  obtain ⟨f, x, s, sl, ao, cap, rfl, h1, h2⟩ := h
  exact ⟨f, x, { s with mem := l }, sl, ao, cap, rfl, h1, h2⟩
/-- What is so at the loop's head; q: whose frame is done. -/
structure At4 (q : Nat) (w0 w : World) (m b n V j N : Nat) (L : Nat → Nat) (D : Nat → One) (lm : List Int) (gs : List Nat) : Prop where
  many : Many 3 w0 w m b D lm
  wr : Wr n V j lm
  hj : j ≤ n + 2
  hV : V ≤ N
  wt : q ≠ 2 → Wt n V j (D 2)
  rd : ∀ i, i < 2 → i ≠ q → Rd n (cntOf V j) (L i) N (D i)
  hL : ∀ i, i < 2 → L i ≤ V
  ap : ∀ i, i < 3 → ∀ z, z ∈ (D i).own ∨ z ∈ (D i).ro → z ∉ gs
  gl : ∀ z ∈ gs, w0.heap.size ≤ z ∧ z < w.heap.size ∧ z ≠ m ∧ z ≠ b
theorem cnt_le {V j : Nat} : 2 * V ≤ cntOf V j ∧ cntOf V j ≤ 2 * V + 1 := by unfold cntOf; split <;> omega
theorem cnt_mono {V j : Nat} : cntOf V j ≤ cntOf V (j + 1) ∧ cntOf V j ≤ cntOf (V + 1) 0 := by
  unfold cntOf
  rw [if_pos (show 0 ≤ 1 by omega)]
  split
  · split <;> omega
  · split <;> omega
section
variable {q : Nat} {w0 w w' : World} {m b n V j N : Nat} {L : Nat → Nat} {D : Nat → One} {lm : List Int} {gs : List Nat}
theorem At4.kept (h : At4 q w0 w m b n V j N L D lm gs) (k : Keep [] w w') : At4 q w0 w' m b n V j N L D lm gs :=
  ⟨h.many.kept k, h.wr, h.hj, h.hV, h.wt, h.rd, h.hL, h.ap, fun z hz => ⟨(h.gl z hz).1, k.lt (h.gl z hz).2.1, (h.gl z hz).2.2⟩⟩
theorem At4.keptG {S : List Nat} (h : At4 q w0 w m b n V j N L D lm gs) (k : Keep S w w') (hS : ∀ z ∈ S, z ∈ gs) : At4 q w0 w' m b n V j N L D lm gs :=
  ⟨h.many.keptS k (fun z hz => ⟨(h.gl z (hS z hz)).1, (h.gl z (hS z hz)).2.2.1, (h.gl z (hS z hz)).2.2.2, fun i hi => ⟨fun hm => h.ap i hi z (.inl hm) (hS z hz), fun hm => h.ap i hi z (.inr hm) (hS z hz)⟩⟩), h.wr, h.hj, h.hV, h.wt, h.rd, h.hL, h.ap, fun z hz => ⟨(h.gl z hz).1, k.lt (h.gl z hz).2.1, (h.gl z hz).2.2⟩⟩
def setN (L : Nat → Nat) (i v : Nat) : Nat → Nat := fun k => if k = i then v else L k
theorem At4.fresh (h : At4 3 w0 w m b n V j N L D lm gs) (hn : 1 ≤ n ∧ n ≤ 6) {i : Nat} (hi : i < 2) (h0 : (D i).s.log.length = 0) :
    At4 3 w0 w m b n V j N (setN L i V) D lm gs ∧ RPh n (setN L i V i) (cntOf V j) (D i).s.log.length ((readP 0 n).feed (ans (D i).s)) := by
  have hp : RPh n V (cntOf V j) (D i).s.log.length ((readP 0 n).feed (ans (D i).s)) := by
    have := read_start (n := n) (V := V) (cnt := cntOf V j) (by omega) (m := [])
    have e : ans (D i).s = [] := by
      unfold ans
      rw [List.length_eq_zero_iff.1 h0]
      rfl
    rw [e, h0]
    exact this
  refine ⟨⟨h.many, h.wr, h.hj, h.hV, h.wt, fun k hk hq => ?_, fun k hk => ?_, h.ap, h.gl⟩, by unfold setN; rw [if_pos rfl]; exact hp⟩
  · by_cases e : k = i
    · subst e
      obtain ⟨f, x, s, sl, o, r, h1, h2, h3, h4⟩ := h.rd k hk hq
      rw [h1] at h0 ⊢
      exact ⟨f, x, s, sl, o, r, rfl, h2, h3, .inl h0⟩
    · unfold setN
      rw [if_neg e]
      exact h.rd k hk hq
  · unfold setN
    split
    · exact Nat.le_refl _
    · exact h.hL k hk
theorem At4.old (h : At4 3 w0 w m b n V j N L D lm gs) {i : Nat} (hi : i < 2) (h0 : ¬ (D i).s.log.length = 0) : RPh n (L i) (cntOf V j) (D i).s.log.length ((readP 0 n).feed (ans (D i).s)) := by
  obtain ⟨f, x, s, sl, o, r, h1, h2, h3, h4⟩ := h.rd i hi (by omega)
  rw [h1] at h0 ⊢
  exact h4.resolve_left h0
theorem At4.fr (h : At4 q w0 w m b n V j N L D lm gs) {i : Nat} (hi : i < 3) : FRep w (D i).f m b (D i).sl (D i).s := (h.many.one i hi).fr
/-- A step of a reader. -/
theorem At4.read (h : At4 3 w0 w m b n V j N L D lm gs) (hn : 1 ≤ n ∧ n ≤ 6) (hN : N + 1 ≤ 400) {i : Nat} (hi : i < 2) (hp : RPh n (L i) (cntOf V j) (D i).s.log.length ((readP 0 n).feed (ans (D i).s))) (now : Int) :
    Calls Try.prog 29 #[.pointer (some ⟨(D i).f, 0, none⟩), .int .i64 now, .func (.func 50) #[.pointer (some ⟨(D i).x, 0, none⟩)] #[]] w fun e w' =>
      ∃ D' lm', (∀ k, (D' k).f = (D k).f ∧ (D' k).x = (D k).x) ∧ (∀ z ∈ gs, w'.heap[z]? = w.heap[z]?) ∧
        ((e = .returned (.bool false) ∧ At4 3 w0 w' m b n V j (N + 1) L D' lm' gs) ∨ (e = .returned (.bool true) ∧ At4 i w0 w' m b n V j (N + 1) L D' lm' gs ∧ ∃ a v, L i ≤ a ∧ a ≤ V ∧ w'.heap[(D i).x]? = some (.cells #[.int .i64 0, .int .i64 n, v] 92 (0, 0)) ∧ w'.ownsRow 0 2 1 v n ((vers a n).map (Value.int .i64)))) := by
  obtain ⟨f, x, s, sl, o, r, h1, h2, h3, h4⟩ := h.rd i hi (by omega)
  have hmem := h.many.mem i (by omega)
  rw [h1] at hp hmem ⊢
  dsimp only at hp hmem ⊢
  obtain ⟨g1, g2, g3⟩ := read_step hp (by rw [hmem]; exact h.wr.whole) (by have := h.hL i hi; have := (cnt_le (V := V) (j := j)).1; omega) (by omega) now
  have hq : stepP (progB (fun _ => readP 0 n) (fun _ r => r)) now (r, s) = (((readP 0 n).run (s.start now)).1, ((readP 0 n).run (s.start now)).2.stop) := stepP_go h2
  generalize (readP 0 n).run (s.start now) = R at g1 g2 g3 hq
  refine (h.many.step (by omega) h1 r_K (r_body x 0 n (by omega)).toR (rStays x 0 n).toR (by omega) now hq).mono ?_
  rintro e w1 ⟨he, sl', o', k1, k2, k3⟩
  have hown : ∀ z ∈ gs, z ∉ b :: (D i).own := by
    intro z hz hm
    rcases List.mem_cons.1 hm with e1 | hm
    · exact (h.gl z hz).2.2.2 e1
    · exact h.ap i (by omega) z (.inl hm) hz
  have hA : ∀ q', (q' = i ∨ (q' = 3 ∧ R.2.stop.over = false ∧ RPh n (L i) (cntOf V j) (s.log.length + 1) ((readP 0 n).feed (ans R.2.stop)))) → At4 q' w0 w1 m b n V j (N + 1) L (setM D i ⟨f, x, R.2.stop, sl', o', [], RRec x 0 n R.1 o'⟩) R.2.stop.mem gs := by
    intro q' hq'
    refine ⟨k1, by rw [g1, hmem]; exact h.wr, h.hj, by have := h.hV; omega, fun _ => ?_, fun k hk hkq => ?_, h.hL, fun k hk z hz => ?_, fun z hz => ⟨(h.gl z hz).1, k2.lt (h.gl z hz).2.1, (h.gl z hz).2.2⟩⟩
    · rw [setM_ne (by omega)]
      exact (h.wt (by omega)).turn
    · by_cases e1 : k = i
      · subst e1
        rw [setM_same]
        rcases hq' with h5 | ⟨h5, h6, h7⟩
        · exact absurd h5.symm hkq
        · exact ⟨f, x, _, sl', o', R.1, rfl, h6, by omega, .inr (by rw [g2]; exact h7)⟩
      · rw [setM_ne e1]
        exact (h.rd k hk (by omega)).later (Nat.le_refl _) (by omega)
    · by_cases e1 : k = i
      · subst e1
        rw [setM_same] at hz
        rcases hz with hz | hz
        · rcases k3 z hz with h5 | h5
          · exact h.ap k hk z (.inl h5)
          · intro hm; have := (h.gl z hm).2.1; omega
        · simp at hz
      · rw [setM_ne e1] at hz
        exact h.ap k hk z hz
  refine ⟨setM D i ⟨f, x, R.2.stop, sl', o', [], RRec x 0 n R.1 o'⟩, R.2.stop.mem, fun k => ?_, fun z hz => k2.block z (h.gl z hz).2.1 (hown z hz), ?_⟩
  · by_cases e1 : k = i
    · subst e1; rw [setM_same, h1]; exact ⟨rfl, rfl⟩
    · rw [setM_ne e1]; exact ⟨rfl, rfl⟩
  · rcases g3 with ⟨g3, a, h5, h6, h7⟩ | ⟨g3, h7⟩
    · refine .inr ⟨by rw [he, g3], hA i (.inl rfl), ?_⟩
      have ok := k1.one i (by omega)
      rw [setM_same] at ok
      obtain ⟨v, r1, r2, r3⟩ := ok.rr
      rw [h7, vers_len] at r2
      exact ⟨a, v, h5, by have := (cnt_le (V := V) (j := j)).2; omega, r1, r2⟩
    · exact .inl ⟨by rw [he, g3], hA 3 (.inr ⟨rfl, g3, h7⟩)⟩
/-- A step of the writer. -/
theorem At4.write (h : At4 3 w0 w m b n V j N L D lm gs) (hn : 1 ≤ n ∧ n ≤ 6) (hN : N + 1 ≤ 400) (now : Int) :
    Calls Try.prog 29 #[.pointer (some ⟨(D 2).f, 0, none⟩), .int .i64 now, .func (.func 49) #[.pointer (some ⟨(D 2).x, 0, none⟩)] #[]] w fun e w' =>
      ∃ D' lm', (∀ k, (D' k).f = (D k).f ∧ (D' k).x = (D k).x) ∧ (∀ z ∈ gs, w'.heap[z]? = w.heap[z]?) ∧
        ((e = .returned (.bool false) ∧ At4 3 w0 w' m b n V (j + 1) (N + 1) L D' lm' gs) ∨ (e = .returned (.bool true) ∧ At4 2 w0 w' m b n (V + 1) 0 (N + 1) L D' lm' gs)) := by
  obtain ⟨f, x, s, sl, ao, cap, h1, h2, h3⟩ := h.wt (by omega)
  have hmem := h.many.mem 2 (by omega)
  rw [h1] at hmem ⊢
  dsimp only at hmem ⊢
  have hV := h.hV
  have hsl : s.log.length ≤ 900000 := by
    have : (ans s).length = j := by rw [h3, wlog_len]
    simp [ans] at this
    have := h.hj
    omega
  have g3 := write_step h3 (by rw [hmem]; exact h.wr) hn (by omega) h.hj now
  have hq : stepP (progB (fun _ : Unit => writeP 0 (vers (V + 1) n)) (fun r _ => r)) now ((), s) = ((), ((writeP 0 (vers (V + 1) n)).run (s.start now)).2.stop) := stepP_go h2
  generalize (writeP 0 (vers (V + 1) n)).run (s.start now) = R at g3 hq
  refine (h.many.step (by omega) h1 w_K (w_body x ao cap _ 0 (by omega)) (wStays x ao cap _ 0) hsl now hq).mono ?_
  rintro e w1 ⟨he, sl', o', k1, k2, k3⟩
  have ho' : o' = [] := by
    have ok := k1.one 2 (by omega)
    rw [setM_same] at ok
    exact ok.rr.1
  subst ho'
  have hown : ∀ z ∈ gs, z ∉ b :: (D 2).own := by
    intro z hz hm
    rcases List.mem_cons.1 hm with e1 | hm
    · exact (h.gl z hz).2.2.2 e1
    · exact h.ap 2 (by omega) z (.inl hm) hz
  have hA : ∀ q' V' j', j' ≤ n + 2 → V' ≤ V + 1 → V ≤ V' → cntOf V j ≤ cntOf V' j' → Wr n V' j' R.2.stop.mem → (q' ≠ 2 → q' = 3 ∧ Wt n V' j' ⟨f, x, R.2.stop, sl', [], roI ao, WRec x ao cap (vers (V + 1) n) 0 () []⟩) → (∀ i, i < 2 → i ≠ q') → At4 q' w0 w1 m b n V' j' (N + 1) L (setM D 2 ⟨f, x, R.2.stop, sl', [], roI ao, WRec x ao cap (vers (V + 1) n) 0 () []⟩) R.2.stop.mem gs := by
    intro q' V' j' a1 a2 a3 a4 a5 a6 a7
    refine ⟨k1, a5, a1, by omega, fun hq2 => ?_, fun k hk hkq => ?_, fun k hk => Nat.le_trans (h.hL k hk) a3, fun k hk z hz => ?_, fun z hz => ⟨(h.gl z hz).1, k2.lt (h.gl z hz).2.1, (h.gl z hz).2.2⟩⟩
    · rw [setM_same]
      exact (a6 hq2).2
    · rw [setM_ne (by omega)]
      exact (h.rd k hk (by omega)).later a4 (by omega)
    · by_cases e1 : k = 2
      · subst e1
        rw [setM_same] at hz
        rcases hz with hz | hz
        · rcases k3 z hz with h5 | h5
          · exact h.ap 2 hk z (.inl h5)
          · intro hm; have := (h.gl z hm).2.1; omega
        · exact h.ap 2 hk z (.inr (by rw [h1]; exact hz))
      · rw [setM_ne e1] at hz
        exact h.ap k hk z hz
  refine ⟨setM D 2 ⟨f, x, R.2.stop, sl', [], roI ao, WRec x ao cap (vers (V + 1) n) 0 () []⟩, R.2.stop.mem, fun k => ?_, fun z hz => k2.block z (h.gl z hz).2.1 (hown z hz), ?_⟩
  · by_cases e1 : k = 2
    · subst e1; rw [setM_same, h1]; exact ⟨rfl, rfl⟩
    · rw [setM_ne e1]; exact ⟨rfl, rfl⟩
  · rcases g3 with ⟨b1, b2, b3, b4⟩ | ⟨b1, b2, b3⟩
    · exact .inl ⟨by rw [he, b2], hA 3 V (j + 1) (by omega) (by omega) (Nat.le_refl _) cnt_mono.1 b4 (fun _ => ⟨rfl, _, _, _, _, _, _, rfl, b2, b3⟩) (by omega)⟩
    · exact .inr ⟨by rw [he, b2], hA 2 (V + 1) 0 (by omega) (by omega) (by omega) cnt_mono.2 b3 (fun hne => absurd rfl hne) (by omega)⟩
/-- A reader is made anew. -/
theorem At4.renewR {i : Nat} (h : At4 i w0 w m b n V j N L D lm gs) (hi : i < 2) (k : Keep [] w w') {f : Nat} (hf : FRep w' f m b (.slice none 0 0) (St.new lm)) (hfn : w.heap.size ≤ f) :
    ∃ D', At4 3 w0 (w'.alloc (.cells #[.int .i64 0, .int .i64 n, .slice none 0 0] 92)) m b n V j N L D' lm gs ∧ (D' i).f = f ∧ (D' i).x = w'.heap.size ∧ ∀ z, z ≠ i → (D' z).f = (D z).f ∧ (D' z).x = (D z).x := by
  have ka := (Keep.refl [] w').alloc (.cells #[.int .i64 0, .int .i64 n, .slice none 0 0] 92)
  have kk := k.trans ka
  have hfl := lt_of_block hf.head
  have hml := lt_of_block hf.mem.head
  have hbl := lt_of_block hf.mem.body
  have hws := k.size
  have hnew := heap_alloc_new w' (.cells #[.int .i64 0, .int .i64 n, .slice none 0 0] 92)
  have hsz := ka.size
  have ok : OneOK (w'.alloc (.cells #[.int .i64 0, .int .i64 n, .slice none 0 0] 92)) m b ⟨f, w'.heap.size, St.new lm, .slice none 0 0, [], [], RRec w'.heap.size 0 n [] []⟩ := by
    refine ⟨hf.keep ka (by simp) (by simp) (by simp) (by simp), ⟨_, hnew, ⟨rfl, .inl ⟨rfl, rfl⟩⟩, rfl⟩, ?_, ⟨?_, ?_, ?_, by simp [blk, Value.ownBlock], by simp, by simp, by simp, by simp, by simp⟩, by simp, lt_of_block hnew, fun z hz => absurd hz (by simp)⟩
    · intro w1 w2 S h1 h2 h3 h4 h5
      exact rStays _ _ _ _ _ _ _ _ h1 h2 h3 h4
    · show w'.heap.size ≠ f; omega
    · show w'.heap.size ≠ m; omega
    · show w'.heap.size ≠ b; omega
  have hM := h.many.renew (show i < 3 by omega) kk ok (fun z hz => by simp [One.own, blk, Value.ownBlock] at hz; omega) (fun z hz => absurd hz (by simp))
  refine ⟨_, ⟨hM, h.wr, h.hj, h.hV, fun _ => ?_, fun z hz hzq => ?_, h.hL, fun z hz y hy hm => ?_, fun z hz => ⟨(h.gl z hz).1, kk.lt (h.gl z hz).2.1, (h.gl z hz).2.2⟩⟩, by rw [setM_same], by rw [setM_same], fun z hz => by rw [setM_ne hz]; exact ⟨rfl, rfl⟩⟩
  · rw [setM_ne (by omega)]
    exact (h.wt (by omega)).turn
  · by_cases e1 : z = i
    · subst e1
      rw [setM_same]
      exact ⟨f, _, St.new lm, _, [], [], rfl, rfl, Nat.zero_le _, .inl rfl⟩
    · rw [setM_ne e1]
      exact (h.rd z hz e1).later (Nat.le_refl _) (Nat.le_refl _)
  · by_cases e1 : z = i
    · subst e1
      rw [setM_same] at hy
      have := (h.gl y hm).2.1
      simp [One.own, blk, Value.ownBlock] at hy
      omega
    · rw [setM_ne e1] at hy
      exact h.ap z hz y hy hm
/-- The writer is made anew. -/
theorem At4.renewW (h : At4 2 w0 w m b n V 0 N L D lm gs) (hn : 1 ≤ n ∧ n ≤ 6) (k : Keep [] w w') {f : Nat} (hf : FRep w' f m b (.slice none 0 0) (St.new lm)) (hfn : w.heap.size ≤ f) {ao : Option Addr} {cap : Nat} (hv : IntsAt w' ao (vers (V + 1) n)) (hao : ∀ z ∈ roI ao, w.heap.size ≤ z ∧ z < w'.heap.size ∧ z ≠ f) :
    ∃ D', At4 3 w0 (w'.alloc (.cells #[.int .i64 0, .slice ao n cap] 89)) m b n V 0 N L D' lm gs ∧ (D' 2).f = f ∧ (D' 2).x = w'.heap.size ∧ ∀ z, z ≠ 2 → (D' z).f = (D z).f ∧ (D' z).x = (D z).x := by
  have ka := (Keep.refl [] w').alloc (.cells #[.int .i64 0, .slice ao n cap] 89)
  have kk := k.trans ka
  have hfl := lt_of_block hf.head
  have hml := lt_of_block hf.mem.head
  have hbl := lt_of_block hf.mem.body
  have hmw := lt_of_block (h.fr (i := 0) (by omega)).mem.head
  have hbw := lt_of_block (h.fr (i := 0) (by omega)).mem.body
  have hws := k.size
  have hnew := heap_alloc_new w' (.cells #[.int .i64 0, .slice ao n cap] 89)
  have hsz := ka.size
  have ok : OneOK (w'.alloc (.cells #[.int .i64 0, .slice ao n cap] 89)) m b ⟨f, w'.heap.size, St.new lm, .slice none 0 0, [], roI ao, WRec w'.heap.size ao cap (vers (V + 1) n) 0 () []⟩ := by
    refine ⟨hf.keep ka (by simp) (by simp) (by simp) (by simp), ⟨rfl, by rw [vers_len]; exact hnew, ints_keep hv ka (by simp), by rw [vers_len]; omega, fun hm => by have := hao _ hm; omega⟩, ?_, ⟨?_, ?_, ?_, by simp [blk, Value.ownBlock], by simp, by simp, by simp, by simp, by simp⟩, by simp, lt_of_block hnew, fun z hz => ?_⟩
    · intro w1 w2 S h1 h2 h3 h4 h5
      exact wStays w'.heap.size ao cap (vers (V + 1) n) 0 () [] w1 w2 S h1 h2 h3 h4 h5
    · show w'.heap.size ≠ f; omega
    · show w'.heap.size ≠ m; omega
    · show w'.heap.size ≠ b; omega
    · have := hao z hz
      exact ⟨by omega, by show z ≠ f; omega, by omega, by simp [blk, Value.ownBlock], by simp⟩
  have hM := h.many.renew (show 2 < 3 by omega) kk ok (fun z hz => by simp [One.own, blk, Value.ownBlock] at hz; omega) (fun z hz i hi hik hm => by have := ((h.many.one i hi).own_lt z hm).1; have := hao z hz; omega)
  refine ⟨_, ⟨hM, h.wr, h.hj, h.hV, fun _ => ?_, fun z hz hzq => ?_, h.hL, fun z hz y hy hm => ?_, fun z hz => ⟨(h.gl z hz).1, kk.lt (h.gl z hz).2.1, (h.gl z hz).2.2⟩⟩, by rw [setM_same], by rw [setM_same], fun z hz => by rw [setM_ne hz]; exact ⟨rfl, rfl⟩⟩
  · rw [setM_same]
    exact ⟨f, _, St.new lm, _, ao, cap, rfl, rfl, rfl⟩
  · rw [setM_ne (by omega)]
    exact (h.rd z hz (by omega)).later (Nat.le_refl _) (Nat.le_refl _)
  · by_cases e1 : z = 2
    · subst e1
      rw [setM_same] at hy
      have := (h.gl y hm).2.1
      rcases hy with hy | hy
      · simp [One.own, blk, Value.ownBlock] at hy
        omega
      · have := hao y hy
        omega
    · rw [setM_ne e1] at hy
      exact h.ap z hz y hy hm
end
end SeqL
end Go.Proofs.Ytkmamebaichboaa
