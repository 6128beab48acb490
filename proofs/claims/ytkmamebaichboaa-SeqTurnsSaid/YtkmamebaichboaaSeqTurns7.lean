/- Law 4: SeqTurns: the three arrays of two, and the loop that fills them. No conditions but those stated. -/
import Derived.Test.YtkmamebaichboaaSeqTurns6
namespace Go.Proofs.Ytkmamebaichboaa
open Go.ChangeShapes Go.WideShapes Go.ChangeAt Go.RowKit
set_option linter.unusedVariables false
set_option linter.unusedSimpArgs false
namespace SeqL
open Prog
def ptr (x : Nat) : Value := .pointer (some ⟨x, 0, none⟩)
def arr2 (k : Nat) (g : Nat → Value) : Array Value := #[if 0 < k then g 0 else .pointer none, if 1 < k then g 1 else .pointer none]
theorem arr2_set {k : Nat} (hk : k < 2) (g : Nat → Value) (v : Value) : (arr2 k g).setIfInBounds k v = arr2 (k + 1) (fun i => if i = k then v else g i) := by
  match k, hk with
  | 0, _ => rfl
  | 1, _ => rfl
theorem arr2_put {i : Nat} (hi : i < 2) (g : Nat → Value) (v : Value) : (arr2 2 g).setIfInBounds i v = arr2 2 (fun j => if j = i then v else g j) := by
  match i, hi with
  | 0, _ => rfl
  | 1, _ => rfl
theorem arr2_get {k i : Nat} (hi : i < k) (hk : k ≤ 2) (g : Nat → Value) : (arr2 k g)[i]? = some (g i) := by
  have h : i = 0 ∨ i = 1 := by omega
  rcases h with rfl | rfl
  · simp [arr2, show 0 < k by omega]
  · simp [arr2, show 1 < k by omega]
theorem arr2_at {k : Nat} (hk : k < 2) (g : Nat → Value) : (arr2 k g)[k]? = some (.pointer none) := by
  match k, hk with
  | 0, _ => rfl
  | 1, _ => rfl
theorem arr2_congr {k : Nat} (hk : k ≤ 2) {g g' : Nat → Value} (h : ∀ i, i < k → g i = g' i) : arr2 k g = arr2 k g' := by
  have e : k = 0 ∨ k = 1 ∨ k = 2 := by omega
  rcases e with rfl | rfl | rfl
  · rfl
  · simp [arr2, h 0 (by omega)]
  · simp [arr2, h 0 (by omega), h 1 (by omega)]
theorem heap_far {w : World} {g i x : Nat} {v : Value} {o : Obj} (h : w.heap[x]? = some o) (hn : g ≠ x) : (w.setCell ⟨g, i, none⟩ v).heap[x]? = some o := by
  rw [Below.heap_setCell _ _ _ _ (Ne.symm hn)]; exact h
/-- What the three arrays hold. -/
structure Arr4 (gf gr gl : Nat) (D : Nat → One) (L : Nat → Nat) (w : World) : Prop where
  fa : w.heap[gf]? = some (.cells (arr2 2 fun i => ptr (D i).f) 98 (0, 0))
  ra : w.heap[gr]? = some (.cells (arr2 2 fun i => ptr (D i).x) 99 (0, 0))
  la : w.heap[gl]? = some (.cells (arr2 2 fun i => .int .i64 (L i)) 100 (0, 0))
  ne : gf ≠ gr ∧ gf ≠ gl ∧ gr ≠ gl
section
variable {gf gr gl : Nat} {D D' : Nat → One} {L : Nat → Nat} {w w' : World} {i : Nat}
theorem Arr4.cells (h : Arr4 gf gr gl D L w) (hi : i < 2) : w.cell? ⟨gf, i, none⟩ = some (.pointer (some ⟨(D i).f, 0, none⟩)) ∧ w.cell? ⟨gr, i, none⟩ = some (.pointer (some ⟨(D i).x, 0, none⟩)) ∧ w.cell? ⟨gl, i, none⟩ = some (.int .i64 (L i)) :=
  ⟨cell_of h.fa (arr2_get hi (Nat.le_refl _) _), cell_of h.ra (arr2_get hi (Nat.le_refl _) _), cell_of h.la (arr2_get hi (Nat.le_refl _) _)⟩
theorem Arr4.free (h : Arr4 gf gr gl D L w) (i : Nat) : w.frozen? ⟨gf, i, none⟩ = false ∧ w.frozen? ⟨gr, i, none⟩ = false ∧ w.frozen? ⟨gl, i, none⟩ = false := ⟨free_of h.fa, free_of h.ra, free_of h.la⟩
theorem Arr4.step (h : Arr4 gf gr gl D L w) (h1 : ∀ k, (D' k).f = (D k).f ∧ (D' k).x = (D k).x) (h2 : ∀ z ∈ [gf, gr, gl], w'.heap[z]? = w.heap[z]?) : Arr4 gf gr gl D' L w' := by
  refine ⟨?_, ?_, ?_, h.ne⟩
  · rw [h2 gf (by simp), h.fa, arr2_congr (Nat.le_refl _) (g := fun i => ptr (D i).f) (g' := fun i => ptr (D' i).f) (fun i _ => by rw [(h1 i).1])]
  · rw [h2 gr (by simp), h.ra, arr2_congr (Nat.le_refl _) (g := fun i => ptr (D i).x) (g' := fun i => ptr (D' i).x) (fun i _ => by rw [(h1 i).2])]
  · rw [h2 gl (by simp), h.la]
theorem Arr4.kept (h : Arr4 gf gr gl D L w) (k : Keep [] w w') : Arr4 gf gr gl D L w' := ⟨k.to h.fa (by simp), k.to h.ra (by simp), k.to h.la (by simp), h.ne⟩
theorem Arr4.setL (h : Arr4 gf gr gl D L w) (hi : i < 2) (V : Nat) : Arr4 gf gr gl D (setN L i V) (w.setCell ⟨gl, i, none⟩ (.int .i64 V)) := by
  obtain ⟨n1, n2, n3⟩ := h.ne
  refine ⟨heap_far h.fa (Ne.symm n2), heap_far h.ra (Ne.symm n3), ?_, h.ne⟩
  rw [block_set i (.int .i64 (V : Int)) h.la, arr2_put hi]
  rw [arr2_congr (Nat.le_refl _) (g' := fun j => .int .i64 (setN L i V j)) (fun j _ => by unfold setN; split <;> rfl)]
theorem Arr4.renew {f x : Nat} (h : Arr4 gf gr gl D L w) (hi : i < 2) (h1 : (D' i).f = f ∧ (D' i).x = x) (h2 : ∀ z, z ≠ i → (D' z).f = (D z).f ∧ (D' z).x = (D z).x) : Arr4 gf gr gl D' L ((w.setCell ⟨gf, i, none⟩ (.pointer (some ⟨f, 0, none⟩))).setCell ⟨gr, i, none⟩ (.pointer (some ⟨x, 0, none⟩))) := by
  obtain ⟨n1, n2, n3⟩ := h.ne
  refine ⟨heap_far (x := gf) ?_ (Ne.symm n1), ?_, heap_far (heap_far h.la n2) n3, h.ne⟩
  · rw [block_set i _ h.fa, arr2_put hi]
    rw [arr2_congr (Nat.le_refl _) (g' := fun i => ptr (D' i).f) (fun j _ => by
      by_cases e : j = i
      · rw [if_pos e, e, h1.1]; rfl
      · rw [if_neg e, (h2 j e).1])]
  · rw [block_set i _ (heap_far h.ra n1), arr2_put hi]
    rw [arr2_congr (Nat.le_refl _) (g' := fun i => ptr (D' i).x) (fun j _ => by
      by_cases e : j = i
      · rw [if_pos e, e, h1.2]; rfl
      · rw [if_neg e, (h2 j e).2])]
end
/-- k readers are made. -/
structure Pre4 (w0 wS : World) (m b n k gf gr : Nat) (D : Nat → One) (lm : List Int) (w : World) : Prop where
  many : Many k w0 w m b D lm
  new : ∀ i, i < k → D i = ⟨(D i).f, (D i).x, St.new lm, .slice none 0 0, [], [], RRec (D i).x 0 n [] []⟩
  hi : ∀ i, i < k → ∀ z ∈ (D i).own, wS.heap.size ≤ z
  fa : w.heap[gf]? = some (.cells (arr2 k fun i => ptr (D i).f) 98 (0, 0))
  ra : w.heap[gr]? = some (.cells (arr2 k fun i => ptr (D i).x) 99 (0, 0))
  keep : Keep [gf, gr] wS w
  ne : gf ≠ gr ∧ gf < wS.heap.size ∧ gr < wS.heap.size ∧ w0.heap.size ≤ gf ∧ w0.heap.size ≤ gr ∧ gf ≠ m ∧ gf ≠ b ∧ gr ≠ m ∧ gr ≠ b
theorem Pre4.step {w0 wS w w2 : World} {m b n k gf gr : Nat} {D : Nat → One} {lm : List Int} (h : Pre4 w0 wS m b n k gf gr D lm w) (hk : k < 2) (k2 : Keep [] w w2) {f : Nat} (hf : FRep w2 f m b (.slice none 0 0) (St.new lm)) (hfn : w.heap.size ≤ f) :
    ∃ D', Pre4 w0 wS m b n (k + 1) gf gr D' lm (((w2.alloc (.cells #[.int .i64 0, .int .i64 n, .slice none 0 0] 92)).setCell ⟨gf, k, none⟩ (.pointer (some ⟨f, 0, none⟩))).setCell ⟨gr, k, none⟩ (.pointer (some ⟨w2.heap.size, 0, none⟩))) := by
  obtain ⟨n1, n2, n3, n4, n5, n6, n7, n8, n9⟩ := h.ne
  have ka := (Keep.refl [] w2).alloc (.cells #[.int .i64 0, .int .i64 n, .slice none 0 0] 92)
  have hnew := heap_alloc_new w2 (.cells #[.int .i64 0, .int .i64 n, .slice none 0 0] 92)
  have hfa := (k2.trans ka).to h.fa (by simp)
  have hra := (k2.trans ka).to h.ra (by simp)
  have hM := h.many.kept (k2.trans ka)
  have hf3 := hf.keep ka (by simp) (by simp) (by simp) (by simp)
  have hk3 := (h.keep.trans (k2.mono (by simp))).trans (ka.mono (S' := [gf, gr]) (by simp))
  have hsz := ka.size
  have hs2 := k2.size
  have hs0 := h.keep.size
  have hfl := lt_of_block hf.head
  have hml := lt_of_block hf.mem.head
  have hbl := lt_of_block hf.mem.body
  have hw0 := h.many.keep.size
  generalize w2.alloc (.cells #[.int .i64 0, .int .i64 n, .slice none 0 0] 92) = w3 at *
  have ks : Keep [gf, gr] w3 ((w3.setCell ⟨gf, k, none⟩ (.pointer (some ⟨f, 0, none⟩))).setCell ⟨gr, k, none⟩ (.pointer (some ⟨w2.heap.size, 0, none⟩))) := ((Keep.refl _ _).setCell (.inr (by simp)) _).setCell (.inr (by simp)) _
  have ok : OneOK w3 m b ⟨f, w2.heap.size, St.new lm, .slice none 0 0, [], [], RRec w2.heap.size 0 n [] []⟩ := by
    refine ⟨hf3, ⟨_, hnew, ⟨rfl, .inl ⟨rfl, rfl⟩⟩, rfl⟩, ?_, ⟨?_, ?_, ?_, by simp [blk, Value.ownBlock], by simp, by simp, by simp, by simp, by simp⟩, by simp, lt_of_block hnew, fun z hz => absurd hz (by simp)⟩
    · intro w1 w2 S h1 h2 h3 h4 h5
      exact rStays _ _ _ _ _ _ _ _ h1 h2 h3 h4
    · show w2.heap.size ≠ f; omega
    · show w2.heap.size ≠ m; omega
    · show w2.heap.size ≠ b; omega
  have hlt : ∀ i, i < k → ∀ z ∈ (D i).own, z < w.heap.size := fun i hi z hz => ((h.many.one i hi).own_lt z hz).1
  have hro : ∀ i, i < k → (D i).ro = [] := fun i hi => by rw [h.new i hi]
  have hfar : ∀ z, wS.heap.size ≤ z → z ∉ [gf, gr] := fun z hz hm => by simp at hm; omega
  have P := hM.push ok rfl (fun z hz => by simp [One.own, blk, Value.ownBlock] at hz; omega) (fun z hz i hi => ⟨fun hm => by have := hlt i hi z hm; simp [One.own, blk, Value.ownBlock] at hz; omega, by rw [hro i hi]; simp⟩) (fun z hz => absurd hz (by simp))
  have hhi : ∀ i, i < k + 1 → ∀ z ∈ (addM D k ⟨f, w2.heap.size, St.new lm, .slice none 0 0, [], [], RRec w2.heap.size 0 n [] []⟩ i).own, wS.heap.size ≤ z := by
    intro i hi z hz
    by_cases e : i = k
    · subst e
      rw [addM_same] at hz
      simp [One.own, blk, Value.ownBlock] at hz
      omega
    · rw [addM_ne e] at hz
      exact h.hi i (by omega) z hz
  have hnw : ∀ i, i < k + 1 → addM D k ⟨f, w2.heap.size, St.new lm, .slice none 0 0, [], [], RRec w2.heap.size 0 n [] []⟩ i = ⟨(addM D k ⟨f, w2.heap.size, St.new lm, .slice none 0 0, [], [], RRec w2.heap.size 0 n [] []⟩ i).f, (addM D k ⟨f, w2.heap.size, St.new lm, .slice none 0 0, [], [], RRec w2.heap.size 0 n [] []⟩ i).x, St.new lm, .slice none 0 0, [], [], RRec (addM D k ⟨f, w2.heap.size, St.new lm, .slice none 0 0, [], [], RRec w2.heap.size 0 n [] []⟩ i).x 0 n [] []⟩ := by
    intro i hi
    by_cases e : i = k
    · subst e; rw [addM_same]
    · rw [addM_ne e]; exact h.new i (by omega)
  refine ⟨_, P.keptS ks (fun z hz => ?_), hnw, hhi, ?_, ?_, hk3.trans ks, h.ne⟩
  · simp at hz
    refine ⟨by omega, by omega, by omega, fun i hi => ⟨fun hm => by have := hhi i hi z hm; omega, by rw [hnw i hi]; simp⟩⟩
  · refine heap_far (x := gf) ?_ (Ne.symm n1)
    rw [block_set k _ hfa, arr2_set hk]
    refine congrArg (fun c => some (Obj.cells c 98 (0, 0))) (arr2_congr (by omega) fun j hj => ?_)
    by_cases e : j = k
    · subst e; rw [if_pos rfl, addM_same]; rfl
    · rw [if_neg e, addM_ne e]
  · rw [block_set k _ (heap_far hra n1), arr2_set hk]
    refine congrArg (fun c => some (Obj.cells c 99 (0, 0))) (arr2_congr (by omega) fun j hj => ?_)
    by_cases e : j = k
    · subst e; rw [if_pos rfl, addM_same]; rfl
    · rw [if_neg e, addM_ne e]
set_option maxHeartbeats 1000000 in
/-- All are made. -/
theorem Pre4.start {w0 wS w : World} {m b n gf gr gl wf wx cap : Nat} {ao : Option Addr} {D : Nat → One} (h : Pre4 w0 wS m b n 2 gf gr D (List.replicate 20 0) w) (hn : 1 ≤ n ∧ n ≤ 6)
    (hf : FRep wS wf m b (.slice none 0 0) (St.new (List.replicate 20 0))) (hx : wS.heap[wx]? = some (.cells #[.int .i64 0, .slice ao n cap] 89 (0, 0))) (hv : IntsAt wS ao (vers 1 n))
    (hao : ∀ z ∈ roI ao, z < wS.heap.size ∧ z ≠ wf ∧ z ≠ wx ∧ z ≠ m ∧ z ≠ b ∧ z ≠ gf ∧ z ≠ gr ∧ z ≠ gl) (hap : wx ≠ wf ∧ wx ≠ m ∧ wx ≠ b ∧ wf ≠ gf ∧ wf ≠ gr ∧ wf ≠ gl ∧ wx ≠ gf ∧ wx ≠ gr ∧ wx ≠ gl ∧ w0.heap.size ≤ wf ∧ w0.heap.size ≤ wx)
    (hl : wS.heap[gl]? = some (.cells #[.int .i64 0, .int .i64 0] 100 (0, 0))) (hgl : gf ≠ gl ∧ gr ≠ gl ∧ w0.heap.size ≤ gl ∧ gl ≠ m ∧ gl ≠ b) :
    ∃ D', At4 3 w0 w m b n 0 0 0 (fun _ => 0) D' (List.replicate 20 0) [gf, gr, gl] ∧ Arr4 gf gr gl D' (fun _ => 0) w ∧ (D' 2).f = wf ∧ (D' 2).x = wx := by
  obtain ⟨n1, n2, n3, n4, n5, n6, n7, n8, n9⟩ := h.ne
  obtain ⟨a1, a2, a3, a4, a5, a6, a7, a8, a9, a10, a11⟩ := hap
  have hfl := lt_of_block hf.head
  have hml := lt_of_block hf.mem.head
  have hbl := lt_of_block hf.mem.body
  have hxl := lt_of_block hx
  have hgll := lt_of_block hl
  have hsz := h.keep.size
  have okS : OneOK wS m b ⟨wf, wx, St.new (List.replicate 20 0), .slice none 0 0, [], roI ao, WRec wx ao cap (vers 1 n) 0 () []⟩ := by
    refine ⟨hf, ⟨rfl, by rw [vers_len]; exact hx, hv, by rw [vers_len]; omega, fun hm => (hao _ hm).2.2.1 rfl⟩, ?_, ⟨a1, a2, a3, by simp [blk, Value.ownBlock], by simp, by simp, by simp, by simp, by simp⟩, by simp, hxl, fun z hz => ?_⟩
    · intro w1 w2 S h1 h2 h3 h4 h5
      exact wStays wx ao cap (vers 1 n) 0 () [] w1 w2 S h1 h2 h3 h4 h5
    · have := hao z hz
      exact ⟨this.1, this.2.1, this.2.2.2.2.1, by simp [blk, Value.ownBlock], by simp⟩
  have ok := okS.keptS h.keep (by simp; omega) (by simp; omega) (fun z hz hm => by simp [One.own, blk, Value.ownBlock] at hz hm; omega) (fun z hz hm => by have := hao z hz; simp at hm; omega)
  have P := h.many.push ok rfl (fun z hz => by simp [One.own, blk, Value.ownBlock] at hz; omega) (fun z hz i hi => ⟨fun hm => by have := h.hi i hi z hm; simp [One.own, blk, Value.ownBlock] at hz; omega, by rw [h.new i hi]; simp⟩) (fun z hz i hi hm => by have := h.hi i hi z hm; have := hao z hz; omega)
  refine ⟨_, ⟨P, ⟨by simp, by rw [get_zeros]; simp, fun i hi => by rw [get_zeros]; simp [ver]⟩, Nat.zero_le _, Nat.le_refl _, fun _ => ?_, fun i hi hq => ?_, fun i hi => Nat.le_refl _, fun i hi z hz hm => ?_, fun z hz => ?_⟩, ⟨?_, ?_, ?_, n1, hgl.1, hgl.2.1⟩, by rw [addM_same], by rw [addM_same]⟩
  · rw [addM_same]
    exact ⟨wf, wx, St.new _, _, ao, cap, rfl, rfl, rfl⟩
  · rw [addM_ne (by omega), h.new i hi]
    exact ⟨_, _, St.new _, _, [], [], rfl, rfl, Nat.le_refl _, .inl rfl⟩
  · by_cases e : i = 2
    · subst e
      rw [addM_same] at hz
      rcases hz with hz | hz
      · simp [One.own, blk, Value.ownBlock] at hz hm
        omega
      · have := hao z hz
        simp at hm
        omega
    · rw [addM_ne e] at hz
      rcases hz with hz | hz
      · have := h.hi i (by omega) z hz
        simp at hm
        omega
      · rw [h.new i (by omega)] at hz
        simp at hz
  · simp at hz
    omega
  · refine h.fa.trans (congrArg (fun c => some (Obj.cells c 98 (0, 0))) (arr2_congr (Nat.le_refl _) fun j hj => ?_))
    rw [addM_ne (show j ≠ 2 by omega)]
  · refine h.ra.trans (congrArg (fun c => some (Obj.cells c 99 (0, 0))) (arr2_congr (Nat.le_refl _) fun j hj => ?_))
    rw [addM_ne (show j ≠ 2 by omega)]
  · exact h.keep.to hl (by simp; omega)
end SeqL
end Go.Proofs.Ytkmamebaichboaa
