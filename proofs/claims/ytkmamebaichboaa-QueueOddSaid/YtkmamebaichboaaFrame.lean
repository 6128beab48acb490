/- The contracts of the package frame: each access as a function of the frame's state. No conditions but those stated. -/
import Derived.Test.YtkmamebaichboaaWord
import Derived.Deep.AppendLies
import Derived.Deep.RegionHeld3
import Derived.Deep.RegionLaw
namespace Go.Proofs.Ytkmamebaichboaa
open Go.ChangeShapes Go.WideShapes Go.ChangeAt Go.RowKit
set_option linter.unusedVariables false
set_option linter.unusedSimpArgs false

/-- A frame's state, and the words it works on. -/
structure St where
  log : List (Int × Int)
  pos : Nat
  fresh : Bool
  off : Bool
  now : Int
  mark : Int
  marked : Bool
  over : Bool
  mem : List Int

/-- what an access answers that was done already, or when off: none: it is done now. -/
def St.again (s : St) : Option Int × St :=
  if s.off then (some 0, s)
  else if s.pos < s.log.length then (some (s.log.getD s.pos (0, 0)).1, { s with pos := s.pos + 1 })
  else if s.fresh then (none, s) else (some 0, { s with off := true })
def St.note (s : St) (v : Int) : St := { s with fresh := false, log := s.log ++ [(v, s.now)], pos := s.pos + 1 }
def St.load (a : Int) (s : St) : Int × St := match s.again with
  | (some v, s') => (v, s')
  | (none, s') => (wordGet s'.mem a, s'.note (wordGet s'.mem a))
def St.store (a v : Int) (s : St) : St := match s.again with
  | (some _, s') => s'
  | (none, s') => { s' with mem := wordPut s'.mem a v }.note 0
def St.add (a d : Int) (s : St) : Int × St := match s.again with
  | (some v, s') => (v, s')
  | (none, s') => (wordGet s'.mem a, { s' with mem := wordPut s'.mem a (wordSum s'.mem a d) }.note (wordGet s'.mem a))
def b2i (b : Bool) : Int := if b then 1 else 0
def St.swap (a old fresh : Int) (s : St) : Bool × St := match s.again with
  | (some v, s') => (v == 1, s')
  | (none, s') => (swapOk s'.mem a old, { s' with mem := wordSwap s'.mem a old fresh }.note (b2i (swapOk s'.mem a old)))
def St.markIt (s : St) : St := if !s.off && decide (0 < s.pos) then { s with mark := (s.log.getD (s.pos - 1) (0, 0)).2, marked := true } else s

/-- The log's cells. -/
def flat : List (Int × Int) → List Value
  | [] => []
  | (v, t) :: l => .int .i64 v :: .int .i64 t :: flat l
theorem flat_length (l : List (Int × Int)) : (flat l).length = l.length * 2 := by
  induction l with
  | nil => rfl
  | cons x l ih => obtain ⟨v, t⟩ := x; simp [flat, ih]; omega
theorem flat_append (l m : List (Int × Int)) : flat (l ++ m) = flat l ++ flat m := by
  induction l with
  | nil => rfl
  | cons x l ih => obtain ⟨v, t⟩ := x; simp [flat, ih]
theorem flat_at (l : List (Int × Int)) (i : Nat) (h : i < l.length) : (flat l)[i * 2]? = some (.int .i64 (l.getD i (0, 0)).1) ∧ (flat l)[i * 2 + 1]? = some (.int .i64 (l.getD i (0, 0)).2) := by
  induction l generalizing i with
  | nil => simp at h
  | cons x l ih =>
    obtain ⟨v, t⟩ := x
    cases i with
    | zero => simp [flat]
    | succ i =>
      have := ih i (by simpa using h)
      have e : (i + 1) * 2 = i * 2 + 1 + 1 := by omega
      rw [e]
      simpa [flat] using this

def frameCells (m : Nat) (sl : Value) (s : St) : Array Value :=
  #[.pointer (some ⟨m, 0, none⟩), sl, .int .i64 s.pos, .bool s.fresh, .bool s.off, .int .i64 s.now, .int .i64 s.mark, .bool s.marked, .bool s.over]

/-- A frame at block f over the memory at block m (words in block b); its log's slice is sl. -/
structure FRep (w : World) (f m b : Nat) (sl : Value) (s : St) : Prop where
  mem : MemRep 134 w m b s.mem
  head : w.heap[f]? = some (.cells (frameCells m sl s) 144 (0, 0))
  own : w.ownsRow 0 173 2 sl s.log.length (flat s.log)
  le : s.pos ≤ s.log.length
  small : s.log.length + (if s.fresh then 1 else 0) ≤ 1000000

def blk (sl : Value) : List Nat := match sl.ownBlock with | some k => [k] | none => []
/-- How the world may have turned: the blocks X, the log; new blocks. -/
structure Ev (X : List Nat) (sl : Value) (w : World) (sl' : Value) (w' : World) : Prop where
  keep : Keep (X ++ blk sl) w w'
  new : sl'.ownBlock = sl.ownBlock ∨ ∀ k, sl'.ownBlock = some k → w.heap.size ≤ k
theorem Ev.refl (X : List Nat) (sl : Value) (w : World) : Ev X sl w sl w := ⟨Keep.refl _ _, .inl rfl⟩
theorem mem_blk {sl : Value} {k : Nat} : k ∈ blk sl ↔ sl.ownBlock = some k := by
  unfold blk
  cases h : sl.ownBlock with
  | none => simp
  | some x => simp [eq_comm]
theorem Ev.trans {X : List Nat} {sl sl1 sl2 : Value} {w w1 w2 : World} (h : Ev X sl w sl1 w1) (k : Ev X sl1 w1 sl2 w2) : Ev X sl w sl2 w2 := by
  refine ⟨h.keep.transS k.keep (fun x hx _ => hx) (fun x hx hlt => ?_), ?_⟩
  · simp only [List.mem_append] at hx ⊢
    rcases hx with hx | hx
    · exact .inl hx
    · refine .inr ?_
      rw [mem_blk] at hx ⊢
      rcases h.new with e | e
      · rw [← e]; exact hx
      · have := e x hx; omega
  · rcases k.new with e | e
    · rw [e]; exact h.new
    · exact .inr fun x hx => Nat.le_trans h.keep.size (e x hx)
theorem Ev.mono {X Y : List Nat} {sl sl' : Value} {w w' : World} (h : Ev X sl w sl' w') (hs : ∀ x ∈ X, x < w.heap.size → x ∈ Y) : Ev Y sl w sl' w' :=
  ⟨h.keep.mono (fun x hx hlt => by
    simp only [List.mem_append] at hx ⊢
    rcases hx with hx | hx
    · exact .inl (hs x hx hlt)
    · exact .inr hx), h.new⟩
theorem Ev.ofKeep {X : List Nat} {sl : Value} {w w1 : World} {S : List Nat} (k : Keep S w w1) (h : ∀ x ∈ S, x < w.heap.size → x ∈ X) : Ev X sl w sl w1 :=
  ⟨k.mono (fun x hx hlt => by simp [h x hx hlt]), .inl rfl⟩

section
variable {w w' : World} {f m b : Nat} {sl : Value} {s : St}
theorem FRep.cellAt (h : FRep w f m b sl s) (i : Nat) (v : Value) (hv : (frameCells m sl s)[i]? = some v) : w.cell? ⟨f, i, none⟩ = some v := cell_of h.head hv
theorem FRep.c0 (h : FRep w f m b sl s) : w.cell? ⟨f, 0, none⟩ = some (.pointer (some ⟨m, 0, none⟩)) := h.cellAt 0 _ rfl
theorem FRep.c1 (h : FRep w f m b sl s) : w.cell? ⟨f, 1, none⟩ = some (sl) := h.cellAt 1 _ rfl
theorem FRep.c2 (h : FRep w f m b sl s) : w.cell? ⟨f, 2, none⟩ = some (.int .i64 s.pos) := h.cellAt 2 _ rfl
theorem FRep.c3 (h : FRep w f m b sl s) : w.cell? ⟨f, 3, none⟩ = some (.bool s.fresh) := h.cellAt 3 _ rfl
theorem FRep.c4 (h : FRep w f m b sl s) : w.cell? ⟨f, 4, none⟩ = some (.bool s.off) := h.cellAt 4 _ rfl
theorem FRep.c5 (h : FRep w f m b sl s) : w.cell? ⟨f, 5, none⟩ = some (.int .i64 s.now) := h.cellAt 5 _ rfl
theorem FRep.c6 (h : FRep w f m b sl s) : w.cell? ⟨f, 6, none⟩ = some (.int .i64 s.mark) := h.cellAt 6 _ rfl
theorem FRep.c7 (h : FRep w f m b sl s) : w.cell? ⟨f, 7, none⟩ = some (.bool s.marked) := h.cellAt 7 _ rfl
theorem FRep.c8 (h : FRep w f m b sl s) : w.cell? ⟨f, 8, none⟩ = some (.bool s.over) := h.cellAt 8 _ rfl
theorem FRep.freeAt (h : FRep w f m b sl s) (i : Nat) : w.frozen? ⟨f, i, none⟩ = false := free_of h.head
theorem FRep.ne (h : FRep w f m b sl s) : f ≠ m ∧ f ≠ b ∧ m ≠ b ∧ (∀ k, sl.ownBlock = some k → k ≠ f ∧ k ≠ m ∧ k ≠ b ∧ k < w.heap.size) := by
  have hh := h.head
  have hm := h.mem.head
  have hb := h.mem.body
  refine ⟨fun e => ?_, fun e => ?_, h.mem.ne, fun k hk => ?_⟩
  · subst e; rw [hm] at hh; simp at hh
  · subst e; rw [hb] at hh; simp at hh
  · rcases h.own.2 with ⟨rfl, _⟩ | ⟨g, cap, cur, rfl, _, hg, _⟩
    · simp [Value.ownBlock] at hk
    · simp [Value.ownBlock] at hk
      subst hk
      refine ⟨fun e => ?_, fun e => ?_, fun e => ?_, lt_of_block hg⟩
      · subst e; rw [hg] at hh; simp at hh
      · subst e; rw [hg] at hm; simp at hm
      · subst e; rw [hg] at hb; simp at hb
/-- Another part of the world may turn. -/
theorem FRep.keep {S : List Nat} (h : FRep w f m b sl s) (k : Keep S w w') (h1 : f ∉ S) (h2 : m ∉ S) (h3 : b ∉ S) (h4 : ∀ x, sl.ownBlock = some x → x ∉ S) : FRep w' f m b sl s := by
  refine ⟨h.mem.keep k h2 h3, k.to h.head h1, ⟨h.own.1, ?_⟩, h.le, h.small⟩
  rcases h.own.2 with hn | ⟨g, cap, cur, rfl, hb, hg, rest⟩
  · exact .inl hn
  · exact .inr ⟨g, cap, cur, rfl, hb, k.to hg (h4 g rfl), rest⟩
theorem FRep.logCell (h : FRep w f m b sl s) (i : Nat) (hi : i < s.log.length) : ∃ g cap, sl = .slice (some ⟨g, 0, none⟩) s.log.length cap ∧ s.log.length ≤ cap ∧
    w.cell? ⟨g, i * 2, none⟩ = some (.int .i64 (s.log.getD i (0, 0)).1) ∧ w.cell? ⟨g, i * 2 + 1, none⟩ = some (.int .i64 (s.log.getD i (0, 0)).2) := by
  rcases h.own.2 with ⟨rfl, hn⟩ | ⟨g, cap, cur, rfl, _, hg, hnc, _, _, htake⟩
  · omega
  · obtain ⟨h1, h2⟩ := flat_at s.log i hi
    have hat : ∀ j v, (flat s.log)[j]? = some v → w.cell? ⟨g, j, none⟩ = some v := fun j v hv => by
      refine cell_of hg ?_
      rw [← htake, List.getElem?_take] at hv
      split at hv
      · simpa using hv
      · cases hv
    exact ⟨g, cap, rfl, hnc, hat _ _ h1, hat _ _ h2⟩
/-- One cell of the frame is stored. -/
theorem FRep.put (h : FRep w f m b sl s) (i : Nat) (v : Value) (s' : St) (hc : (frameCells m sl s).setIfInBounds i v = frameCells m sl s') (hl : s'.log = s.log) (hm : s'.mem = s.mem) (hle : s'.pos ≤ s'.log.length)
    (hs : s'.log.length + (if s'.fresh then 1 else 0) ≤ 1000000) : FRep (w.setCell ⟨f, i, none⟩ v) f m b sl s' := by
  obtain ⟨n1, n2, n3, n4⟩ := h.ne
  have k : Keep [f] w (w.setCell ⟨f, i, none⟩ v) := (Keep.refl _ _).setCell (by simp) _
  refine ⟨by rw [hm]; exact h.mem.keep k (by simpa using n1.symm) (by simpa using n2.symm), by rw [block_set i v h.head, hc], ?_, hle, hs⟩
  rw [hl]
  refine ⟨h.own.1, ?_⟩
  rcases h.own.2 with hn | ⟨g, cap, cur, rfl, hb, hg, rest⟩
  · exact .inl hn
  · exact .inr ⟨g, cap, cur, rfl, hb, k.to hg (by simpa using (n4 g rfl).1), rest⟩
end

/-- What a call that works on the frame leaves: the value r and the state s'. -/
def FPost (f m b : Nat) (sl : Value) (w : World) (r : Value) (s' : St) (e : Ending) (w' : World) : Prop :=
  ∃ sl', e = .returned r ∧ FRep w' f m b sl' s' ∧ Ev [f, b] sl w sl' w'

theorem frame_off {w : World} {f m b : Nat} {sl : Value} {s : St} (h : FRep w f m b sl s) :
    Calls Try.prog 52 #[.pointer (some ⟨f, 0, none⟩)] w fun e w' => e = .returned (.bool s.off) ∧ w = w' := by
  have c4 := h.c4
  go_enter Try.func52, Try.ntmps52
  go_wp2
  go_ret
  exact ⟨rfl, rfl⟩
theorem frame_done {w : World} {f m b : Nat} {sl : Value} {s : St} (h : FRep w f m b sl s) :
    Calls Try.prog 32 #[.pointer (some ⟨f, 0, none⟩)] w fun e w' => e = .returned (.bool s.over) ∧ w = w' := by
  have c8 := h.c8
  go_enter Try.func32, Try.ntmps32
  go_wp2
  go_ret
  exact ⟨rfl, rfl⟩
theorem frame_steps {w : World} {f m b : Nat} {sl : Value} {s : St} (h : FRep w f m b sl s) :
    Calls Try.prog 33 #[.pointer (some ⟨f, 0, none⟩)] w fun e w' => e = .returned (.int .i64 s.log.length) ∧ w = w' := by
  have c1 := h.c1
  rcases h.own.2 with ⟨rfl, hn⟩ | ⟨g, cap, cur, rfl, _⟩
  · have hn' := Lib.hid hn
    clear hn
    go_enter Try.func33, Try.ntmps33
    go_wp2
    go_ret
    exact ⟨by rw [hn'.out]; rfl, rfl⟩
  · go_enter Try.func33, Try.ntmps33
    go_wp2
    go_ret
    exact ⟨rfl, rfl⟩
theorem FRep.drewN {w : World} {f m b : Nat} {sl : Value} {s : St} (h : FRep w f m b sl s) (n : Nat) : FRep (w.drewN n) f m b sl s := h.keep (Keep.ofDrewN [] w n) (by simp) (by simp) (by simp) (by simp)
theorem frame_marked {w : World} {f m b : Nat} {sl : Value} {s : St} (h : FRep w f m b sl s) :
    Calls Try.prog 53 #[.pointer (some ⟨f, 0, none⟩)] w fun e w' => e = .returned (.tuple #[.int .i64 s.mark, .bool s.marked]) ∧ ∃ n, w' = w.drewN n := by
  have c6 := h.c6
  have c7 := h.c7
  go_enter Try.func53, Try.ntmps53
  go_wp2_with fail
  go_quiet (fail)
  go_wp2_with fail
  go_ret2
  exact ⟨rfl, _, rfl⟩
theorem again_post {s : St} {o : Option Int} {s' : St} (h : s.again = (o, s')) : s'.log = s.log ∧ s'.mem = s.mem ∧ s'.fresh = s.fresh ∧ (s.pos ≤ s.log.length → s'.pos ≤ s'.log.length) := by
  unfold St.again at h
  split at h
  · simp at h; obtain ⟨_, rfl⟩ := h; exact ⟨rfl, rfl, rfl, fun h => h⟩
  · split at h
    · simp at h; obtain ⟨_, rfl⟩ := h; refine ⟨rfl, rfl, rfl, fun h => ?_⟩; simp; omega
    · split at h
      · simp at h; obtain ⟨_, rfl⟩ := h; exact ⟨rfl, rfl, rfl, fun h => h⟩
      · simp at h; obtain ⟨_, rfl⟩ := h; exact ⟨rfl, rfl, rfl, fun h => h⟩

theorem keepPut {w w' : World} {f : Nat} (k : Keep [f] w w') (i : Nat) (v : Value) (n : Nat) : Keep [f] w ((w'.setCell ⟨f, i, none⟩ v).drewN n) := (k.setCell (.inr (by simp)) v).drewN n
theorem frame_again {w : World} {f m b : Nat} {sl : Value} {s : St} (h : FRep w f m b sl s) :
    Calls Try.prog 87 #[.pointer (some ⟨f, 0, none⟩)] w fun e w' =>
      e = .returned (.tuple #[.int .i64 (s.again.1.getD 0), .bool s.again.1.isSome]) ∧ FRep w' f m b sl s.again.2 ∧ Keep [f] w w' := by
  have c1 := h.c1
  have c2 := h.c2
  have c3 := h.c3
  have c4 := h.c4
  have f2 := h.freeAt 2
  have f4 := h.freeAt 4
  have hle := h.le
  have hsm : s.log.length ≤ 1000000 := by have := h.small; omega
  have H := Lib.hid h
  obtain ⟨log, pos, fresh, off, now, mark, marked, over, mem⟩ := s
  simp only at c1 c2 c3 c4 hle hsm
  cases off with
  | true =>
    clear h c1 c2 c3
    go_enter Try.func87, Try.ntmps87
    go_wp2
    go_ret2
    exact ⟨rfl, H.out, Keep.refl _ _⟩
  | false =>
    by_cases hlt : pos < log.length
    · obtain ⟨g, cap, rfl, hnc, l1, l2⟩ := h.logCell pos hlt
      have hlt' : (pos : Int) < (log.length : Int) := by omega
      have e1 : (pos : Int) + 1 - 1 = (pos : Int) := by omega
      have ne : g ≠ f := (h.ne.2.2.2 g rfl).1
      simp only at l1 l2 hnc
      have ha : St.again ⟨log, pos, fresh, false, now, mark, marked, over, mem⟩ = (some (log.getD pos (0, 0)).1, ⟨log, pos + 1, fresh, false, now, mark, marked, over, mem⟩) := by simp [St.again, hlt]
      have Ha := Lib.hid ha
      generalize (log.getD pos (0, 0)).1 = x at *
      clear h c3 ha l2
      go_enter Try.func87, Try.ntmps87
      go_wp2_with fail
      go_quiet (fail)
      go_wp2_with fail
      go_quiet (fail)
      go_wp2_with fail
      go_ret2
      refine ⟨by rw [Ha.out]; rfl, ?_, ?_⟩
      · rw [Ha.out]
        exact ((H.out.drewN _).put 2 (.int .i64 ((pos : Int) + 1)) ⟨log, pos + 1, fresh, false, now, mark, marked, over, mem⟩ (by simp [frameCells]) rfl rfl (by simp; omega) H.out.small).drewN _
      · exact keepPut (Keep.ofDrewN _ _ _) _ _ _
    · have hd : decide ((pos : Int) < (log.length : Int)) = false := by simp; omega
      have ⟨ao, n, cap, hsl, hn⟩ : ∃ ao n cap, sl = .slice ao n cap ∧ n = log.length := by
        rcases h.own.2 with ⟨rfl, hn⟩ | ⟨g, cap, cur, rfl, _⟩
        · exact ⟨none, 0, 0, rfl, hn.symm⟩
        · exact ⟨some ⟨g, 0, none⟩, _, cap, rfl, rfl⟩
      subst hsl
      subst hn
      cases fresh with
      | true =>
        have ha : St.again ⟨log, pos, true, false, now, mark, marked, over, mem⟩ = (none, ⟨log, pos, true, false, now, mark, marked, over, mem⟩) := by simp [St.again, hlt]
        have Ha := Lib.hid ha
        clear h ha
        go_enter Try.func87, Try.ntmps87
        go_wp2_with fail
        go_quiet (fail)
        go_wp2_with fail
        go_ret2
        refine ⟨by rw [Ha.out]; rfl, ?_, ?_⟩
        · rw [Ha.out]
          exact H.out.drewN _
        · exact Keep.ofDrewN _ _ _
      | false =>
        have ha : St.again ⟨log, pos, false, false, now, mark, marked, over, mem⟩ = (some 0, ⟨log, pos, false, true, now, mark, marked, over, mem⟩) := by simp [St.again, hlt]
        have Ha := Lib.hid ha
        clear h ha
        go_enter Try.func87, Try.ntmps87
        go_wp2_with fail
        go_quiet (fail)
        go_wp2_with fail
        go_ret2
        refine ⟨by rw [Ha.out]; rfl, ?_, ?_⟩
        · rw [Ha.out]
          exact ((H.out.drewN _).put 4 (.bool true) ⟨log, pos, false, true, now, mark, marked, over, mem⟩ (by simp [frameCells]) rfl rfl H.out.le H.out.small)
        · exact (Keep.ofDrewN _ _ _).setCell (by simp) _

theorem infoDone : (Try.prog.info? 173).map (fun i => (i.zero, i.size, i.bytes)) = some (some (.agg #[.int .i64 0, .int .i64 0]), 2, 16) := by kernel_rfl
theorem note_mid {w1 w2 : World} {f m b gg cap : Nat} {sl : Value} {s : St} {v : Int} (h : FRep w1 f m b sl s) (hn : s.log.length + 1 ≤ 1000000) (hf : s.fresh = false)
    (hg : (w1.alloc (.cells #[.int .i64 v, .int .i64 s.now] 173)).drew.grownBy w2 sl.ownBlock)
    (ho : w2.ownsRow 0 173 2 (.slice (some ⟨gg, 0, none⟩) (s.log.length + 1) cap) (s.log.length + 1) (flat s.log ++ [.int .i64 v, .int .i64 s.now]))
    (hat : sl.ownBlock = some gg ∨ gg = w1.heap.size + 1) :
    FRep (w2.setCell ⟨f, 1, none⟩ (.slice (some ⟨gg, 0, none⟩) (s.log.length + 1) cap)) f m b (.slice (some ⟨gg, 0, none⟩) (s.log.length + 1) cap) { s with log := s.log ++ [(v, s.now)] } ∧
    Ev [f, b] sl w1 (.slice (some ⟨gg, 0, none⟩) (s.log.length + 1) cap) (w2.setCell ⟨f, 1, none⟩ (.slice (some ⟨gg, 0, none⟩) (s.log.length + 1) cap)) := by
  obtain ⟨n1, n2, n3, n4⟩ := h.ne
  have kk : Keep (blk sl) w1 w2 := ((Keep.refl _ w1).alloc _).drew.of_grown hg (fun k hk => .inr (mem_blk.2 hk))
  have fl : f < w1.heap.size := lt_of_block h.head
  have ml : m < w1.heap.size := lt_of_block h.mem.head
  have bl : b < w1.heap.size := lt_of_block h.mem.body
  have hfb : f ∉ blk sl := fun e => (n4 f (mem_blk.1 e)).1 rfl
  have hmb : m ∉ blk sl := fun e => (n4 m (mem_blk.1 e)).2.1 rfl
  have hbb : b ∉ blk sl := fun e => (n4 b (mem_blk.1 e)).2.2.1 rfl
  have hgf : gg ≠ f := by
    rcases hat with e | e
    · exact (n4 gg e).1
    · omega
  have hh := kk.to h.head hfb
  have ks : Keep [f] w2 (w2.setCell ⟨f, 1, none⟩ (.slice (some ⟨gg, 0, none⟩) (s.log.length + 1) cap)) := (Keep.refl _ _).setCell (by simp) _
  refine ⟨⟨(h.mem.keep kk hmb hbb).keep ks (by simpa using n1.symm) (by simpa using n2.symm), ?_, ?_, by simp; have := h.le; omega, by simpa [hf] using hn⟩, ⟨?_, ?_⟩⟩
  · rw [block_set 1 _ hh]; simp [frameCells]
  · refine ⟨by rw [flat_length], ?_⟩
    have e : flat (s.log ++ [(v, s.now)]) = flat s.log ++ [.int .i64 v, .int .i64 s.now] := by rw [flat_append]; rfl
    rcases ho.2 with ⟨e', _⟩ | ⟨g, cap', cur, e', hb, hgc, rest⟩
    · cases e'
    · simp only [Value.slice.injEq, Option.some.injEq, Addr.mk.injEq] at e'
      obtain ⟨⟨rfl, _⟩, _, rfl⟩ := e'
      refine .inr ⟨gg, cap, cur, by simp, hb, ks.to hgc (by simpa using hgf), ?_⟩
      rw [e]
      simpa using rest
  · refine kk.transS ks (fun x hx _ => by simp [hx]) (by simp)
  · rcases hat with e | e
    · exact .inl (by rw [e]; rfl)
    · refine .inr fun k hk => ?_
      simp [Value.ownBlock] at hk
      omega
set_option maxRecDepth 100000 in
theorem frame_note {w : World} {f m b : Nat} {sl : Value} {s : St} (h : FRep w f m b sl s) (hf : s.fresh = true) (v : Int) :
    Calls Try.prog 88 #[.pointer (some ⟨f, 0, none⟩), .int .i64 v] w (FPost f m b sl w (.int .i64 v) (s.note v)) := by
  obtain ⟨i0, hi0, hz0, hz1, hz2⟩ := info_parts infoDone
  have H := Lib.hid h
  have c2 := h.c2
  have f3 := h.freeAt 3
  have c3 := h.c3
  have hsm : s.log.length + 1 ≤ 1000000 := by have := h.small; rw [hf] at this; simpa using this
  have hpos : s.pos ≤ s.log.length := h.le
  clear h
  obtain ⟨log, pos, fresh, off, now, mark, marked, over, mem⟩ := s
  simp only at c2 c3 hf hsm hpos
  subst hf
  have h1 : FRep (w.setCell ⟨f, 3, none⟩ (.bool false)) f m b sl ⟨log, pos, false, off, now, mark, marked, over, mem⟩ := H.out.put 3 (.bool false) _ (by simp [frameCells]) rfl rfl H.out.le (by simp; omega)
  have k1 : Keep [f] w (w.setCell ⟨f, 3, none⟩ (.bool false)) := (Keep.refl _ _).setCell (by simp) _
  have H1 := Lib.hid h1
  have K1 := Lib.hid k1
  clear h1 k1
  go_enter Try.func88, Try.ntmps88
  go_wp2_with fail
  generalize w.setCell ⟨f, 3, none⟩ (.bool false) = w1 at *
  have d1 := H1.out.c1
  have d5 := H1.out.c5
  simp only at d5
  have hown := H1.out.own
  have hfl : f < w1.heap.size := lt_of_block H1.out.head
  have hfar : sl.ownBlock ≠ some f := fun e => (H1.out.ne.2.2.2 f e).1 rfl
  go_region_law ((refine step_append_lies _ (by rfl) _ _ _ (by rfl) 0 173 i0 _ 2 16 Try.underlying142 hi0 hz0 hz1 hz2 rfl (by omega) sl log.length (flat log) (by rfl) ((hown.alloc _).drew) ⟨w1.heap.size, 0, none⟩ 1 1 [.int .i64 v, .int .i64 now] (by rfl) (by rfl) (World.news_of_block (cs := #[.int .i64 v, .int .i64 now]) (t := 173) (fr := (0, 0)) (heap_alloc_new w1 _)) (by simp [Value.oneCell']) (by omega) (by unfold maxLen; omega) (by omega) (by simp) (w1.heap.size + 1) (by simp) ?_; intro gg cap w2 hown2 hgrow hat hlt; have hb2 : w2.heap[f]? = w1.heap[f]? := (by rw [hgrow.block f (by simp; omega) (Ne.symm hfar)]; exact Below.heap_alloc w1 _ f hfl); have hh2 := Lib.hid (hb2.trans H1.out.head); have q1 := cell_of (i := 1) (v := sl) hh2.out rfl; have q5 := cell_of (i := 5) (v := .int .i64 now) hh2.out rfl; have g1 := free_of (i := 1) hh2.out; have Hg2 := Lib.hid hgrow; have Ho2 := Lib.hid hown2; have Hat := Lib.hid hat; clear hb2 hgrow hown2 hat))
  all_goals
    obtain ⟨m1, m2⟩ := note_mid H1.out (by simp; omega) rfl Hg2.out Ho2.out Hat.out
    have M1 := Lib.hid m1
    have M2 := Lib.hid m2
    have e2 := m1.c2
    have g2 := m1.freeAt 2
    simp only at e2
    clear m1 m2 q1 q5 g1 d1 d5 hown
    generalize w2.setCell ⟨f, 1, none⟩ (.slice (some ⟨gg, 0, none⟩) (log.length + 1) cap) = w3 at *
    go_wp2_with fail
    go_ret
    refine ⟨_, rfl, M1.out.put 2 (.int .i64 ((pos : Int) + 1)) _ (by simp [frameCells, St.note]) rfl rfl (by simp [St.note]; omega) (by simp [St.note]; omega), ?_⟩
    exact ((Ev.ofKeep K1.out (by simp)).trans M2.out).trans (Ev.ofKeep ((Keep.refl [f] _).setCell (by simp) _) (by simp))
end Go.Proofs.Ytkmamebaichboaa
