/- Law 2: the bodies in a frame; awake. No conditions but those stated. -/
import Derived.Test.YtkmamebaichboaaBody2
import Derived.Test.YtkmamebaichboaaFeed
namespace Go.Proofs.Ytkmamebaichboaa
open Go.ChangeShapes Go.WideShapes Go.ChangeAt Go.RowKit
set_option linter.unusedVariables false
set_option linter.unusedSimpArgs false
namespace Law02
open Prog
def flatIns : List Ins → List Value
  | [] => []
  | x :: l => .int .u8 x.kind :: .int .i64 x.a :: .int .i64 x.v :: .int .i64 x.w :: .bool x.dep :: .bool x.skip :: .bool x.mark :: flatIns l
theorem flatIns_at (l : List Ins) (i : Nat) (x : Ins) (h : l[i]? = some x) : (flatIns l)[i * 7]? = some (.int .u8 x.kind) ∧ (flatIns l)[i * 7 + 1]? = some (.int .i64 x.a) ∧ (flatIns l)[i * 7 + 2]? = some (.int .i64 x.v) ∧ (flatIns l)[i * 7 + 3]? = some (.int .i64 x.w) ∧
    (flatIns l)[i * 7 + 4]? = some (.bool x.dep) ∧ (flatIns l)[i * 7 + 5]? = some (.bool x.skip) ∧ (flatIns l)[i * 7 + 6]? = some (.bool x.mark) := by
  induction l generalizing i with
  | nil => simp at h
  | cons y l ih =>
    cases i with
    | zero => simp at h; subst h; simp [flatIns]
    | succ i =>
      have := ih i (by simpa using h)
      have e : (i + 1) * 7 = i * 7 + 1 + 1 + 1 + 1 + 1 + 1 + 1 := by omega
      rw [e]
      simpa [flatIns] using this
theorem lat_of {w : World} {g cap : Nat} {cur : Array Value} {l : List Ins} (h : w.heap[g]? = some (.cells cur 34 (0, 0))) (ht : cur.toList.take (l.length * 7) = flatIns l) (hle : l.length ≤ cap) (hm : cap ≤ maxLen) : LAt w (some ⟨g, 0, none⟩) cap l := by
  have at' : ∀ (j : Nat) (v : Value), (flatIns l)[j]? = some v → w.cell? ⟨g, j, none⟩ = some v := by
    intro j v hv
    refine cell_of h ?_
    rw [← ht, List.getElem?_take] at hv
    split at hv
    · simpa using hv
    · cases hv
  refine ⟨hle, hm, (fun e => by cases e), fun i x hx => ⟨g, 0, rfl, ?_⟩⟩
  obtain ⟨h0, h1, h2, h3, h4, h5, h6⟩ := flatIns_at l i x hx
  rw [Nat.zero_add]
  exact ⟨at' _ _ h0, at' _ _ h1, at' _ _ h2, at' _ _ h3, at' _ _ h4, at' _ _ h5, at' _ _ h6⟩
/-- A body's record. -/
structure Pr where
  got : List Int
  last : Int
def PRep (x : Nat) (ao : Option Addr) (cap : Nat) (l : List Ins) (r : Pr) (o : List Nat) (w : World) : Prop :=
  ∃ slG, w.heap[x]? = some (.cells #[.slice ao l.length cap, slG, .int .i64 r.last] 39 (0, 0)) ∧ w.ownsRow 0 2 1 slG r.got.length (r.got.map (Value.int .i64)) ∧ o = blk slG ∧ LAt w ao cap l ∧ x ∉ roOf ao ∧ l.length ≤ 1000
theorem pStays (x : Nat) (ao : Option Addr) (cap : Nat) (l : List Ins) : RStaysR x (roOf ao) (PRep x ao cap l) := by
  rintro r o w w' S ⟨slG, h1, h2, rfl, h4, h5, h6⟩ k hx ho hro
  exact ⟨slG, k.to h1 hx, own_keep h2 k ho, rfl, h4.keep k hro, h5, h6⟩
def pB (l : List Ins) : Pr → St → Pr × St := progB (fun _ => bodyP l false 0 []) (fun _ q => ⟨q.1, q.2⟩)
theorem progOK (x : Nat) (ao : Option Addr) (cap : Nat) (l : List Ins) : BodyOKR 30 x (roOf ao) (PRep x ao cap l) (pB l) := by
  rintro f m b w sl s r o hf ⟨slG, h1, h2, rfl, h4, h5, h6⟩ ha ho hro
  refine (prog_body hf h1 ha ho hro h5 h4 h6 (gotF := ((bodyP l false 0 []).run s).1.1) (lastF := ((bodyP l false 0 []).run s).1.2) (sF := ((bodyP l false 0 []).run s).2) rfl).mono ?_
  rintro e w1 ⟨he, sl1, slG1, M⟩
  exact ⟨he, sl1, blk slG1, M.frame, ⟨slG1, M.head, M.own, rfl, M.laid, M.rx, h6⟩, M.ev, M.ap, M.lt⟩
theorem progK : ∀ (y z : Addr) (wx : World), (callFunc 30 #[.pointer (some y), .pointer (some z)]).run Try.prog wx = .ok (.enter 30 #[.pointer (some y), .pointer (some z)]) wx := fun _ _ _ => by kernel_rfl
/-- A new body. -/
theorem prep_new {w : World} {x g cap : Nat} {l : List Ins} {cur : Array Value} (h : w.heap[g]? = some (.cells cur 34 (0, 0))) (ht : cur.toList.take (l.length * 7) = flatIns l) (hle : l.length ≤ cap) (hm : cap ≤ maxLen) (hl : l.length ≤ 1000)
    (hx : w.heap[x]? = some (.cells #[.slice (some ⟨g, 0, none⟩) l.length cap, .slice none 0 0, .int .i64 0] 39 (0, 0))) (hgx : x ≠ g) : PRep x (some ⟨g, 0, none⟩) cap l ⟨[], 0⟩ [] w :=
  ⟨_, hx, ⟨rfl, .inl ⟨rfl, rfl⟩⟩, rfl, lat_of h ht hle hm, by simpa [roOf] using hgx, hl⟩
def LA : List Ins := [⟨2, 0, 1, 0, false, false, false⟩, ⟨2, 0, 1, 0, false, false, false⟩]
theorem awake_steps : ∃ R : Nat → Pr × St, R 0 = (⟨[], 0⟩, St.new [0, 0]) ∧ (∀ k : Nat, stepP (pB LA) k ((R k).1, (R k).2) = ((R (k + 1)).1, (R (k + 1)).2)) ∧ (∀ k : Nat, k ≤ 2 → (R k).2.log.length = k) ∧ (R 1).2.mem = [1, 0] ∧ (R 1).2.over = false ∧ (R 2).2.over = true :=
  ⟨fun k => runP (pB LA) k (⟨[], 0⟩, St.new [0, 0]), rfl, fun k => rfl, fun k hk => by
    have : k = 0 ∨ k = 1 ∨ k = 2 := by omega
    rcases this with rfl | rfl | rfl
    · rfl
    · decide +kernel
    · decide +kernel, by decide +kernel, by decide +kernel, by decide +kernel⟩
end Law02
end Go.Proofs.Ytkmamebaichboaa
