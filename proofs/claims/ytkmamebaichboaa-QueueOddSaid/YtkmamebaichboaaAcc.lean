/- Bodies as programs of accesses: what a step, and a run, of a frame does with one. No Go in it. No conditions but those stated. -/
import Derived.Test.YtkmamebaichboaaRun
namespace Go.Proofs.Ytkmamebaichboaa
set_option linter.unusedVariables false
set_option linter.unusedSimpArgs false

theorem one_new (w : World) (o : Obj) : (w.alloc o).heap[w.heap.size]? = some o := heap_alloc_new w o
theorem two_fst (w : World) (o1 o2 : Obj) : ((w.alloc o1).alloc o2).heap[w.heap.size]? = some o1 := by rw [Go.RowKit.Below.heap_alloc _ _ _ (by simp)]; exact heap_alloc_new w o1
theorem two_snd (w : World) (o1 o2 : Obj) : ((w.alloc o1).alloc o2).heap[w.heap.size + 1]? = some o2 := by
  have h := heap_alloc_new (w.alloc o1) o2
  have e : (w.alloc o1).heap.size = w.heap.size + 1 := by simp
  rw [e] at h
  exact h
theorem three_fst (w : World) (o1 o2 o3 : Obj) : (((w.alloc o1).alloc o2).alloc o3).heap[w.heap.size]? = some o1 := by rw [Go.RowKit.Below.heap_alloc _ _ _ (by simp; omega)]; exact two_fst w o1 o2
theorem three_snd (w : World) (o1 o2 o3 : Obj) : (((w.alloc o1).alloc o2).alloc o3).heap[w.heap.size + 1]? = some o2 := by rw [Go.RowKit.Below.heap_alloc _ _ _ (by simp)]; exact two_snd w o1 o2
theorem three_thd (w : World) (o1 o2 o3 : Obj) : (((w.alloc o1).alloc o2).alloc o3).heap[w.heap.size + 1 + 1]? = some o3 := by
  have h := two_snd (w.alloc o1) o2 o3
  have e : (w.alloc o1).heap.size = w.heap.size + 1 := by simp
  rw [e] at h
  exact h
/-- An access. -/
inductive AOp where
  | load (a : Int)
  | store (a v : Int)
  | add (a d : Int)
  | swap (a old fresh : Int)
/-- What an access answers, and the words behind it. -/
def AOp.eff : AOp → List Int → Int × List Int
  | .load a, m => (wordGet m a, m)
  | .store a v, m => (0, wordPut m a v)
  | .add a d, m => (wordGet m a, wordPut m a (wordSum m a d))
  | .swap a old fresh, m => (b2i (swapOk m a old), wordSwap m a old fresh)
def St.acc (o : AOp) (s : St) : Int × St := match s.again with
  | (some v, s') => (v, s')
  | (none, s') => ((o.eff s'.mem).1, { s' with mem := (o.eff s'.mem).2 }.note (o.eff s'.mem).1)
theorem St.load_acc (a : Int) (s : St) : St.load a s = St.acc (.load a) s := by
  unfold St.load St.acc
  cases s.again with
  | mk o s' => cases o <;> rfl
theorem St.store_acc (a v : Int) (s : St) : St.store a v s = (St.acc (.store a v) s).2 := by
  unfold St.store St.acc
  cases s.again with
  | mk o s' => cases o <;> rfl
theorem St.add_acc (a d : Int) (s : St) : St.add a d s = St.acc (.add a d) s := by
  unfold St.add St.acc
  cases s.again with
  | mk o s' => cases o <;> rfl
theorem St.swap_acc (a old fresh : Int) (s : St) : St.swap a old fresh s = ((St.acc (.swap a old fresh) s).1 == 1, (St.acc (.swap a old fresh) s).2) := by
  unfold St.swap St.acc
  cases s.again with
  | mk o s' => cases o <;> simp [AOp.eff, b2i_eq]

/-- A program of accesses. -/
inductive Prog (α : Type) : Type where
  | ret (a : α)
  | acc (o : AOp) (k : Int → Prog α)
  | off (k : Bool → Prog α)
  | mark (k : Prog α)
namespace Prog
variable {α β : Type}
def bind : Prog α → (α → Prog β) → Prog β
  | .ret a, f => f a
  | .acc o k, f => .acc o fun v => (k v).bind f
  | .off k, f => .off fun b => (k b).bind f
  | .mark k, f => .mark (k.bind f)
instance : Monad Prog where
  pure := .ret
  bind := bind
def ld (a : Int) : Prog Int := .acc (.load a) .ret
def st (a v : Int) : Prog Unit := .acc (.store a v) fun _ => .ret ()
def ad (a d : Int) : Prog Int := .acc (.add a d) .ret
def sw (a old fresh : Int) : Prog Bool := .acc (.swap a old fresh) fun v => .ret (v == 1)
def isOff : Prog Bool := .off .ret
def markIt : Prog Unit := .mark (.ret ())

/-- In a frame's state. -/
def run : Prog α → St → α × St
  | .ret a, s => (a, s)
  | .acc o k, s => (k (s.acc o).1).run (s.acc o).2
  | .off k, s => (k s.off).run s
  | .mark k, s => k.run s.markIt
@[simp] theorem r_bind (p : Prog α) (f : α → Prog β) (s : St) : (p >>= f).run s = (f (p.run s).1).run (p.run s).2 := by
  show (p.bind f).run s = _
  induction p generalizing s with
  | ret a => rfl
  | acc o k ih => exact ih _ _
  | off k ih => exact ih _ _
  | mark k ih => exact ih _
@[simp] theorem r_pure (a : α) (s : St) : (pure a : Prog α).run s = (a, s) := rfl
@[simp] theorem r_ld (a : Int) (s : St) : (ld a).run s = s.load a := by rw [St.load_acc]; rfl
@[simp] theorem r_st (a v : Int) (s : St) : (st a v).run s = ((), s.store a v) := by rw [St.store_acc]; rfl
@[simp] theorem r_ad (a d : Int) (s : St) : (ad a d).run s = s.add a d := by rw [St.add_acc]; rfl
@[simp] theorem r_sw (a old fresh : Int) (s : St) : (sw a old fresh).run s = s.swap a old fresh := by rw [St.swap_acc]; rfl
@[simp] theorem r_off (s : St) : isOff.run s = (s.off, s) := rfl
@[simp] theorem r_mark (s : St) : markIt.run s = ((), s.markIt) := rfl

@[simp] theorem r_ite {c : Prop} [Decidable c] (p q : Prog α) (s : St) : (if c then p else q).run s = if c then p.run s else q.run s := by split <;> rfl
/-- What is left of it behind these answers; at its head stands an access, or its end. -/
def feed : Prog α → List Int → Prog α
  | .ret a, _ => .ret a
  | .acc o k, [] => .acc o k
  | .acc o k, v :: l => (k v).feed l
  | .off k, l => (k false).feed l
  | .mark k, l => k.feed l
/-- Alone: all accesses at once. -/
def solo : Prog α → List Int → α × List Int
  | .ret a, m => (a, m)
  | .acc o k, m => (k (o.eff m).1).solo (o.eff m).2
  | .off k, m => (k false).solo m
  | .mark k, m => k.solo m
/-- How many accesses it does alone. -/
def cost : Prog α → List Int → Nat
  | .ret a, m => 0
  | .acc o k, m => (k (o.eff m).1).cost (o.eff m).2 + 1
  | .off k, m => (k false).cost m
  | .mark k, m => k.cost m
@[simp] theorem solo_bind (p : Prog α) (f : α → Prog β) (m : List Int) : (p >>= f).solo m = (f (p.solo m).1).solo (p.solo m).2 := by
  show (p.bind f).solo m = _
  induction p generalizing m with
  | ret a => rfl
  | acc o k ih => exact ih _ _
  | off k ih => exact ih _ _
  | mark k ih => exact ih _
@[simp] theorem cost_bind (p : Prog α) (f : α → Prog β) (m : List Int) : (p >>= f).cost m = p.cost m + (f (p.solo m).1).cost (p.solo m).2 := by
  show (p.bind f).cost m = _
  induction p generalizing m with
  | ret a => simp [bind, cost, solo]
  | acc o k ih => simp only [bind, cost, solo, ih]; omega
  | off k ih => exact ih _ _
  | mark k ih => exact ih _
@[simp] theorem solo_pure (a : α) (m : List Int) : (pure a : Prog α).solo m = (a, m) := rfl
@[simp] theorem cost_pure (a : α) (m : List Int) : (pure a : Prog α).cost m = 0 := rfl
@[simp] theorem solo_load (a : Int) (m : List Int) : (ld a).solo m = (wordGet m a, m) := rfl
@[simp] theorem cost_load (a : Int) (m : List Int) : (ld a).cost m = 1 := rfl
@[simp] theorem solo_store (a v : Int) (m : List Int) : (st a v).solo m = ((), wordPut m a v) := rfl
@[simp] theorem cost_store (a v : Int) (m : List Int) : (st a v).cost m = 1 := rfl
@[simp] theorem solo_add (a d : Int) (m : List Int) : (ad a d).solo m = (wordGet m a, wordPut m a (wordSum m a d)) := rfl
@[simp] theorem cost_add (a d : Int) (m : List Int) : (ad a d).cost m = 1 := rfl
@[simp] theorem solo_isOff (m : List Int) : isOff.solo m = (false, m) := rfl
@[simp] theorem cost_isOff (m : List Int) : isOff.cost m = 0 := rfl

@[simp] theorem solo_ite {c : Prop} [Decidable c] (p q : Prog α) (m : List Int) : (if c then p else q).solo m = if c then p.solo m else q.solo m := by split <;> rfl
@[simp] theorem cost_ite {c : Prop} [Decidable c] (p q : Prog α) (m : List Int) : (if c then p else q).cost m = if c then p.cost m else q.cost m := by split <;> rfl
theorem markIt_keeps (s : St) : s.markIt.log = s.log ∧ s.markIt.pos = s.pos ∧ s.markIt.fresh = s.fresh ∧ s.markIt.off = s.off ∧ s.markIt.now = s.now ∧ s.markIt.over = s.over ∧ s.markIt.mem = s.mem := by
  unfold St.markIt
  split <;> simp
/-- Off, a program does nothing more. -/
theorem run_off (p : Prog α) (s : St) (h : s.off = true) : (p.run s).2.off = true ∧ (p.run s).2.log = s.log ∧ (p.run s).2.mem = s.mem ∧ (p.run s).2.fresh = s.fresh := by
  induction p generalizing s with
  | ret a => exact ⟨h, rfl, rfl, rfl⟩
  | acc o k ih =>
    have e : s.acc o = (0, s) := by simp [St.acc, St.again, h]
    simp only [run, e]
    exact ih _ _ h
  | off k ih => exact ih _ _ h
  | mark k ih =>
    obtain ⟨k1, k2, k3, k4, k5, k6, k7⟩ := markIt_keeps s
    have := ih s.markIt (k4.trans h)
    simp only [run, k1, k3, k7] at this ⊢
    exact this
/-- What is left of the log's answers. -/
def St.left (s : St) : List Int := (s.log.drop s.pos).map (·.1)
theorem left_nil {s : St} (h : s.log.length ≤ s.pos) : St.left s = [] := by simp [St.left, List.drop_eq_nil_of_le h]
theorem left_cons {s : St} (h : s.pos < s.log.length) : St.left s = (s.log.getD s.pos (0, 0)).1 :: St.left { s with pos := s.pos + 1 } := by
  unfold St.left
  simp only
  rw [List.drop_eq_getElem_cons h, List.map_cons]
  simp only [List.getD_eq_getElem?_getD, List.getElem?_eq_getElem h, Option.getD_some]
/-- Not fresh: a program comes to its end, or goes off at its next access. -/
theorem run_stale (p : Prog α) (s : St) (h : s.off = false) (hf : s.fresh = false) (hp : s.pos ≤ s.log.length) :
    (p.run s).2.log = s.log ∧ (p.run s).2.mem = s.mem ∧ (p.run s).2.fresh = false ∧ (match p.feed (St.left s) with | .ret a => (p.run s).1 = a ∧ (p.run s).2.off = false | _ => (p.run s).2.off = true) := by
  induction p generalizing s with
  | ret a => exact ⟨rfl, rfl, hf, by simp [feed, run, h]⟩
  | acc o k ih =>
    by_cases hlt : s.pos < s.log.length
    · have e : s.acc o = ((s.log.getD s.pos (0, 0)).1, { s with pos := s.pos + 1 }) := by simp [St.acc, St.again, h, hlt]
      simp only [run, e, left_cons hlt, feed]
      exact ih _ _ h hf (by simp; omega)
    · have e : s.acc o = (0, { s with off := true }) := by simp [St.acc, St.again, h, hlt, hf]
      simp only [run, e, left_nil (Nat.not_lt.1 hlt), feed]
      have := run_off (k 0) { s with off := true } rfl
      exact ⟨this.2.1, this.2.2.1, this.2.2.2.trans hf, this.1⟩
  | off k ih =>
    simp only [run, feed, h]
    exact ih _ _ h hf hp
  | mark k ih =>
    obtain ⟨k1, k2, k3, k4, k5, k6, k7⟩ := markIt_keeps s
    have := ih s.markIt (k4.trans h) (k3.trans hf) (by rw [k1, k2]; exact hp)
    have el : St.left s.markIt = St.left s := by unfold St.left; rw [k1, k2]
    simp only [run, feed, el, k1, k7] at this ⊢
    exact this
/-- Fresh: a program comes to its end, or does its next access, and comes to its end, or goes off at the one behind. -/
theorem run_fresh (p : Prog α) (s : St) (h : s.off = false) (hf : s.fresh = true) (hp : s.pos ≤ s.log.length) :
    match p.feed (St.left s) with
    | .acc o k => (p.run s).2.log = s.log ++ [((o.eff s.mem).1, s.now)] ∧ (p.run s).2.mem = (o.eff s.mem).2 ∧ (p.run s).2.fresh = false ∧
        (match (k (o.eff s.mem).1).feed [] with | .ret a => (p.run s).1 = a ∧ (p.run s).2.off = false | _ => (p.run s).2.off = true)
    | .ret a => (p.run s).1 = a ∧ (p.run s).2.off = false ∧ (p.run s).2.log = s.log ∧ (p.run s).2.mem = s.mem ∧ (p.run s).2.fresh = true
    | _ => False := by
  induction p generalizing s with
  | ret a => simp [feed, run, h, hf]
  | acc o k ih =>
    by_cases hlt : s.pos < s.log.length
    · have e : s.acc o = ((s.log.getD s.pos (0, 0)).1, { s with pos := s.pos + 1 }) := by simp [St.acc, St.again, h, hlt]
      simp only [run, e, left_cons hlt, feed]
      exact ih _ _ h hf (by simp; omega)
    · have hpe : s.pos = s.log.length := by omega
      have e : s.acc o = ((o.eff s.mem).1, { s with mem := (o.eff s.mem).2 }.note (o.eff s.mem).1) := by simp [St.acc, St.again, h, hlt, hf]
      simp only [run, e, left_nil (Nat.not_lt.1 hlt), feed]
      have := run_stale (k (o.eff s.mem).1) ({ s with mem := (o.eff s.mem).2 }.note (o.eff s.mem).1) h rfl (by simp [St.note]; omega)
      have el : St.left ({ s with mem := (o.eff s.mem).2 }.note (o.eff s.mem).1) = [] := left_nil (by simp [St.note]; omega)
      rw [el] at this
      exact this
  | off k ih =>
    simp only [run, feed, h]
    exact ih _ _ h hf hp
  | mark k ih =>
    obtain ⟨k1, k2, k3, k4, k5, k6, k7⟩ := markIt_keeps s
    have := ih s.markIt (k4.trans h) (k3.trans hf) (by rw [k1, k2]; exact hp)
    have el : St.left s.markIt = St.left s := by unfold St.left; rw [k1, k2]
    simp only [run, feed, el, k1, k7, k5] at this ⊢
    exact this
theorem feed_form (p : Prog α) (l : List Int) : (∃ a, p.feed l = .ret a) ∨ ∃ o k, p.feed l = .acc o k := by
  induction p generalizing l with
  | ret a => exact .inl ⟨a, rfl⟩
  | acc o k ih =>
    cases l with
    | nil => exact .inr ⟨o, k, rfl⟩
    | cons v l => exact ih v l
  | off k ih => exact ih false l
  | mark k ih => exact ih l
theorem feed_append (p : Prog α) (l l' : List Int) : p.feed (l ++ l') = (p.feed l).feed l' := by
  induction p generalizing l with
  | ret a => rfl
  | acc o k ih =>
    cases l with
    | nil => rfl
    | cons v l => exact ih v l
  | off k ih => exact ih false l
  | mark k ih => exact ih l
theorem feed_solo (p : Prog α) (m : List Int) : (p.feed []).solo m = p.solo m ∧ (p.feed []).cost m = p.cost m := by
  induction p with
  | ret a => exact ⟨rfl, rfl⟩
  | acc o k ih => exact ⟨rfl, rfl⟩
  | off k ih => exact ih false
  | mark k ih => exact ih

theorem run_mu (p : Prog α) (s : St) : (p.run s).2.mu ≤ s.mu := by
  induction p generalizing s with
  | ret a => exact Nat.le_refl _
  | acc o k ih =>
    refine Nat.le_trans (ih _ _) ?_
    unfold St.acc
    rcases ha : s.again with ⟨v, s'⟩
    have hp := again_post ha
    cases v with
    | some v => simp only [St.mu, hp.1, hp.2.2.1]; exact Nat.le_refl _
    | none =>
      have hn := again_none ha
      obtain ⟨rfl, hf, _, _⟩ := hn
      simp [St.mu, St.note, hf]
  | off k ih => exact ih _ _
  | mark k ih =>
    obtain ⟨k1, k2, k3, k4, k5, k6, k7⟩ := markIt_keeps s
    refine Nat.le_trans (ih _) ?_
    simp only [St.mu, k1, k3]
    exact Nat.le_refl _

/-- A step of a frame in which a program is run: by what its log answers. -/
def ans (s : St) : List Int := s.log.map (·.1)
theorem left_start (s : St) (now : Int) : St.left (s.start now) = ans s := by simp [St.left, St.start, ans]
theorem step_ret (p : Prog α) (s : St) (now : Int) {a : α} (h : p.feed (ans s) = .ret a) :
    (p.run (s.start now)).1 = a ∧ (p.run (s.start now)).2.stop.over = true ∧ (p.run (s.start now)).2.stop.log = s.log ∧ (p.run (s.start now)).2.stop.mem = s.mem := by
  have := run_fresh p (s.start now) rfl rfl (Nat.zero_le _)
  rw [left_start, h] at this
  obtain ⟨h1, h2, h3, h4, h5⟩ := this
  exact ⟨h1, by simp [St.stop, h2], h3, h4⟩
theorem step_acc (p : Prog α) (s : St) (now : Int) {o : AOp} {k : Int → Prog α} (h : p.feed (ans s) = .acc o k) :
    (p.run (s.start now)).2.stop.log = s.log ++ [((o.eff s.mem).1, now)] ∧ (p.run (s.start now)).2.stop.mem = (o.eff s.mem).2 ∧
    (match (k (o.eff s.mem).1).feed [] with | .ret a => (p.run (s.start now)).1 = a ∧ (p.run (s.start now)).2.stop.over = true | _ => (p.run (s.start now)).2.stop.over = false) := by
  have := run_fresh p (s.start now) rfl rfl (Nat.zero_le _)
  rw [left_start, h] at this
  obtain ⟨h1, h2, h3, h4⟩ := this
  refine ⟨h1, h2, ?_⟩
  have e : (s.start now).mem = s.mem := rfl
  rw [e] at h4
  rcases feed_form (k (o.eff s.mem).1) [] with ⟨a, ha⟩ | ⟨o', k', ha⟩
  · rw [ha] at h4 ⊢
    exact ⟨h4.1, by simp [St.stop, h4.2]⟩
  · rw [ha] at h4 ⊢
    simp only [St.stop]
    simp only at h4
    rw [h4]; rfl
theorem feed_snoc (p : Prog α) (l : List Int) (v : Int) {o : AOp} {k : Int → Prog α} (h : p.feed l = .acc o k) : p.feed (l ++ [v]) = (k v).feed [] := by
  rw [feed_append, h]
  rfl
end Prog

section
variable {ρ α : Type}
/-- A body: a program that goes by the receiver's data, and where its answer is put. -/
def progB (P : ρ → Prog α) (U : ρ → α → ρ) : ρ → St → ρ × St := fun r s => (U r ((P r).run s).1, ((P r).run s).2)
theorem progB_mu (P : ρ → Prog α) (U : ρ → α → ρ) : ∀ r s, (progB P U r s).2.mu ≤ s.mu := fun r s => Prog.run_mu _ _
/-- A run alone, after n steps. -/
theorem run_inv (P : ρ → Prog α) (U : ρ → α → ρ) (hP : ∀ r a, P (U r a) = P r) (hU : ∀ r a b, U (U r a) b = U r b) (r : ρ) (m : List Int) (n : Nat) :
    let q := runP (progB P U) n (r, St.new m)
    (q.2.over = true ∧ q.1 = U r ((P r).solo m).1 ∧ q.2.mem = ((P r).solo m).2 ∧ q.2.log.length = (P r).cost m ∧ 1 ≤ n ∧ (P r).cost m ≤ n) ∨
    (q.2.over = false ∧ P q.1 = P r ∧ (∀ a, U q.1 a = U r a) ∧ q.2.log.length = n ∧ ((P r).feed (Prog.ans q.2)).solo q.2.mem = (P r).solo m ∧ ((P r).feed (Prog.ans q.2)).cost q.2.mem + n = (P r).cost m ∧
      (1 ≤ n → ∃ o k, (P r).feed (Prog.ans q.2) = .acc o k)) := by
  induction n with
  | zero =>
    have := Prog.feed_solo (P r) m
    exact .inr ⟨rfl, rfl, fun _ => rfl, rfl, this.1, this.2, fun h => absurd h (by omega)⟩
  | succ n ih =>
    intro q
    have hq : q = stepP (progB P U) n (runP (progB P U) n (r, St.new m)) := rfl
    rw [hq]
    generalize runP (progB P U) n (r, St.new m) = q0 at ih
    rcases ih with ⟨h1, h2, h3, h4, h5, h6⟩ | ⟨h1, h2, h3, h4, h5, h6, h7⟩
    · rw [stepP_over h1]
      exact .inl ⟨h1, h2, h3, h4, by omega, by omega⟩
    · rw [stepP_go h1]
      simp only [progB, h2]
      rcases Prog.feed_form (P r) (Prog.ans q0.2) with ⟨a, ha⟩ | ⟨o, k, ha⟩
      · obtain ⟨g1, g2, g3, g4⟩ := Prog.step_ret (P r) q0.2 n ha
        rw [ha] at h5 h6
        simp only [Prog.solo, Prog.cost] at h5 h6
        have hn : ¬ 1 ≤ n := fun hn => by obtain ⟨o, k, e⟩ := h7 hn; rw [ha] at e; cases e
        refine .inl ⟨g2, by rw [g1, h3, ← h5], by rw [g4, ← h5], by rw [g3, h4]; omega, by omega, by omega⟩
      · obtain ⟨g1, g2, g3⟩ := Prog.step_acc (P r) q0.2 n ha
        rw [ha] at h5 h6
        simp only [Prog.solo, Prog.cost] at h5 h6
        have hans : Prog.ans ((P r).run (q0.2.start n)).2.stop = Prog.ans q0.2 ++ [(o.eff q0.2.mem).1] := by simp [Prog.ans, g1]
        have hfs := Prog.feed_snoc (P r) _ (o.eff q0.2.mem).1 ha
        rcases Prog.feed_form (k (o.eff q0.2.mem).1) [] with ⟨a, hk⟩ | ⟨o', k', hk⟩
        · rw [hk] at g3
          have e1 := Prog.feed_solo (k (o.eff q0.2.mem).1) (o.eff q0.2.mem).2
          rw [hk] at e1
          simp only [Prog.solo, Prog.cost] at e1
          rw [← e1.1] at h5
          rw [← e1.2] at h6
          refine .inl ⟨g3.2, by rw [g3.1, h3, ← h5], by rw [g2, ← h5], by rw [g1]; simp [h4]; omega, by omega, by omega⟩
        · rw [hk] at g3
          have e1 := Prog.feed_solo (k (o.eff q0.2.mem).1) (o.eff q0.2.mem).2
          refine .inr ⟨g3, by rw [hP, h2], fun a => by rw [hU, h3], by rw [g1]; simp [h4], ?_, ?_, fun _ => ⟨o', k', by rw [hans, hfs, hk]⟩⟩
          · rw [hans, hfs, g2, e1.1]; exact h5
          · rw [hans, hfs, g2, e1.2]; omega
/-- A run alone that has steps enough: the program's answer and words. -/
theorem run_solo (P : ρ → Prog α) (U : ρ → α → ρ) (hP : ∀ r a, P (U r a) = P r) (hU : ∀ r a b, U (U r a) b = U r b) (r : ρ) (m : List Int) (n : Nat) (h1 : 1 ≤ n) (hn : (P r).cost m ≤ n) :
    (runP (progB P U) n (r, St.new m)).2.over = true ∧ (runP (progB P U) n (r, St.new m)).1 = U r ((P r).solo m).1 ∧ (runP (progB P U) n (r, St.new m)).2.mem = ((P r).solo m).2 ∧ (runP (progB P U) n (r, St.new m)).2.log.length = (P r).cost m := by
  rcases run_inv P U hP hU r m n with ⟨g1, g2, g3, g4, g5, g6⟩ | ⟨g1, g2, g3, g4, g5, g6, g7⟩
  · exact ⟨g1, g2, g3, g4⟩
  · obtain ⟨o, k, e⟩ := g7 h1
    rw [e] at g6
    simp only [Prog.cost] at g6
    omega
end
end Go.Proofs.Ytkmamebaichboaa
