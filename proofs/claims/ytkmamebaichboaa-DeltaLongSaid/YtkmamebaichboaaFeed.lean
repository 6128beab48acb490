/- What is left of a program behind answers. No Go in it. No conditions but those stated. -/
import Derived.Test.YtkmamebaichboaaAcc
namespace Go.Proofs.Ytkmamebaichboaa
set_option linter.unusedVariables false
set_option linter.unusedSimpArgs false
namespace Prog
variable {α β : Type}
theorem feed_bind_acc (p : Prog α) (f : α → Prog β) (l : List Int) {o : AOp} {k : Int → Prog α} (h : p.feed l = .acc o k) : (p >>= f).feed l = .acc o (fun v => k v >>= f) := by
  show (p.bind f).feed l = .acc o (fun v => (k v).bind f)
  induction p generalizing l with
  | ret a => simp [feed] at h
  | acc o' k' ih =>
    cases l with
    | nil =>
      simp only [feed] at h
      obtain ⟨rfl, rfl⟩ := Prog.acc.inj h
      rfl
    | cons v l => exact ih v l h
  | off k' ih => exact ih false l h
  | mark k' ih => exact ih l h
@[simp] theorem feed_isOff (f : Bool → Prog β) (l : List Int) : (isOff >>= f).feed l = (f false).feed l := rfl
@[simp] theorem feed_ld (a : Int) (f : Int → Prog β) (v : Int) (l : List Int) : (ld a >>= f).feed (v :: l) = (f v).feed l := rfl
@[simp] theorem feed_ld_nil (a : Int) (f : Int → Prog β) : (ld a >>= f).feed [] = .acc (.load a) f := rfl
@[simp] theorem feed_ad (a d : Int) (f : Int → Prog β) (v : Int) (l : List Int) : (ad a d >>= f).feed (v :: l) = (f v).feed l := rfl
@[simp] theorem feed_ad_nil (a d : Int) (f : Int → Prog β) : (ad a d >>= f).feed [] = .acc (.add a d) f := rfl
@[simp] theorem feed_st (a d : Int) (f : Unit → Prog β) (v : Int) (l : List Int) : (st a d >>= f).feed (v :: l) = (f ()).feed l := rfl
@[simp] theorem feed_st_nil (a d : Int) (f : Unit → Prog β) : (st a d >>= f).feed [] = .acc (.store a d) (fun _ => f ()) := rfl
@[simp] theorem feed_pure (a : α) (l : List Int) : (pure a : Prog α).feed l = .ret a := rfl
@[simp] theorem pure_bind' (a : α) (f : α → Prog β) : (pure a >>= f : Prog β) = f a := rfl
theorem bind_assoc' {γ : Type} (p : Prog α) (f : α → Prog β) (g : β → Prog γ) : ((p >>= f) >>= g : Prog γ) = p >>= fun a => f a >>= g := by
  show (p.bind f).bind g = p.bind fun a => (f a).bind g
  induction p with
  | ret a => rfl
  | acc o k ih => exact congrArg (Prog.acc o) (funext fun v => ih v)
  | off k ih => exact congrArg Prog.off (funext fun v => ih v)
  | mark k ih => exact congrArg Prog.mark ih
/-- Behind these answers stands an access, and so it does behind the next one: the run of a step is off. -/
theorem run_waits (p : Prog α) (s : St) (now : Int) {o o' : AOp} {k k' : Int → Prog α} (h : p.feed (ans s) = .acc o k) (h' : (k (o.eff s.mem).1).feed [] = .acc o' k') : (p.run (s.start now)).2.off = true := by
  have := run_fresh p (s.start now) rfl rfl (Nat.zero_le _)
  rw [left_start, h] at this
  obtain ⟨h1, h2, h3, h4⟩ := this
  have e : (s.start now).mem = s.mem := rfl
  rw [e, h'] at h4
  exact h4
end Prog
end Go.Proofs.Ytkmamebaichboaa
