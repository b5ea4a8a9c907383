/- Own theory: from the judgement on a goroutine's own steps to the kit's contracts of a machine of one goroutine. No condition. -/
import Derived.Test.YtkppboglffdmnaaTjCore3
namespace Go.TJ
open Go Go.Conc
variable {Γ : Type}

def one (g : Goroutine) (w : World) : Machine := { world := w, gs := #[g], rest := { timers := #[], alone := none, slice := none } }

theorem move_one {P : Program} {g : Goroutine} {w : World} (hr : g.status = .running) : move P (one g w) = .goroutine (one g w) 0 := by
  simp [move, ask, askOn, one, runnable_eq, due, ahead, Goroutine.canRun, List.range_succ, choose, pure, Sem.run, Question.forced, hr]

theorem step_one {P : Program} {g g' : Goroutine} {w w' : World} {es : Array Event} (hr : g.status = .running) (hs : stepG P true g w = .go g' w' es) : step P (one g w) = .next (one g' w') := by
  rw [step, stepT, move_one hr]
  simp [runT, one, Array.swapAt!, hs]

theorem HpOk.none {S : Addr → Prop} {h h' : Hp} (x : HpOk S h h') : HpOk (fun _ => False) h h' := ⟨fun _ _ y => y.elim, x.chan, x.size, x.froz⟩

theorem runs_one {P : Program} {S : Sit Γ} (hno : ∀ g h δ X, ¬ S.yld g h δ X) {Stop : Goroutine → Hp → Ix Γ → Prop} {g : Goroutine} {h : Hp} {δ : Ix Γ} (hr : Runs P true S Stop g h δ) :
    ∀ w : World, w.heap = h → ∃ g' w' δ', Steps P (one g w) (one g' w') ∧ Same w w' ∧ HpOk (fun _ => False) w.heap w'.heap ∧ Stop g' w'.heap δ' := by
  induction hr with
  | stop hs => intro w hw; exact ⟨_, w, _, Steps.refl _ _, Same.refl _, HpOk.refl _ _, hw ▸ hs⟩
  | step X _ hst ih =>
    intro w hw
    obtain ⟨hg, hst⟩ := hst
    obtain ⟨g', w', es, h1, h2, h3, _, hx⟩ := hst w hw
    obtain ⟨g2, w2, δ2, s2, m2, n2, p2⟩ := ih _ _ _ hx w' rfl
    exact ⟨g2, w2, δ2, .head (step_one hg h1) s2, h2.trans m2, (hw ▸ h3.none).trans n2, p2⟩
  | hands X _ hy _ => exact (hno _ _ _ _ hy).elim

/-- The index of a goroutine that hears, and has no ghost. -/
abbrev I0 : Ix Unit := ⟨0, ()⟩

/-- What the kit's walk would have said of such a call. -/
theorem calls_of_callW {P : Program} {S : Sit Γ} (hno : ∀ g h δ X, ¬ S.yld g h δ X) {f : FuncId} {args : Array Value} {w : World} {δ : Ix Γ} {R : Value → Hp → Prop}
    (hc : CallW P true S f args w.heap δ fun
      | .ret v, h, _ => R v h
      | .pan _, _, _ => False) :
    Calls P f args w fun e w' => ∃ v, e = .returned v ∧ Same w w' ∧ HpOk (fun _ => False) w.heap w'.heap ∧ R v w'.heap := by
  intro cs
  obtain ⟨g', w', δ', hs, hm, hp, a, todo, mode, fn, rfl, hd, hf, ⟨rfl, v, hv, hR⟩ | ⟨c, rfl, hR⟩⟩ := runs_one hno (hc .normal (by simp) cs) w rfl
  · obtain ⟨es, hrun, _⟩ := hv w' rfl
    refine ⟨.returned v, w', { (fb f .normal).at a todo with mode := .returning }, ⟨v, rfl, hm, hp, hR⟩, hs, rfl, rfl, hd, rfl, fn, hf, ?_⟩
    have := congrArg Prod.fst hrun
    have e : Sem.run P (results fn a.tmps) w' = .ok v w' := by simpa using this
    exact e
  · exact hR.elim
end Go.TJ
