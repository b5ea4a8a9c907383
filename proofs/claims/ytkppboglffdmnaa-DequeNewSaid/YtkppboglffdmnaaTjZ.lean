/- Own theory, part 19: a whole run, from the call to the return of goroutine 0, where all that it started only leave. No condition. -/
import Derived.Test.YtkppboglffdmnaaTjO
import Derived.Conc.HoldsTime
namespace Go.TJ
open Go Go.Conc
open Go.ConcN (sumTo upd sumTo_upd upd_ne upd_same)
variable {Γ : Type}

theorem stepG_last {P : Program} {f : FuncId} {a : Act} {todo : List Item} {fn : Func} {v : Value} {w : World} {es : Array Event} (hd : a.defers = []) (hf : P.funcs[f]? = some fn) (hini : P.inits.idxOf? f = none)
    (hv : (results fn a.tmps).runT P w #[] = (.ok v w, es)) : stepG P true (G { (fb f .normal).at a todo with mode := .returning } []) w = .ended (.done v) w (seen P f es) := by
  simp only [G, stepG, unwind, Frame.at, hd, hf, fb, hv]
  simp [doReturn, GStep.after, hini]

/-- What is over at the end of goroutine 0. -/
theorem tr_over {I : Nat → Option Wait} {t : Trace} (H : Tr 0 (loOf 0 I) (stOf I) t) (hI : ∀ i, i ≠ 0 → I i = none) : t.HandedOver := by
  intro i g hg hne ⟨x, hx, hm, _⟩
  rcases H.known i x hx hm with ⟨q, z, hq, hz, hb⟩ | ⟨_, g', _, hlo, _⟩
  · rcases hb with rfl | hb
    · rw [g?_of hq, hz] at hg
      exact absurd (Option.some.inj hg).symm hne
    · exact ⟨q, by rw [g?_of hq, hz], hb⟩
  · have := hlo.2
    rw [hI g' hlo.1] at this
    cases this

theorem fr_one (P : Program) (g : Goroutine) (w : World) : Fr P 0 (fun _ => none) #[] #[g] w (fun _ => 0) := by
  refine ⟨fun i g' hi hg => ?_, fun _ _ _ e => (by cases e), fun _ _ _ e => (by cases e), fun _ _ _ _ _ _ e => (by cases e), ⟨fun said => ?_, fun i a ha => ?_, fun i a ha => ?_, fun g' hg => ?_⟩, fun i hi hs => (by cases hs), fun j _ => rfl⟩
  · have : i < 1 := by simpa using (Array.getElem?_eq_some_iff.1 hg).1
    omega
  · rintro ⟨i, j, _, ⟨a, b, ha, _⟩, _⟩; simp [Trace.act?] at ha
  · simp [touchAt, Trace.act?] at ha
  · simp [touchAt, Trace.act?] at ha
  · cases hg.2

theorem runN_of_runNT {P : Program} : ∀ (n : Nat) (m m' : Machine) (t t' : Trace), runNT P n m t = (.next m', t') → runN P n m = .next m'
  | 0, m, m', t, t', h => by simp only [runNT, Prod.mk.injEq] at h; rw [runN]; exact h.1
  | n + 1, m, m', t, t', h => by
    simp only [runNT] at h
    cases e : stepT P m with
    | mk s ops =>
      rw [e] at h
      cases s with
      | next m₁ =>
        simp only at h
        have : step P m = .next m₁ := by rw [step, e]
        rw [runN, this]
        exact runN_of_runNT n m₁ m' _ t' h
      | _ => simp at h

theorem runNT_succ_end {P : Program} {N : Nat} {m m₁ : Machine} {t t₁ : Trace} {o : Outcome} {w : World} {ops : Array MemOp} (h : runNT P N m t = (.next m₁, t₁)) (hs : stepT P m₁ = (.ended o w, ops)) : runNT P (N + 1) m t = (.ended o w, t₁ ++ ops) := by
  rw [runNT_add, h]; simp only [runNT, hs]

/-- A WHOLE RUN. -/
theorem company_run {P : Program} {X : Proto Γ} (hX : X.Ok) {f : FuncId} {args : Array Value} {W : World} {γ₀ : Γ} {R : Value → Hp → Prop} (hini : P.inits.idxOf? f = none) (hn : X.num γ₀ = 1)
    (hc : CallW P true (SitM P X) f args W.heap ⟨0, γ₀⟩ fun
      | .ret v, h', δ' => δ'.d = 0 ∧ (∀ i, i ≠ 0 → i < X.num δ'.g → X.ch δ'.g i = none) ∧ R v h'
      | .pan _, _, _ => False) :
    ∃ M last o w' t', runNT P (M + 1) (solo (G (Frame.enter P f args .normal) []) W) #[] = (.ended o w', t') ∧ runN P M (solo (G (Frame.enter P f args .normal) []) W) = .next last ∧ step P last = .ended o w' ∧
      Conc.Good P (fun v W' => R v W'.heap ∧ Same W W') last o w' t' := by
  obtain ⟨N, gs, g', w, sl, T, q, δ, I, hr, hg, F, L, hd, hs, a, todo, mode, fn, rfl, hda, hf, hend⟩ := company hX (hc .normal (by simp) []) (sl := none) (w := W) rfl (fr_one P _ W) ⟨hn, fun i hi hlt => by simp at hlt; omega, fun i V _ e => (by cases e), fun i V _ _ e => (by cases e)⟩ rfl rfl
  rcases hend with ⟨rfl, v, hv, hd0, hch, hR⟩ | ⟨_, _, hp⟩
  · have hI : ∀ i, i ≠ 0 → I i = none := fun i hi => by
      cases e : I i with
      | none => rfl
      | some V =>
        have hlt := F.room i hi (by rw [e]; rfl)
        have h1 := L.ch i hi hlt
        rw [hch i hi (by rw [L.num]; exact hlt), e] at h1
        cases h1
    obtain ⟨N₂, gs₂, d, d', sl₂, sl₃, T₂, q₂, hr₂, hst, hsz, ha₂, F₂, hd₂⟩ := F.picked (sl := sl) hg rfl
    obtain ⟨es, hrun, hes⟩ := hv (w.at d') rfl
    have hend := stepG_last (w := w.at d') (todo := todo) hda hf hini hrun
    have hrt := runT_many_ended (P := P) (sl := sl₃) (i := 0) ha₂ hend
    have hops : ∀ op ∈ MemOp.ofEvents 0 f (G { (fb f .normal).at a todo with mode := .returning } []).frame.place (seen P f es), op.g = 0 := fun op hop => by obtain ⟨e, _, rfl⟩ := Go.Conc.mem_ofEvents hop; rfl
    have hTr : Tr 0 (loOf 0 I) (stOf I) (T₂ ++ MemOp.ofEvents 0 f (G { (fb f .normal).at a todo with mode := .returning } []).frame.place (seen P f es)) :=
      F₂.tr.own (fun x => x.1 rfl) hops fun op hop b hb g hg' hS => by
        have := hg'.2
        rw [hI g hg'.1] at this
        cases this
    refine ⟨N + N₂, _, .done v, w.at d', _, runNT_succ_end (runNT_then hr hr₂) (hst.trans hrt), runN_of_runNT _ _ _ _ _ (runNT_then hr hr₂), ?_, v, rfl, ⟨hR, hs.trans (same_at w d')⟩, hTr.clean, tr_over hTr hI, ⟨fun x hx => ?_, rfl⟩, fun j x hx hj => ?_⟩
    · rw [step, hst, hrt]
    · obtain ⟨j, hj⟩ := List.mem_iff_getElem?.1 hx
      rw [List.getElem?_drop] at hj
      have hid := F₂.idle (1 + j) x (by omega) (by simpa [crowd] using hj)
      rw [hI _ (by omega)] at hid
      exact ⟨_, hid.2.leaves⟩
    · have hid := F₂.idle j x hj hx
      rw [hI j hj] at hid
      refine ⟨q₂ j, ?_⟩
      have e : (T₂ ++ MemOp.ofEvents 0 f (G { (fb f .normal).at a todo with mode := .returning } []).frame.place (seen P f es)).deaf j (T₂ ++ MemOp.ofEvents 0 f (G { (fb f .normal).at a todo with mode := .returning } []).frame.place (seen P f es)).size = Deaf T₂ j :=
        Deaf_other T₂ (g := j) (g' := 0) (Ne.symm hj) _ hops
      rw [show (G { (fb f .normal).at a todo with mode := .returning } []).frame.fn = f from rfl, e]
      exact hid.2.hears _
  · exact hp.elim
end Go.TJ
