/- Steps of the walk and of the plain law (TjGR to TjGR). Conditions: as each lemma says. -/
import Derived.Test.YtakioblpgmjdaaaCFE
set_option linter.unusedSectionVars false
set_option linter.unusedVariables false
set_option linter.unusedSimpArgs false
namespace Go.TJ
section
variable [Dm]
open Go Go.Conc
open Go.ConcN (upd upd_ne upd_same)
open Go.ConcM (OsLater)
variable {Γ : Type}
theorem company_runG {P : Program} {X : Fp Γ} (hX : X.Ok) {f : FuncId} {args : Array Value} {W : World} {γ₀ : Γ} {R : Value -> Hp -> Prop} (hini : P.inits.idxOf? f = none) (hn : X.num γ₀ = 1) (hj : ¬ X.jn γ₀) (hinv : X.Inv γ₀ W.heap) (hcf : ∀ b, ¬ (X.cf γ₀).shb b /\ ¬ (X.cf γ₀).ro b) (hfin : ∀ i, X.fin γ₀ i = none)
    (hc : CallW P true (SitM P X) f args W.heap ⟨0, γ₀⟩ fun
      | .ret v, h', δ' => δ'.d = 0 /\ (X.jn δ'.g \/ (X.lone δ'.g /\ X.num δ'.g = 1)) /\ ∀ H, Part True h' H -> R v H
      | .pan _, _, _ => False) :
    ∃ M last o w' t', runNT P (M + 1) (solo (G (Frame.enter P f args .normal) []) W) #[] = (.ended o w', t') /\ runN P M (solo (G (Frame.enter P f args .normal) []) W) = .next last /\ step P last = .ended o w' /\
      Conc.Good P (fun v W' => R v W'.heap /\ SameL W W') last o w' t' := by
  obtain ⟨N, m, T, hr, γ, gs, w, hs, γs, ts, sl, g', rfl, C, hg, hs', a, todo, mode, fn, rfl, hda, hf, hend⟩ := companyF hX (hc .normal (by simp) ⟨[], calm_normal []⟩) (sl := none) (cfg_one (g := G (Frame.enter P f args .normal) []) hX hn hj hinv hcf hfin) (if_pos rfl) rfl rfl
  rcases hend with ⟨rfl, v, hv, hd0, hjn, hR⟩ | ⟨_, _, hp⟩
  · obtain ⟨N₂, m₁, T₂, γ₂, gs₂, w₂, hs₂, γs₂, ts₂, sl₂, hr₂, hst, C₂, K₂, hg₂, ⟨hmg, hmt⟩, _⟩ := turns hX (g0 := G { (fb f .normal).at a todo with mode := .returning } []) rfl (Done := fun _ _ _ _ _ _ _ _ => True) (fun _ _ _ _ _ _ _ _ _ _ _ => .inr trivial) ts γ gs w T hs γs sl C ⟨rfl, rfl, rfl, SameL.refl w, rfl⟩ ⟨_, hg, .inl rfl⟩
    have M₂ := C₂.mi
    have hpos := M₂.pos
    have hcfs := hX.cfR _ _ _ (M₂.rel 0 hpos (fun z => absurd z (Nat.lt_irrefl _)))
    have hP := M₂.part 0 hpos
    rw [K₂.h] at hP
    obtain ⟨es, hrun, hes⟩ := hv w₂ hP.weak
    have hstep := stepG_last (w := w₂) (todo := todo) hda hf hini hrun
    have hrt := runT_many_ended (P := P) (sl := sl₂) (i := 0) hg₂ hstep
    obtain ⟨hseen, _⟩ := seen_reads (Γ := Γ) (P := P) (S := fun ad : Addr => (X.cf γ₂).ro ad.block) (f := f) hes
    have hl : X.lone (γs₂ 0) := by rw [K₂.γ]; exact hjn.elim (hX.jl _) fun z => z.1
    have hγ : γ₂ = γs₂ 0 := M₂.lone hl
    have hjn₂ : X.jn γ₂ \/ X.num γ₂ = 1 := by rw [hγ, K₂.γ]; exact hjn.imp id fun z => z.2
    have M₃ := M₂.own hX hpos (fun z => absurd z (Nat.lt_irrefl _)) f (G { (fb f .normal).at a todo with mode := .returning } []).frame.place (L := True) (S := fun ad : Addr => (X.cf γ₂).ro ad.block) (hv := hs 0) (h' := hs 0) (H' := w₂.heap) (es := seen P f es) (fun _ => Iff.rfl) (fun _ => trivial) (fun b => by rw [K₂.h])
      (Chg.refl ⟨hP.get, hP.size, fun _ => hP.same ⟨rfl, hl⟩⟩) hseen (fun z => absurd z (Nat.lt_irrefl _))
    have hdone : ∀ i, 0 < i -> i < gs₂.size -> X.done i γ₂ := fun i h0 hi => hX.lone γ₂ i (by rw [hγ]; exact hl) h0 (by rw [M₂.num]; exact hi)
    have hq : ∀ i x, 0 < i -> gs₂[i]? = some x -> ∃ n, QuitsD P n (Deaf T₂ i) x := fun i x h0 hi => by
      have hlt := (Array.getElem?_eq_some_iff.1 hi).1
      obtain ⟨g0, h1, h2⟩ := C₂.wk i x h0 hi
      have hd := hdone i h0 hlt
      rw [M₂.back i h0 hlt (hX.fin i γ₂ h0 hd)] at h1
      rcases h2 with rfl | ⟨_, _, hb⟩
      · exact runsN_quits h0 _ _ _ _ ((M₂.dn i h0 hlt).1 hd) h1
      · exact absurd hb (hX.blkd i γ₂ h0 hd)
    refine ⟨N + N₂, _, .done v, w₂, _, runNT_succ_end (runNT_then hr hr₂) (hst.trans hrt), runN_of_runNT _ _ _ _ _ (runNT_then hr hr₂), ?_, v, rfl, ⟨hR w₂.heap ⟨hP.get, hP.size, fun _ => hP.same ⟨rfl, hl⟩⟩, hs'.trans K₂.w⟩, M₃.tf.clean, hjn₂.elim M₃.tf.over fun z => M₃.tf.overLone (M₂.num.symm.trans z), ⟨fun x hx => ?_, ?_⟩, fun j x hx hj => ?_⟩
    · rw [step, hst, hrt]
    · rw [hmg] at hx
      obtain ⟨j, hj⟩ := List.mem_iff_getElem?.1 hx
      rw [List.getElem?_drop] at hj
      obtain ⟨n, hn⟩ := hq (1 + j) x (by omega) (by simpa using hj)
      exact ⟨n, hn.leaves⟩
    · rw [hmt]; rfl
    · rw [hmg] at hx
      obtain ⟨n, hn⟩ := hq j x (by omega) hx
      refine ⟨n, ?_⟩
      have e : (T₂ ++ MemOp.ofEvents 0 f (G { (fb f .normal).at a todo with mode := .returning } []).frame.place (seen P f es)).deaf j (T₂ ++ MemOp.ofEvents 0 f (G { (fb f .normal).at a todo with mode := .returning } []).frame.place (seen P f es)).size = Deaf T₂ j :=
        Deaf_other T₂ (g := j) (g' := 0) (Ne.symm hj) _ fun op hop => by obtain ⟨e, _, rfl⟩ := Go.Conc.mem_ofEvents hop; rfl
      rw [show (G { (fb f .normal).at a todo with mode := .returning } []).frame.fn = f from rfl, e]
      exact hn.hears _
  · exact hp.elim
end
end Go.TJ
