/- The gate with one body that does not step: what is agreed on; goes. Conditions: as each lemma says. -/
import Derived.Test.YtkppboglffdmnaaBase
namespace Go.Proofs.Ytkppboglffdmnaa
open Go Go.TJ Go.Conc Go.Proofs

/-- The ghost: how far it is (0: nobody is started; 1: it waits; 2: it goes; 3: it has ended); where it is; the heap when it was let go. -/
structure G1 where
  ph : Nat
  t : Nat
  wk : Nat
  sd : Nat
  tb : Nat
  u : Hp

def c0 (γ : G1) : Addr → Option Value := fun a => if a = ⟨γ.t, 3, none⟩ then some (.chan (some γ.sd)) else none
def c1 (γ : G1) : Addr → Option Value := fun a => if a = ⟨γ.t, 2, none⟩ then some (.chan (some γ.wk)) else if a = ⟨γ.tb, 0, none⟩ then some (.pointer (some ⟨γ.t, 0, none⟩)) else none

def P1 (γ : G1) (h : Hp) : Prop := γ.ph = 2 ∧ h.size = γ.u.size ∧ (∀ b, b ≠ γ.wk → h[b]? = γ.u[b]?) ∧ ∃ k, h[γ.wk]? = some (.chan 0 #[] false k k false)
def P0 (Tb : Nat → Prop) (Qc : Addr → Option Value) (γ : G1) (h : Hp) : Prop :=
  γ.ph = 3 ∧ Upd (fun b => Tb b ∨ b = γ.t ∨ b = γ.wk ∨ b = γ.sd) γ.u h ∧ (∃ k, h[γ.sd]? = some (.chan 0 #[] false k k false)) ∧ hcell h ⟨γ.t, 13, none⟩ = some (.bool true) ∧ OfC Qc h

def X1 (Tb : Nat → Prop) (Qc : Addr → Option Value) : Proto G1 where
  num γ := if γ.ph = 0 then 1 else 2
  ch γ i := if i = 0 then some γ.sd else if γ.ph = 3 then none else some γ.wk
  cells γ i := if i = 0 then c0 γ else c1 γ
  R _ γ γ' := γ'.t = γ.t ∧ γ'.wk = γ.wk ∧ γ'.sd = γ.sd ∧ γ'.tb = γ.tb ∧ γ'.u = γ.u
  Pass i γ h := if i = 0 then P0 Tb Qc γ h else P1 γ h

theorem x1_ok (Tb : Nat → Prop) (Qc : Addr → Option Value) : (X1 Tb Qc).Ok := by
  refine ⟨fun i a b c x y => ?_, fun i γ h c k hc hp hk => ?_⟩
  · obtain ⟨x1, x2, x3, x4, x5⟩ := x
    obtain ⟨y1, y2, y3, y4, y5⟩ := y
    exact ⟨y1.trans x1, y2.trans x2, y3.trans x3, y4.trans x4, y5.trans x5⟩
  · have hlt := lt_of_get hk
    by_cases e : i = 0
    · subst e
      simp only [X1, if_true] at hc hp ⊢
      obtain rfl : γ.sd = c := Option.some.inj hc
      obtain ⟨p1, p2, _, p4, p5⟩ := hp
      refine ⟨p1, p2.trans (Upd.set _ _ _ (.inr (.inr (.inr rfl)))), ⟨k + 1, get_set_same hk⟩, (hcell_chan hk _).trans p4, fun a v hv => (hcell_chan hk _).trans (p5 a v hv)⟩
    · simp only [X1, if_neg e] at hc hp ⊢
      obtain ⟨p1, p2, p3, _⟩ := hp
      rw [if_neg (by rw [p1]; decide)] at hc
      obtain rfl : γ.wk = c := Option.some.inj hc
      exact ⟨p1, by simpa using p2, fun b hb => (get_set_ne _ (Ne.symm hb)).trans (p3 b hb), k + 1, get_set_same hk⟩

section
variable {Tb : Nat → Prop} {Qc : Addr → Option Value} {h : Hp} {γ : G1}

set_option maxHeartbeats 1000000 in
set_option maxRecDepth 8000 in
/-- goes: the thread is let go; it ends. -/
theorem goes_ok (h1 : γ.ph = 1) (hu : γ.u = h) (w1 : hcell h ⟨γ.t, 2, none⟩ = some (.chan (some γ.wk))) (w2 : hcell h ⟨γ.t, 3, none⟩ = some (.chan (some γ.sd))) (o1 : ∃ k, h[γ.wk]? = some (.chan 0 #[] false k k false)) (o2 : ∃ k, h[γ.sd]? = some (.chan 0 #[] false k k false)) (hne : γ.wk ≠ γ.sd) :
    CallW Try.prog true (SitM Try.prog (X1 Tb Qc)) 130 #[.pointer (some ⟨γ.t, 0, none⟩)] h ⟨0, γ⟩ (Ret fun _ h' δ' => ∃ γ', δ' = ⟨0, γ'⟩ ∧ (X1 Tb Qc).R 0 γ γ' ∧ P0 Tb Qc γ' h') := by
  have hB : ∀ a, (c0 γ a).isSome = true → a.block < γ.t + 1 := fun a ha => by
    unfold c0 at ha
    split at ha
    · rename_i e; rw [e]; exact Nat.lt_succ_self _
    · cases ha
  refine CallW.start (n := 12) rfl rfl ?_
  (repeat (first | refine EK.seq ?_ | refine EK.region ?_ | refine ER.done ?_ | refine EK.skip ?_ | refine EK.block ?_ | refine EK.inBlock ?_ | refine ER.move rfl rfl rfl ?_ | refine ER.assign rfl rfl rfl ?_ | refine ER.nilCheck rfl rfl rfl ?_ | refine ER.fieldAddr rfl rfl rfl ?_ | refine ER.load1 rfl rfl rfl (hcell_of (by assumption) rfl) ?_ | refine ER.no rfl rfl ?_ | refine ER.noU rfl ?_ | refine ER.eqV rfl rfl rfl rfl rfl ?_ | refine ER.neqV rfl rfl rfl rfl rfl ?_ | refine ER.eqA rfl rfl rfl rfl rfl ?_ | refine ER.neqA rfl rfl rfl rfl rfl ?_ | refine ER.notB rfl rfl rfl ?_ | refine ER.pickT rfl rfl rfl rfl ?_ | refine ER.pickF rfl rfl rfl rfl ?_ | refine ER.extract rfl rfl rfl rfl ?_ | refine ER.cmpT rfl rfl rfl rfl rfl (by first | (dsimp only [cmpP]; omega) | exact rfl | exact Int.le_refl _) ?_ | refine ER.cmpF rfl rfl rfl rfl rfl (by first | (dsimp only [cmpP]; omega) | exact rfl | exact Int.le_refl _) ?_ | refine ER.boxA rfl rfl rfl ?_ | refine ER.box rfl rfl rfl ?_ | refine ER.allocA rfl rfl ?_ | refine ER.alloc rfl rfl ?_ | refine ER.add (kd := .i64) rfl rfl rfl rfl (i64_in (by omega) (by omega)) ?_ | refine ER.sub' (kd := .i64) rfl rfl rfl rfl (i64_in (by omega) (by omega)) ?_ | refine ER.mul (kd := .i64) rfl rfl rfl rfl (i64_in (by omega) (by omega)) ?_ | refine ER.rem (kd := .i64) rfl rfl rfl rfl (by decide) rfl ?_ | refine ER.indexArr rfl rfl rfl rfl (by omega) (by omega) ?_ | refine ER.len1 rfl rfl rfl ?_ | refine ER.indexSl rfl rfl rfl rfl (by omega) (by omega) ?_ | refine EK.condT rfl ?_ | refine EK.condF rfl ?_ | refine EK.ret ?_ | refine EK.exit rfl ?_))
  refine ER.load1 rfl rfl rfl w1 ?_
  refine ER.buildS (cells := #[]) rfl rfl rfl rfl ?_
  refine ER.gives (X := X1 Tb Qc) (i := 0) (j := 1) (c := γ.wk) (c' := γ.sd) (B := γ.t + 1) (γ₁ := { γ with ph := 2 }) rfl (fun _ _ _ _ x => Or.inl ⟨1, x⟩) rfl rfl rfl rfl (by decide) ?a1 ?a2 ?a3 ?a4 ?a5 rfl ?a6 o2 ?a7 ?way
  case way =>
    intro kind hk cs
    refine RY.done hB (EY.region hB ?_)
    refine RY.move hB hk rfl rfl rfl ?_
    refine RY.nilCheck hB hk rfl rfl rfl ?_
    refine RY.fieldAddr hB hk rfl rfl rfl ?_
    refine RY.load1 (v := .chan (some γ.sd)) hB hk rfl rfl rfl (by show c0 _ _ = _; unfold c0; rw [if_pos rfl]) ?_
    refine RY.recvE hB hk rfl rfl rfl ?_
    intro γ₂ h₂ hR hP
    (repeat (first | refine EK.seq ?_ | refine EK.region ?_ | refine ER.done ?_ | refine EK.skip ?_ | refine EK.block ?_ | refine EK.inBlock ?_ | refine ER.move rfl rfl rfl ?_ | refine ER.assign rfl rfl rfl ?_ | refine ER.nilCheck rfl rfl rfl ?_ | refine ER.fieldAddr rfl rfl rfl ?_ | refine ER.load1 rfl rfl rfl (hcell_of (by assumption) rfl) ?_ | refine ER.no rfl rfl ?_ | refine ER.noU rfl ?_ | refine ER.eqV rfl rfl rfl rfl rfl ?_ | refine ER.neqV rfl rfl rfl rfl rfl ?_ | refine ER.eqA rfl rfl rfl rfl rfl ?_ | refine ER.neqA rfl rfl rfl rfl rfl ?_ | refine ER.notB rfl rfl rfl ?_ | refine ER.pickT rfl rfl rfl rfl ?_ | refine ER.pickF rfl rfl rfl rfl ?_ | refine ER.extract rfl rfl rfl rfl ?_ | refine ER.cmpT rfl rfl rfl rfl rfl (by first | (dsimp only [cmpP]; omega) | exact rfl | exact Int.le_refl _) ?_ | refine ER.cmpF rfl rfl rfl rfl rfl (by first | (dsimp only [cmpP]; omega) | exact rfl | exact Int.le_refl _) ?_ | refine ER.boxA rfl rfl rfl ?_ | refine ER.box rfl rfl rfl ?_ | refine ER.allocA rfl rfl ?_ | refine ER.alloc rfl rfl ?_ | refine ER.add (kd := .i64) rfl rfl rfl rfl (i64_in (by omega) (by omega)) ?_ | refine ER.sub' (kd := .i64) rfl rfl rfl rfl (i64_in (by omega) (by omega)) ?_ | refine ER.mul (kd := .i64) rfl rfl rfl rfl (i64_in (by omega) (by omega)) ?_ | refine ER.rem (kd := .i64) rfl rfl rfl rfl (by decide) rfl ?_ | refine ER.indexArr rfl rfl rfl rfl (by omega) (by omega) ?_ | refine ER.len1 rfl rfl rfl ?_ | refine ER.indexSl rfl rfl rfl rfl (by omega) (by omega) ?_ | refine EK.condT rfl ?_ | refine EK.condF rfl ?_ | refine EK.ret ?_ | refine EK.exit rfl ?_))
    exact EK.done (EU.ret0 rfl ⟨γ₂, rfl, hR, hP⟩)
  case a1 => simp [X1, h1]
  case a2 => simp [X1, h1]
  case a3 => simp [X1, h1]
  case a4 =>
    intro x hx hlt
    obtain rfl : x = 1 := by
      simp [X1, h1] at hlt; omega
    exact ⟨by simp [X1, h1], rfl, ⟨rfl, rfl, rfl, rfl, rfl⟩⟩
  case a5 => exact ⟨rfl, by simp [hu], fun b _ => by simp [hu], o1⟩
  case a6 =>
    intro a v hv
    change c0 γ a = some v at hv
    unfold c0 at hv
    split at hv
    · rename_i e; rw [e, w2]; exact hv
    · cases hv
  case a7 =>
    intro x hx hlt
    have : x = 1 := by simp [X1] at hlt; omega
    subst this
    simp only [X1]
    simpa using hne
end
end Go.Proofs.Ytkppboglffdmnaa
