/- Own theory, part 11: structs of two integers compared. Conditions: as the rules say. -/
import Derived.Test.YtkppboglffdmnaaTjB
namespace Go.TJ
open Go Go.Conc
variable {Γ : Type}

/-- A struct of two integers. -/
class EqI2 (P : Program) (t : TypeId) (k1 k2 : outParam IntKind) : Prop where
  out : P.stoodInHeld t = false ∧ P.eqGuardType P.depth t = false ∧ ∃ f1 f2 : Field, P.underlying t = some (.struct #[f1, f2]) ∧ f1.name ≠ "_" ∧ f2.name ≠ "_" ∧ f1.offset = 0 ∧ f2.offset = 1 ∧ P.underlying f1.type = some (.int k1) ∧ P.underlying f2.type = some (.int k2)

section
variable {P : Program} {main : Bool} {S : Sit Γ} {f : FuncId} {n : Nat} {k : List Item} {env : Env} {ds : List Deferred} {h : Hp} {δ : Ix Γ} {R : Post Γ}
variable {ops : Array Oper} {l : List Oper} {d : Nat} {ty : TypeId} {pos : String} {af : Array Edge} {g : Option (Nat × Bool)}

theorem semW_partI {t : TypeId} {kd : IntKind} {cs : Array Value} {o : Nat} {v : Value} (hu : P.underlying t = some (.int kd)) (hv : cs[o]? = some v) {Q : Value → Hp → Ix Γ → Prop} {X : Value → Hp → Ix Γ → Prop} (hq : Q v h δ) : SemW P S (part t cs o) h δ Q X := by
  unfold part isAgg
  refine semW_bind _ _ _ _ _ _ ?_
  refine semW_underlying hu ?_
  simp only [hv]
  exact hq

theorem semW_eqInt {dd : Nat} {t : TypeId} {kd : IntKind} {a b : Int} (hu : P.underlying t = some (.int kd)) {Q : Bool → Hp → Ix Γ → Prop} {X : Value → Hp → Ix Γ → Prop} (hq : Q (a == b) h δ) : SemW P S (Op.equalIn (dd + 1) t (.int kd a) (.int kd b)) h δ Q X := by
  unfold Op.equalIn
  refine semW_underlying hu ?_
  simp only
  rw [if_pos trivial]
  exact hq

theorem semW_eqI2 {t : TypeId} {k1 k2 : IntKind} [e : EqI2 P t k1 k2] {a1 a2 b1 b2 : Int} {Q : Bool → Hp → Ix Γ → Prop} {X : Value → Hp → Ix Γ → Prop} (hq : Q (a1 == b1 && a2 == b2) h δ) :
    SemW P S (Op.equal t (.agg #[.int k1 a1, .int k2 a2]) (.agg #[.int k1 b1, .int k2 b2])) h δ Q X := by
  obtain ⟨hs, -, f1, f2, hu, hn1, hn2, ho1, ho2, hu1, hu2⟩ := e.out
  unfold Op.equal Op.maxDepth Op.equalIn
  refine semW_underlying hu ?_
  simp only
  change SemW P S (Sem.bind (Sem.program Sem.pure) _) h δ Q X
  simp only [Sem.bind, SemW, hs]
  rw [if_neg (by simp)]
  rw [← Array.forIn_toList]
  simp only [List.forIn_cons, List.forIn_nil, hn1, hn2, ho1, ho2, ne_eq, not_false_eq_true, if_true]
  refine semW_bind _ _ _ _ _ _ (semW_bind _ _ _ _ _ _ (semW_bind _ _ _ _ _ _ (semW_partI hu1 rfl (semW_bind _ _ _ _ _ _ (semW_partI hu1 rfl (semW_bind _ _ _ _ _ _ (semW_eqInt (dd := 9998) hu1 ?_)))))))
  by_cases h1 : a1 = b1
  · rw [beq_iff_eq.mpr h1] at hq ⊢
    simp only [Bool.not_true, Bool.false_eq_true, if_false]
    refine semW_pure (Q := _) ?_
    simp only
    refine semW_bind _ _ _ _ _ _ (semW_bind _ _ _ _ _ _ (semW_partI hu2 rfl (semW_bind _ _ _ _ _ _ (semW_partI hu2 rfl (semW_bind _ _ _ _ _ _ (semW_eqInt (dd := 9998) hu2 ?_))))))
    by_cases h2 : a2 = b2
    · rw [beq_iff_eq.mpr h2] at hq ⊢
      exact hq
    · rw [beq_eq_false_iff_ne.mpr h2] at hq ⊢
      exact hq
  · rw [beq_eq_false_iff_ne.mpr h1] at hq ⊢
    exact hq

theorem eqGuard_agg {op : BinOp} {t : TypeId} {k1 k2 : IntKind} [e : EqI2 P t k1 k2] {x y : Operand} {a b : Array Value} {Q : Unit → Hp → Ix Γ → Prop} {X : Value → Hp → Ix Γ → Prop} (hq : Q () h δ) : SemW P S (eqGuard op t x y (.agg a) (.agg b)) h δ Q X := by
  obtain ⟨-, hg, -⟩ := e.out
  unfold eqGuard
  have key : SemW P S (do if !(← program).eqGuardType (← program).depth t then return
                          if ← Op.eqGuardIn Op.maxDepth t (.agg a) (.agg b) then unsupported (.noEntry "binop/eql: two nil values of an interface type with methods, in a part of a struct or an array")) h δ Q X := by
    change SemW P S (Sem.bind (Sem.program Sem.pure) fun p => Sem.bind (Sem.program Sem.pure) fun q => if (!p.eqGuardType q.depth t) = true then _ else _) h δ Q X
    simp only [Sem.bind, SemW, hg]
    exact hq
  cases op <;> first | exact hq | exact key

theorem ER.eqA {t t2 : TypeId} {k1 k2 : IntKind} [EqI2 P t k1 k2] {x y : Operand} {a1 a2 b1 b2 : Int} {r : Bool} (hw : wantE ops env g = some true) (hd : Nat.blt d n = true) (hx : ev env x = some (.agg #[.int k1 a1, .int k2 a2])) (hy : ev env y = some (.agg #[.int k1 b1, .int k2 b2])) (hr : (a1 == b1 && a2 == b2) = r)
    (hn : ER P main S f n ops l k ((d, .bool r) :: env) ds h δ R) : ER P main S f n ops (⟨some d, .binOp .eql t x y t2, ty, pos, af, g⟩ :: l) k env ds h δ R :=
  ER.to hw hd (fun ρ Q X hρ hq => semW_binOp (by
    rw [hρ x _ hx, hρ y _ hy]
    exact eqGuard_agg (by
      show SemW P S (Op.equal t _ _ >>= fun b => pure (Value.bool b)) h δ _ X
      exact semW_bind _ _ _ _ _ _ (semW_eqI2 (by rw [hr]; exact hq))))) hn

theorem ER.neqA {t t2 : TypeId} {k1 k2 : IntKind} [EqI2 P t k1 k2] {x y : Operand} {a1 a2 b1 b2 : Int} {r : Bool} (hw : wantE ops env g = some true) (hd : Nat.blt d n = true) (hx : ev env x = some (.agg #[.int k1 a1, .int k2 a2])) (hy : ev env y = some (.agg #[.int k1 b1, .int k2 b2])) (hr : (!(a1 == b1 && a2 == b2)) = r)
    (hn : ER P main S f n ops l k ((d, .bool r) :: env) ds h δ R) : ER P main S f n ops (⟨some d, .binOp .neq t x y t2, ty, pos, af, g⟩ :: l) k env ds h δ R :=
  ER.to hw hd (fun ρ Q X hρ hq => semW_binOp (by
    rw [hρ x _ hx, hρ y _ hy]
    exact eqGuard_agg (by
      show SemW P S (Op.equal t _ _ >>= fun b => pure (Value.bool (!b))) h δ _ X
      exact semW_bind _ _ _ _ _ _ (semW_eqI2 (by rw [← hr] at hq; exact hq))))) hn
end
end Go.TJ
