/- Own theory, part 26: a slice made of elements of two cells. Conditions: facts on the program's types. -/
import Derived.Test.YtkppboglffdmnaaTjC
namespace Go.TJ
open Go Go.Conc
variable {Γ : Type}

theorem rep2 {u : Value} {k : Nat} : Array.map (fun x => (#[u, u] : Array Value)[x % 2]!) (Array.range (k * 2)) = (List.replicate (k * 2) u).toArray := by
  apply Array.ext'
  simp only [Array.toList_map, Array.toList_range]
  apply List.ext_getElem
  · simp
  · intro i h1 h2
    simp only [List.getElem_map, List.getElem_range, List.getElem_replicate]
    rcases Nat.mod_two_eq_zero_or_one i with e | e <;> rw [e] <;> rfl

theorem sem_makeSlice2 {P : Program} {S : Sit Γ} {h : Hp} {δ : Ix Γ} {ty : TypeId} {pos : String} {af : Array Edge} {g : Option (Nat × Bool)} {t e by_ m : Nat} {z u : Value} {x y : Operand} [hinf : Inf P e 2 by_ z] [hu : Und P t (.slice e)] {ρ : Operand → Value} {dst : Option Nat} {Q : Next → Hp → Ix Γ → Prop} {X : Value → Hp → Ix Γ → Prop}
    (hx : ρ x = .int .i64 m) (hy : ρ y = .int .i64 m) (hm0 : 0 < m) (hfit : by_ * m ≤ 140737488355328) (hm : m < 1000000000000) (hz : z.cells = #[u, u])
    (hq : Q (.value (.slice (some ⟨h.size, 0, none⟩) m m)) (h.push (.cells (List.replicate (m * 2) u).toArray e)) δ) : SemW P S (execOp ρ ⟨dst, .makeSlice t x y, ty, pos, af, g⟩) h δ Q X := by
  show SemW P S (Instr.makeSlice t (ρ x) (ρ y) >>= fun v => pure (.value v)) h δ Q X
  rw [hx, hy]
  refine semW_bind _ _ _ _ _ _ ?_
  obtain ⟨inf, hi1, hi2, hi3, hi4⟩ := hinf.get
  have hwr : IntKind.i64.wrap ((m : Int)) = m := i64_in (by omega) (by omega)
  unfold Instr.makeSlice
  show SemW P S (underlying t >>= _) h δ _ X
  refine semW_underlying hu.out ?_
  refine semW_pureBind ?_
  refine semW_pureBind ?_
  refine semW_typeInfo hi1 ?_
  simp only [hwr, hi3]
  have hc : ¬ ((by_ : Int) * m > 2 ^ 48) := by
    have := Int.ofNat_le.mpr hfit
    rw [Int.natCast_mul] at this
    have e : (2 : Int) ^ 48 = 281474976710656 := by decide
    rw [e]
    omega
  rw [if_neg (by rw [decide_eq_false (by omega : ¬ ((m : Int) < 0)), decide_eq_false hc, decide_eq_false (by omega : ¬ ((m : Int) > m))]; decide)]
  have hroom : ∀ {Q' : Unit → Hp → Ix Γ → Prop}, Q' () h δ → SemW P S (askRoom (((m : Int)).toNat * by_)) h δ Q' X := fun {Q'} hq' => by
    unfold askRoom
    split
    · exact ⟨nofun, nofun, hq'⟩
    · exact hq'
  refine semW_bind _ _ _ _ _ _ (hroom ?_)
  refine semW_sizeOf hi1 ?_
  rw [hi2]
  split
  · rename_i h0
    omega
  · refine semW_zeroValue hi1 hi4 ?_
    refine semW_pureBind ?_
    refine ⟨thawed, ?_⟩
    rw [hz]
    have := rep2 (u := u) (k := m)
    rw [show Array.map (fun x => (#[u, u] : Array Value)[x % (#[u, u] : Array Value).size]!) (Array.range ((m : Int).toNat * 2)) = (List.replicate (m * 2) u).toArray from this]
    exact hq

/-- A drawn region that may come to its end in several ways: what is behind it is shown once. -/
theorem EK.regionAnyM {P : Program} {main : Bool} {S : Sit Γ} {f : FuncId} {n : Nat} {k : List Item} {env : Env} {ds : List Deferred} {h : Hp} {δ : Ix Γ} {R : Post Γ} [hm : Mixed P] {id : Nat} {ops : Array Oper} {σ : Type} (E : σ → Env) (I : σ → Hp → Ix Γ → Prop) (Z : Hp → Prop) (z : Nat)
    (h1 : (∀ s h' δ', I s h' δ' → EK P main S f n k (E s) ds h' δ' R) → EA P main S f n ops Z z ops.size (Array.replicate ops.size false) k env ds h δ R) (h2 : ∀ s h' δ', I s h' δ' → EK P main S f n k (E s) ds h' δ' R) : EK P main S f n (.code (.region id ops true) :: k) env ds h δ R := EK.regionAnyL Z z (h1 h2)

/-- A call that alone may come up among others. -/
theorem EAi.callD {P : Program} {main : Bool} {S : Sit Γ} {f : FuncId} {n : Nat} {k : List Item} {env : Env} {ds : List Deferred} {h : Hp} {δ : Ix Γ} {R : Post Γ} {ops : Array Oper} {Z : Hp → Prop} {z m : Nat} {listed l' : Array Bool} {d : Nat} {ty : TypeId} {pos : String} {af : Array Edge} {g : Option (Nat × Bool)} {i : Nat} {x : Operand} {args : Array Operand} {ats : Array TypeId} {c : FuncId} {cap ws : Array Value} {vs : List Value} [HasBody P c] {v : Value} {h' : Hp} {δ' : Ix Γ}
    (hi : ops[i]? = some ⟨some d, .call { callee := .value x, args, argTypes := ats }, ty, pos, af, g⟩) (hl : listed.setIfInBounds i true = l') (hd : Nat.blt d n = true) (hw : wantE ops env g = some true) (hx : ev env x = some (.func (.func c) #[] cap)) (ha : evL env args.toList = some vs) (hws : vs.toArray ++ cap = ws)
    (hc : CallW P main S c ws h δ (Ret (Det v h' δ'))) (hZ : Z h') (hn : EA P main S f n ops Z z m l' k ((d, v) :: env) ds h' δ' R) : EAi P main S f n ops Z z m listed k env ds h δ R i := by
  subst hl
  intro a ka
  unfold OpK
  simp only [hi]
  rw [if_pos (wantE_ok ka (o := ⟨some d, .call { callee := .value x, args, argTypes := ats }, ty, pos, af, g⟩) hw)]
  subst hws
  refine semW_call rfl (ka.eval hx) (map_ofL (fun x v hx => ka.eval hx) ha) (hc.mono ?_)
  rintro (v' | p) h'' δ'' hq
  · obtain ⟨rfl, rfl, rfl⟩ := hq
    exact ⟨.inr hZ, hn _ (ka.put _ hd)⟩
  · exact hq.elim
end Go.TJ
