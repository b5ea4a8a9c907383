/- Own theory, part 10: structs put together, slices of one element, append of one element. Conditions: as the rules say. -/
import Derived.Test.YtkppboglffdmnaaTjU
namespace Go.TJ
open Go Go.Conc
variable {Γ : Type}

def placesOk (P : Program) : List Field → List (Nat × Nat) → Prop
  | [], [] => True
  | f :: fs, (o, s) :: ps => f.offset = o ∧ (∃ inf, P.info? f.type = some inf ∧ inf.size = s) ∧ placesOk P fs ps
  | _, _ => False

/-- Where a struct's fields lie, and how many cells each takes. -/
class Places (P : Program) (t : TypeId) (pl : outParam (List (Nat × Nat))) : Prop where
  out : ∃ fields : List Field, P.underlying t = some (.struct fields.toArray) ∧ placesOk P fields pl

theorem infSize {P : Program} {t sz by_ : Nat} {z : Value} [i : Inf P t sz by_ z] : ∃ inf, P.info? t = some inf ∧ inf.size = sz := by
  obtain ⟨inf, h1, h2, _⟩ := i.get; exact ⟨inf, h1, h2⟩

section
variable {P : Program} {main : Bool} {S : Sit Γ} {f : FuncId} {n : Nat} {k : List Item} {env : Env} {ds : List Deferred} {h : Hp} {δ : Ix Γ} {R : Post Γ}
variable {ops : Array Oper} {l : List Oper} {d : Nat} {ty : TypeId} {pos : String} {af : Array Edge} {g : Option (Nat × Bool)}

theorem semW_places : ∀ (fs : List Field) (pl : List (Nat × Nat)), placesOk P fs pl → ∀ {Q : List (Nat × Nat) → Hp → Ix Γ → Prop} {X : Value → Hp → Ix Γ → Prop}, Q pl h δ → SemW P S (fs.mapM fun f => (do pure (f.offset, ← sizeOf f.type) : Sem (Nat × Nat))) h δ Q X
  | [], [], _, Q, X, hq => by simpa [List.mapM_nil] using (show SemW P S (pure []) h δ Q X from hq)
  | f :: fs, (o, s) :: ps, ⟨h1, ⟨inf, h2, h3⟩, h4⟩, Q, X, hq => by
    rw [List.mapM_cons]
    refine semW_bind _ _ _ _ _ _ ?_
    refine semW_sizeOf h2 ?_
    show SemW P S (fs.mapM _ >>= _) h δ _ X
    refine semW_bind _ _ _ _ _ _ ?_
    refine semW_places fs ps h4 ?_
    show Q ((f.offset, inf.size) :: ps) h δ
    rw [h1, h3]; exact hq
  | [], _ :: _, x, _, _, _ => x.elim
  | _ :: _, [], x, _, _, _ => x.elim

theorem semW_build {t sz by_ : Nat} {z : Value} {pl : List (Nat × Nat)} [i : Inf P t sz by_ z] [p : Places P t pl] {parts : Array (Nat × Value)} {cells : Array Value} {Q : Value → Hp → Ix Γ → Prop} {X : Value → Hp → Ix Γ → Prop}
    (hf : Instr.fill (fun i => pl.toArray[i]?) z.cells parts.toList = some cells) (hq : Q (.agg cells) h δ) : SemW P S (Instr.build t parts) h δ Q X := by
  obtain ⟨fields, hu, hp⟩ := p.out
  obtain ⟨inf, g1, g2, g3, g4⟩ := i.get
  unfold Instr.build
  refine semW_zeroValue g1 g4 ?_
  refine semW_underlying hu ?_
  show SemW P S (fields.toArray.mapM _ >>= _) h δ Q X
  refine semW_bind _ _ _ _ _ _ ?_
  rw [List.mapM_toArray]
  show SemW P S (Sem.bind (fields.mapM _) fun a => Sem.pure a.toArray) h δ _ X
  refine semW_bind _ _ _ _ _ _ ?_
  refine semW_places fields pl hp ?_
  show SemW P S (match Instr.fill (fun i => pl.toArray[i]?) z.cells parts.toList with | some cells => pure (.agg cells) | _ => stuck "build: no such field, or a part of the wrong size") h δ Q X
  rw [hf]
  exact hq

/-- The parts' values. -/
def evP (env : Env) : List (Nat × Operand) → Option (List (Nat × Value))
  | [] => some []
  | (i, x) :: l => match ev env x, evP env l with
    | some v, some vs => some ((i, v) :: vs)
    | _, _ => none

theorem evP_ok {ρ : Operand → Value} (hρ : ∀ x v, ev env x = some v → ρ x = v) : ∀ (ps : List (Nat × Operand)) (vs : List (Nat × Value)), evP env ps = some vs → ps.map (fun p => (p.1, ρ p.2)) = vs
  | [], vs, h => by simp only [evP, Option.some.injEq] at h; subst h; rfl
  | (i, x) :: l, vs, h => by
    simp only [evP] at h
    split at h
    · rename_i v ws h1 h2
      cases h
      simp only [List.map_cons, hρ _ _ h1, evP_ok hρ l ws h2]
    · cases h

/-- A struct put together out of parts. -/
theorem ER.buildS {t sz by_ : Nat} {z : Value} {pl : List (Nat × Nat)} [Inf P t sz by_ z] [Places P t pl] {ps : Array (Nat × Operand)} {parts : List (Nat × Value)} {cells : Array Value} (hw : wantE ops env g = some true) (hd : Nat.blt d n = true)
    (hp : evP env ps.toList = some parts) (hf : Instr.fill (fun i => pl.toArray[i]?) z.cells parts = some cells)
    (hn : ER P main S f n ops l k ((d, .agg cells) :: env) ds h δ R) : ER P main S f n ops (⟨some d, .build t ps, ty, pos, af, g⟩ :: l) k env ds h δ R := by
  refine ER.build (parts := parts.toArray) hw hd (fun ρ hρ => ?_) (fun Q X hq => semW_build hf hq) hn
  obtain ⟨ps⟩ := ps
  simp only [List.map_toArray]
  have := evP_ok hρ ps parts hp
  rw [← this]

theorem EK.back {todo : List Item} {e : Env} (hk : EK P main S f n todo e ds h δ R) (hs : subE e env) : EK P main S f n todo env ds h δ R := EK.sub hs hk

theorem ER.allocA {t sz by_ : Nat} {cs : Array Value} [Inf P t sz by_ (.agg cs)] (hw : wantE ops env g = some true) (hd : Nat.blt d n = true)
    (hn : ER P main S f n ops l k ((d, .pointer (some ⟨h.size, 0, none⟩)) :: env) ds (h.push (.cells cs t)) δ R) : ER P main S f n ops (⟨some d, .alloc t, ty, pos, af, g⟩ :: l) k env ds h δ R :=
  ER.alloc (z := .agg cs) hw hd hn

/-- A struct of two cells stored into a variable of its own. -/
theorem ER.storeT2 {t : Nat} [Aggr P t 2] {x y : Operand} {b e : Nat} {u v v1 v2 : Value} {cs : Array Value} (hb : h[b]? = some (.cells #[u, v] e (0, 0))) (hw : wantE ops env g = some true) (hx : ev env x = some (.pointer (some ⟨b, 0, none⟩))) (hy : ev env y = some (.agg cs)) (hcs : cs = #[v1, v2]) (h1 : OneCell v1) (h2 : OneCell v2) (hS : ∀ o, ¬ S.still δ.g ⟨b, o, none⟩)
    (hn : ER P main S f n ops l k env ds (h.setIfInBounds b (.cells #[v1, v2] e (0, 0))) δ R) : ER P main S f n ops (⟨none, .store t x y, ty, pos, af, g⟩ :: l) k env ds h δ R := by
  subst hcs
  refine ER.storeN (vs := [v1, v2]) hw hx hy rfl (by simp [h1, h2]) (fun j hj => ⟨?_, hfroz_of hb, hS _⟩) ?_
  · rcases j with _ | _ | j
    · exact ⟨_, hcell_of hb rfl⟩
    · exact ⟨_, hcell_of hb rfl⟩
    · exact absurd hj (by simp)
  · rw [hsetRow2 hb]; exact hn

theorem hrow2 {b e : Nat} {fz : Nat × Nat} {v1 v2 : Value} (hb : h[b]? = some (.cells #[v1, v2] e fz)) : hrow h b 0 [v1, v2] := fun i v hv => by
  rcases i with _ | _ | i
  · cases hv; exact hcell_of hb rfl
  · cases hv; exact hcell_of hb rfl
  · simp at hv

theorem EU.retCell2 {fn : Func} {t u : Tmp} {cT b e : Nat} [Aggr P cT 2] {fz : Nat × Nat} {v1 v2 x : Value} [IsFn P f fn] (hb : h[b]? = some (.cells #[v1, v2] e fz)) (hr : fn.results = #[.cell t cT, .tmp u]) (ht : look env t = some (.pointer (some ⟨b, 0, none⟩)))
    (hx : look env u = some x) (hR : R (.ret (.tuple #[.agg #[v1, v2], x])) h δ) : EU P main S f n .returning env [] h δ R :=
  EU.retCell (vs := [v1, v2]) hr ht rfl (hrow2 hb) hx hR

/-- One cell stored into a variable of its own. -/
theorem ER.store1O {t : Nat} [Scal P t] {x y : Operand} {b e : Nat} {u v : Value} (hb : h[b]? = some (.cells #[u] e (0, 0))) (hw : wantE ops env g = some true) (hx : ev env x = some (.pointer (some ⟨b, 0, none⟩))) (hy : ev env y = some v) (hv : OneCell v) (hS : ¬ S.still δ.g ⟨b, 0, none⟩)
    (hn : ER P main S f n ops l k env ds (h.setIfInBounds b (oneO v e)) δ R) : ER P main S f n ops (⟨none, .store t x y, ty, pos, af, g⟩ :: l) k env ds h δ R :=
  ER.store1 hw hx hy hv ⟨_, hcell_of hb rfl⟩ (hfroz_of hb) hS (by rw [hset_one hb]; exact hn)

/-- ... into the variable just made. -/
theorem ER.storeNew {t : Nat} [Scal P t] {x y : Operand} {e : Nat} {z u v : Value} {h0 : Hp} (hw : wantE ops env g = some true) (hx : ev env x = some (.pointer (some ⟨h0.size, 0, none⟩))) (hy : ev env y = some v) (hz : z.cells = #[u]) (hv : OneCell v) (hS : ¬ S.still δ.g ⟨h0.size, 0, none⟩)
    (hn : ER P main S f n ops l k env ds (h0.push (oneO v e)) δ R) : ER P main S f n ops (⟨none, .store t x y, ty, pos, af, g⟩ :: l) k env ds (h0.push (.cells z.cells e)) δ R := by
  have hb : (h0.push (.cells z.cells e))[h0.size]? = some (.cells #[u] e (0, 0)) := by rw [get_push_new, hz]
  exact ER.store1O hb hw hx hy hv hS (by rw [push_set]; exact hn)
/-- Two cells stored into the variable just made. -/
theorem ER.storeNew2 {t : Nat} [Aggr P t 2] {x y : Operand} {e : Nat} {u1 u2 v1 v2 : Value} {cs : Array Value} {h0 : Hp} (hw : wantE ops env g = some true) (hx : ev env x = some (.pointer (some ⟨h0.size, 0, none⟩))) (hy : ev env y = some (.agg cs)) (hcs : cs = #[v1, v2]) (h1 : OneCell v1) (h2 : OneCell v2) (hS : ∀ o, ¬ S.still δ.g ⟨h0.size, o, none⟩)
    (hn : ER P main S f n ops l k env ds (h0.push (.cells #[v1, v2] e)) δ R) : ER P main S f n ops (⟨none, .store t x y, ty, pos, af, g⟩ :: l) k env ds (h0.push (.cells #[u1, u2] e)) δ R :=
  ER.storeT2 (get_push_new _ _) hw hx hy hcs h1 h2 hS (by rw [push_set]; exact hn)

theorem ER.makeF {fn : Fn} {first cap : Array Operand} {fl cl : List Value} {fv cv : Array Value} (hw : wantE ops env g = some true) (hd : Nat.blt d n = true) (hf : evL env first.toList = some fl) (hc : evL env cap.toList = some cl) (hfv : fl.toArray = fv) (hcv : cl.toArray = cv)
    (hn : ER P main S f n ops l k ((d, .func fn fv cv) :: env) ds h δ R) : ER P main S f n ops (⟨some d, .makeFunc fn first cap, ty, pos, af, g⟩ :: l) k env ds h δ R :=
  ER.makeFunc hw hd (fun _ hρ => ⟨(map_ofL hρ hf).trans hfv, (map_ofL hρ hc).trans hcv⟩) hn
end
end Go.TJ
