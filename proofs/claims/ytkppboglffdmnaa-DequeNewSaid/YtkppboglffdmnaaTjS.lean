/- Own theory, part 8: single operations said by their meaning (for drawn regions), indexing, lengths, results that lie in memory. Conditions: as the rules say. -/
import Derived.Test.YtkppboglffdmnaaTjD
namespace Go.TJ
open Go Go.Conc
variable {Γ : Type}

section
variable {P : Program} {S : Sit Γ} {h : Hp} {δ : Ix Γ} {ρ : Operand → Value} {dst : Option Nat} {ty : TypeId} {pos : String} {af : Array Edge} {g : Option (Nat × Bool)} {Q : Next → Hp → Ix Γ → Prop} {X : Value → Hp → Ix Γ → Prop}

theorem sem_move {x : Operand} {v : Value} (hx : ρ x = v) (hq : Q (.value v) h δ) : SemW P S (execOp ρ ⟨dst, .move x, ty, pos, af, g⟩) h δ Q X := by
  show Q (.value (ρ x)) h δ; rw [hx]; exact hq
theorem sem_assign {x : Operand} {v : Value} (hx : ρ x = v) (hq : Q (.value v) h δ) : SemW P S (execOp ρ ⟨dst, .assign x, ty, pos, af, g⟩) h δ Q X := by
  show Q (.value (ρ x)) h δ; rw [hx]; exact hq
theorem sem_nilCheck {x : Operand} {a : Addr} (hx : ρ x = .pointer (some a)) (hq : Q (.value (.pointer (some a))) h δ) : SemW P S (execOp ρ ⟨dst, .nilCheck x, ty, pos, af, g⟩) h δ Q X := by
  unfold execOp; simp only [hx]; exact hq
theorem sem_fieldAddr {s fld off : Nat} [FieldOff P s fld off] {x : Operand} {b o : Nat} (hx : ρ x = .pointer (some ⟨b, o, none⟩)) (hq : Q (.value (.pointer (some ⟨b, o + off, none⟩))) h δ) : SemW P S (execOp ρ ⟨dst, .fieldAddr s x fld, ty, pos, af, g⟩) h δ Q X := by
  show SemW P S (Instr.fieldAt s (ρ x) fld >>= fun v => pure (.value v)) h δ Q X
  rw [hx]
  exact semW_bind _ _ _ _ _ _ (semW_fieldAt hq)
theorem sem_load1 {t : TypeId} [Scal P t] {x : Operand} {a : Addr} {v : Value} (hx : ρ x = .pointer (some a)) (hc : hcell h a = some v) (hq : Q (.value v) h δ) : SemW P S (execOp ρ ⟨dst, .load t x, ty, pos, af, g⟩) h δ Q X := by
  show SemW P S ((Instr.sureAddr (ρ x) >>= fun a => loadVar t a) >>= fun v => pure (.value v)) h δ Q X
  rw [hx]
  exact semW_bind _ _ _ _ _ _ (semW_pureBind (semW_loadVar1 hc hq))
theorem sem_loadN {t m : Nat} [Aggr P t m] {x : Operand} {b o : Nat} {vs : List Value} (hx : ρ x = .pointer (some ⟨b, o, none⟩)) (hm : vs.length = m) (hc : hrow h b o vs) (hq : Q (.value (.agg vs.toArray)) h δ) : SemW P S (execOp ρ ⟨dst, .load t x, ty, pos, af, g⟩) h δ Q X := by
  show SemW P S ((Instr.sureAddr (ρ x) >>= fun a => loadVar t a) >>= fun v => pure (.value v)) h δ Q X
  rw [hx]
  exact semW_bind _ _ _ _ _ _ (semW_pureBind (semW_loadVarN hm hc hq))
theorem sem_store1 {t : TypeId} [Scal P t] {x y : Operand} {b o : Nat} {v : Value} (hx : ρ x = .pointer (some ⟨b, o, none⟩)) (hy : ρ y = v) (hv : OneCell v)
    (hc : ∃ u, hcell h ⟨b, o, none⟩ = some u) (hf : hfroz h ⟨b, o, none⟩ = false) (hS : ¬ S.still δ.g ⟨b, o, none⟩) (hq : Q .skip (hset h ⟨b, o, none⟩ v) δ) : SemW P S (execOp ρ ⟨dst, .store t x y, ty, pos, af, g⟩) h δ Q X := by
  show SemW P S ((Instr.sureAddr (ρ x) >>= fun a => storeVar t a (ρ y)) >>= fun _ => pure .skip) h δ Q X
  rw [hx, hy]
  exact semW_bind _ _ _ _ _ _ (semW_pureBind (semW_storeVar1 hv hc hf hS hq))
theorem sem_storeN {t m : Nat} [Aggr P t m] {x y : Operand} {b o : Nat} {vs : List Value} (hx : ρ x = .pointer (some ⟨b, o, none⟩)) (hy : ρ y = .agg vs.toArray) (hm : vs.length = m) (hv : ∀ v ∈ vs, OneCell v)
    (hc : ∀ j, j < m → (∃ u, hcell h ⟨b, o + j, none⟩ = some u) ∧ hfroz h ⟨b, o + j, none⟩ = false ∧ ¬ S.still δ.g ⟨b, o + j, none⟩) (hq : Q .skip (hsetRow h b o vs) δ) : SemW P S (execOp ρ ⟨dst, .store t x y, ty, pos, af, g⟩) h δ Q X := by
  show SemW P S ((Instr.sureAddr (ρ x) >>= fun a => storeVar t a (ρ y)) >>= fun _ => pure .skip) h δ Q X
  rw [hx, hy]
  exact semW_bind _ _ _ _ _ _ (semW_pureBind (semW_storeVarN hm hv hc hq))
theorem sem_notB {x : Operand} {b : Bool} {t : TypeId} (hx : ρ x = .bool b) (hq : Q (.value (.bool (!b))) h δ) : SemW P S (execOp ρ ⟨dst, .unOp .not t x, ty, pos, af, g⟩) h δ Q X := by
  show SemW P S (Op.unary .not (ρ x) >>= fun v => pure (.value v)) h δ Q X
  rw [hx]
  exact hq
theorem sem_binI {op : BinOp} {t t2 : TypeId} {x y : Operand} {kd : IntKind} {a b : Int} {v : Value} (hx : ρ x = .int kd a) (hy : ρ y = .int kd b) (hv : binOp op t (.int kd a) (.int kd b) = pure v) (hq : Q (.value v) h δ) :
    SemW P S (execOp ρ ⟨dst, .binOp op t x y t2, ty, pos, af, g⟩) h δ Q X := semW_binOp (by
    rw [hx, hy, eqGuard_int, hv]
    exact hq)
theorem sem_add {t t2 : TypeId} {x y : Operand} {kd : IntKind} {a b r : Int} (hx : ρ x = .int kd a) (hy : ρ y = .int kd b) (hr : kd.wrap (a + b) = r) (hq : Q (.value (.int kd r)) h δ) :
    SemW P S (execOp ρ ⟨dst, .binOp .add t x y t2, ty, pos, af, g⟩) h δ Q X := sem_binI hx hy (by rw [binOp_add, hr]) hq
theorem sem_sub {t t2 : TypeId} {x y : Operand} {kd : IntKind} {a b r : Int} (hx : ρ x = .int kd a) (hy : ρ y = .int kd b) (hr : kd.wrap (a - b) = r) (hq : Q (.value (.int kd r)) h δ) :
    SemW P S (execOp ρ ⟨dst, .binOp .sub t x y t2, ty, pos, af, g⟩) h δ Q X := sem_binI hx hy (by rw [binOp_sub, hr]) hq
theorem sem_pick {c x y : Operand} {b : Bool} {v : Value} (hc : ρ c = .bool b) (hx : (if b then ρ x else ρ y) = v) (hq : Q (.value v) h δ) : SemW P S (execOp ρ ⟨dst, .pick c x y, ty, pos, af, g⟩) h δ Q X := by
  show SemW P S (asBool (ρ c) >>= fun b => pure (.value (if b then ρ x else ρ y))) h δ Q X
  rw [hc]
  show Q (.value (if b then ρ x else ρ y)) h δ
  rw [hx]; exact hq

theorem Addr.add_z (b o n : Nat) : (⟨b, o, none⟩ : Addr).add n = ⟨b, o + n, none⟩ := add_eq b o n

theorem semW_indexArr {t len e sz by_ : Nat} {z : Value} [u : Und P t (.array len e)] [i : Inf P e sz by_ z] {b o : Nat} {kd : IntKind} {ix : Int} (h0 : 0 ≤ ix) (h1 : ix < len) {Q : Value → Hp → Ix Γ → Prop} {X : Value → Hp → Ix Γ → Prop}
    (hq : Q (.pointer (some ⟨b, o + ix.toNat * sz, none⟩)) h δ) : SemW P S (Instr.indexAt t (.pointer (some ⟨b, o, none⟩)) (.int kd ix)) h δ Q X := by
  unfold Instr.indexAt
  refine semW_pureBind ?_
  refine semW_underlying u.out ?_
  show SemW P S (underlying t >>= _) h δ Q X
  refine semW_underlying u.out ?_
  obtain ⟨inf, g1, g2, g3, g4⟩ := i.get
  show SemW P S (if 0 ≤ ix ∧ ix < len then _ else _) h δ Q X
  rw [if_pos ⟨h0, h1⟩]
  refine semW_sizeOf g1 ?_
  rw [g2, Addr.add_z]
  exact hq

theorem semW_indexSl {t e sz by_ len cap : Nat} {z : Value} [u : Und P t (.slice e)] [i : Inf P e sz by_ z] {b o : Nat} {kd : IntKind} {ix : Int} (h0 : 0 ≤ ix) (h1 : ix < len) {Q : Value → Hp → Ix Γ → Prop} {X : Value → Hp → Ix Γ → Prop}
    (hq : Q (.pointer (some ⟨b, o + ix.toNat * sz, none⟩)) h δ) : SemW P S (Instr.indexAt t (.slice (some ⟨b, o, none⟩) len cap) (.int kd ix)) h δ Q X := by
  unfold Instr.indexAt
  refine semW_pureBind ?_
  refine semW_underlying u.out ?_
  show SemW P S (underlying t >>= _) h δ Q X
  refine semW_underlying u.out ?_
  obtain ⟨inf, g1, g2, g3, g4⟩ := i.get
  show SemW P S (if 0 ≤ ix ∧ ix < len then _ else _) h δ Q X
  rw [if_pos ⟨h0, h1⟩]
  refine semW_sizeOf g1 ?_
  rw [g2, Addr.add_z]
  exact hq

theorem sem_indexArr {t len e sz by_ : Nat} {z : Value} [Und P t (.array len e)] [Inf P e sz by_ z] {x y : Operand} {b o : Nat} {kd : IntKind} {ix : Int} (hx : ρ x = .pointer (some ⟨b, o, none⟩)) (hy : ρ y = .int kd ix) (h0 : 0 ≤ ix) (h1 : ix < len)
    (hq : Q (.value (.pointer (some ⟨b, o + ix.toNat * sz, none⟩))) h δ) : SemW P S (execOp ρ ⟨dst, .indexAddr t x y, ty, pos, af, g⟩) h δ Q X := by
  show SemW P S (Instr.indexAt t (ρ x) (ρ y) >>= fun v => pure (.value v)) h δ Q X
  rw [hx, hy]
  exact semW_bind _ _ _ _ _ _ (semW_indexArr h0 h1 hq)
theorem sem_indexSl {t e sz by_ len cap : Nat} {z : Value} [Und P t (.slice e)] [Inf P e sz by_ z] {x y : Operand} {b o : Nat} {kd : IntKind} {ix : Int} (hx : ρ x = .slice (some ⟨b, o, none⟩) len cap) (hy : ρ y = .int kd ix) (h0 : 0 ≤ ix) (h1 : ix < len)
    (hq : Q (.value (.pointer (some ⟨b, o + ix.toNat * sz, none⟩))) h δ) : SemW P S (execOp ρ ⟨dst, .indexAddr t x y, ty, pos, af, g⟩) h δ Q X := by
  show SemW P S (Instr.indexAt t (ρ x) (ρ y) >>= fun v => pure (.value v)) h δ Q X
  rw [hx, hy]
  exact semW_bind _ _ _ _ _ _ (semW_indexSl h0 h1 hq)

theorem sem_builtin {b : Builtin} {args : Array Operand} {ats : Array TypeId} {vs : Array Value} (ha : args.map ρ = vs) (hq : ∀ cs, SemW P S (builtin b ats ty cs vs) h δ Q X) :
    SemW P S (execOp ρ ⟨dst, .call { callee := .builtin b, args, argTypes := ats }, ty, pos, af, g⟩) h δ Q X := by
  show SemW P S (resolve ρ { callee := .builtin b, args, argTypes := ats } ty >>= fun d => invoke d.target d.args) h δ Q X
  unfold resolve
  dsimp only
  rw [ha]
  exact hq _

theorem sem_lenSl {x : Operand} {t e : TypeId} {ats : Array TypeId} [u : Und P t (.slice e)] {a : Option Addr} {len cap : Nat} (hat : ats[0]? = some t) (hx : ρ x = .slice a len cap) (hq : Q (.value (.int .i64 len)) h δ) :
    SemW P S (execOp ρ ⟨dst, .call { callee := .builtin .len, args := #[x], argTypes := ats }, ty, pos, af, g⟩) h δ Q X := by
  refine sem_builtin (vs := #[.slice a len cap]) (by simp [hx]) fun cs => ?_
  show SemW P S (Builtin.len_ ats ty #[.slice a len cap] >>= fun v => pure (.value v)) h δ Q X
  refine semW_bind _ _ _ _ _ _ ?_
  unfold Builtin.len_
  simp only [hat]
  show SemW P S (underlying t >>= _) h δ _ X
  exact semW_underlying u.out hq

theorem sem_min {x y : Operand} {ats : Array TypeId} {kd : IntKind} {a b r : Int} (hx : ρ x = .int kd a) (hy : ρ y = .int kd b) (hr : (if b < a then b else a) = r) (hq : Q (.value (.int kd r)) h δ) :
    SemW P S (execOp ρ ⟨dst, .call { callee := .builtin .min, args := #[x, y], argTypes := ats }, ty, pos, af, g⟩) h δ Q X := by
  subst hr
  exact sem_builtin (vs := #[.int kd a, .int kd b]) (by simp [hx, hy]) fun cs => hq
theorem sem_max {x y : Operand} {ats : Array TypeId} {kd : IntKind} {a b r : Int} (hx : ρ x = .int kd a) (hy : ρ y = .int kd b) (hr : (if b > a then b else a) = r) (hq : Q (.value (.int kd r)) h δ) :
    SemW P S (execOp ρ ⟨dst, .call { callee := .builtin .max, args := #[x, y], argTypes := ats }, ty, pos, af, g⟩) h δ Q X := by
  subst hr
  exact sem_builtin (vs := #[.int kd a, .int kd b]) (by simp [hx, hy]) fun cs => hq
end

section
variable {P : Program} {main : Bool} {S : Sit Γ} {f : FuncId} {n : Nat} {k : List Item} {env : Env} {ds : List Deferred} {h : Hp} {δ : Ix Γ} {R : Post Γ}
variable {ops : Array Oper} {l : List Oper} {d : Nat} {ty : TypeId} {pos : String} {af : Array Edge} {g : Option (Nat × Bool)}

theorem ER.indexArr {t len e sz by_ : Nat} {z : Value} [Und P t (.array len e)] [Inf P e sz by_ z] {x y : Operand} {b o : Nat} {kd : IntKind} {ix : Int} (hw : wantE ops env g = some true) (hd : Nat.blt d n = true) (hx : ev env x = some (.pointer (some ⟨b, o, none⟩))) (hy : ev env y = some (.int kd ix)) (h0 : 0 ≤ ix) (h1 : ix < len)
    (hn : ER P main S f n ops l k ((d, .pointer (some ⟨b, o + ix.toNat * sz, none⟩)) :: env) ds h δ R) : ER P main S f n ops (⟨some d, .indexAddr t x y, ty, pos, af, g⟩ :: l) k env ds h δ R :=
  ER.to hw hd (fun _ _ _ hρ hq => sem_indexArr (hρ _ _ hx) (hρ _ _ hy) h0 h1 hq) hn
theorem ER.indexSl {t e sz by_ len cap : Nat} {z : Value} [Und P t (.slice e)] [Inf P e sz by_ z] {x y : Operand} {b o : Nat} {kd : IntKind} {ix : Int} (hw : wantE ops env g = some true) (hd : Nat.blt d n = true) (hx : ev env x = some (.slice (some ⟨b, o, none⟩) len cap)) (hy : ev env y = some (.int kd ix)) (h0 : 0 ≤ ix) (h1 : ix < len)
    (hn : ER P main S f n ops l k ((d, .pointer (some ⟨b, o + ix.toNat * sz, none⟩)) :: env) ds h δ R) : ER P main S f n ops (⟨some d, .indexAddr t x y, ty, pos, af, g⟩ :: l) k env ds h δ R :=
  ER.to hw hd (fun _ _ _ hρ hq => sem_indexSl (hρ _ _ hx) (hρ _ _ hy) h0 h1 hq) hn
theorem ER.lenSl {x : Operand} {t e : TypeId} {ats : Array TypeId} [Und P t (.slice e)] {a : Option Addr} {len cap : Nat} (hw : wantE ops env g = some true) (hd : Nat.blt d n = true) (hat : ats[0]? = some t) (hx : ev env x = some (.slice a len cap))
    (hn : ER P main S f n ops l k ((d, .int .i64 len) :: env) ds h δ R) : ER P main S f n ops (⟨some d, .call { callee := .builtin .len, args := #[x], argTypes := ats }, ty, pos, af, g⟩ :: l) k env ds h δ R :=
  ER.to hw hd (fun _ _ _ hρ hq => sem_lenSl hat (hρ _ _ hx) hq) hn
theorem ER.min {x y : Operand} {ats : Array TypeId} {kd : IntKind} {a b r : Int} (hw : wantE ops env g = some true) (hd : Nat.blt d n = true) (hx : ev env x = some (.int kd a)) (hy : ev env y = some (.int kd b)) (hr : (if b < a then b else a) = r)
    (hn : ER P main S f n ops l k ((d, .int kd r) :: env) ds h δ R) : ER P main S f n ops (⟨some d, .call { callee := .builtin .min, args := #[x, y], argTypes := ats }, ty, pos, af, g⟩ :: l) k env ds h δ R :=
  ER.to hw hd (fun _ _ _ hρ hq => sem_min (hρ _ _ hx) (hρ _ _ hy) hr hq) hn
theorem ER.max {x y : Operand} {ats : Array TypeId} {kd : IntKind} {a b r : Int} (hw : wantE ops env g = some true) (hd : Nat.blt d n = true) (hx : ev env x = some (.int kd a)) (hy : ev env y = some (.int kd b)) (hr : (if b > a then b else a) = r)
    (hn : ER P main S f n ops l k ((d, .int kd r) :: env) ds h δ R) : ER P main S f n ops (⟨some d, .call { callee := .builtin .max, args := #[x, y], argTypes := ats }, ty, pos, af, g⟩ :: l) k env ds h δ R :=
  ER.to hw hd (fun _ _ _ hρ hq => sem_max (hρ _ _ hx) (hρ _ _ hy) hr hq) hn

/-! ### results that lie in memory -/

theorem runT_loadCellsFrom {b off : Nat} {w : World} : ∀ (vs : List Value) (i : Nat) (acc : Array Value) (es : Array Event), (∀ (j : Nat) (v : Value), vs[j]? = some v → hcell w.heap ⟨b, off + i + j, none⟩ = some v) →
    ∃ es', (loadCellsFrom ⟨b, off, none⟩ i vs.length acc).runT P w es = (.ok (acc ++ vs.toArray) w, es ++ es') ∧ ∀ e ∈ es', ∃ a, e = (⟨.cell a, false, false⟩ : Event) := by
  intro vs
  induction vs with
  | nil => intro i acc es _; exact ⟨#[], by simp [loadCellsFrom], by simp⟩
  | cons v vs ih =>
    intro i acc es hr
    have h0 : w.cell? ⟨b, off + i, none⟩ = some v := hr 0 v rfl
    obtain ⟨es', h1, h2⟩ := ih (i + 1) (acc.push v) (es.push ⟨.cell ⟨b, off + i, none⟩, false, false⟩) (fun j x hx => by
      have := hr (j + 1) x hx
      rw [show off + (i + 1) + j = off + i + (j + 1) by omega]; exact this)
    refine ⟨#[⟨.cell ⟨b, off + i, none⟩, false, false⟩] ++ es', ?_, fun e he => ?_⟩
    · simp only [List.length_cons, loadCellsFrom]
      change Sem.runT P (Sem.load .plain ((⟨b, off, none⟩ : Addr).add i) fun v => loadCellsFrom ⟨b, off, none⟩ (i + 1) vs.length (acc.push v)) w es = _
      rw [Addr.add_z]
      simp only [Sem.runT, h0]
      have e1 : ((Mode.plain == Mode.atomic) : Bool) = false := rfl
      rw [e1, h1, Array.push_eq_append (as := es), Array.append_assoc]
      simp
    · rcases Array.mem_append.1 he with x | x
      · simp at x; exact ⟨_, x⟩
      · exact h2 e x

theorem runT_bind {α β : Type} (s : Sem α) (f : α → Sem β) : ∀ (w w' : World) (es es' : Array Event) (a : α), s.runT P w es = (.ok a w', es') → (Sem.bind s f).runT P w es = (f a).runT P w' es' := by
  intro w w' es es' a hs
  have h1 := congrArg Prod.fst hs
  have h2 := congrArg Prod.snd hs
  simp only [Sem.runT_eq] at h1 h2 ⊢
  have e1 : (Sem.bind s f) = (s >>= f) := rfl
  rw [e1]
  simp [h1, h2, Result.andThen, Result.evThen]

theorem runT_loadVarN {t m : Nat} [s : Aggr P t m] {b off : Nat} {vs : List Value} {w : World} (hm : vs.length = m) (hr : hrow w.heap b off vs) (es : Array Event) :
    ∃ es', (loadVar t ⟨b, off, none⟩).runT P w es = (.ok (.agg vs.toArray) w, es ++ es') ∧ ∀ e ∈ es', ∃ a, e = (⟨.cell a, false, false⟩ : Event) := by
  obtain ⟨d, hu, hd, inf, hi, hsz⟩ := s.out
  obtain ⟨es', h1, h2⟩ := runT_loadCellsFrom (P := P) (w := w) (b := b) (off := off) vs 0 #[] es (fun j v hv => by simpa using hr j v hv)
  refine ⟨es', ?_, h2⟩
  have hA : Sem.runT P (isAgg t) w es = (.ok true w, es) := by
    unfold isAgg underlying
    change Sem.runT P (Sem.bind (Sem.bind (Sem.program Sem.pure) _) _) w es = _
    simp only [Sem.bind, Sem.runT, hu]
    cases d <;> first | rfl | cases hd
  have hZ : Sem.runT P (sizeOf t) w es = (.ok m w, es) := by
    unfold sizeOf typeInfo
    change Sem.runT P (Sem.bind (Sem.bind (Sem.program Sem.pure) _) _) w es = _
    simp only [Sem.bind, Sem.runT, hi]
    subst hsz
    rfl
  unfold loadVar
  change Sem.runT P (Sem.bind (isAgg t) _) w es = _
  rw [runT_bind _ _ _ _ _ _ _ hA]
  simp only [if_true]
  change Sem.runT P (Sem.bind (sizeOf t) _) w es = _
  rw [runT_bind _ _ _ _ _ _ _ hZ]
  change Sem.runT P (Sem.bind (loadCells ⟨b, off, none⟩ m) fun c => Sem.pure (Value.agg c)) w es = _
  unfold loadCells
  rw [← hm, runT_bind _ _ _ _ _ _ _ h1]
  simp [Sem.runT]

theorem reads_cell_tmp {fn : Func} {tmps : Array Value} {t : Tmp} {cT m : Nat} {u : Tmp} [Aggr P cT m] {b off : Nat} {vs : List Value} {x : Value} (hr : fn.results = #[.cell t cT, .tmp u]) (ht : tmps.getD t undef = .pointer (some ⟨b, off, none⟩)) (hm : vs.length = m) (hc : hrow h b off vs)
    (hx : tmps.getD u undef = x) : Reads P fn tmps h (.tuple #[.agg vs.toArray, x]) := by
  intro w hw
  subst hw
  obtain ⟨es', h1, h2⟩ := runT_loadVarN (P := P) (t := cT) hm hc #[]
  refine ⟨es', ?_, h2⟩
  have e1 : Sem.run P (loadVar cT ⟨b, off, none⟩) w = .ok (.agg vs.toArray) w := by simpa using congrArg Prod.fst h1
  have e2 : Sem.events P (loadVar cT ⟨b, off, none⟩) w #[] = es' := by simpa using congrArg Prod.snd h1
  have ha : asAddr (.pointer (some ⟨b, off, none⟩)) = pure ⟨b, off, none⟩ := rfl
  have ht' : tmps[t]?.getD undef = .pointer (some ⟨b, off, none⟩) := by rw [← ht, Array.getD_eq_getD_getElem?]
  have hx' : tmps[u]?.getD undef = x := by rw [← hx, Array.getD_eq_getD_getElem?]
  simp [results, hr, ht', hx', ha, e1, e2, Result.andThen]

theorem EU.retCell {fn : Func} {t u : Tmp} {cT m : Nat} [Aggr P cT m] {b off : Nat} {vs : List Value} {x : Value} [hf : IsFn P f fn] (hr : fn.results = #[.cell t cT, .tmp u]) (ht : look env t = some (.pointer (some ⟨b, off, none⟩))) (hm : vs.length = m) (hc : hrow h b off vs)
    (hx : look env u = some x) (hR : R (.ret (.tuple #[.agg vs.toArray, x])) h δ) : EU P main S f n .returning env [] h δ R :=
  fun _ ka => WU.ret0 ka.defers hf.out (reads_cell_tmp hr (getD_of_look ka ht) hm hc (getD_of_look ka hx)) hR
end

/-! ### operations of a drawn region that are taken first -/
section
variable {P : Program} {main : Bool} {S : Sit Γ} {f : FuncId} {n : Nat} {k : List Item} {env : Env} {ds : List Deferred} {h : Hp} {δ : Ix Γ} {R : Post Γ}
variable {ops : Array Oper} {d : Nat} {ty : TypeId} {pos : String} {af : Array Edge} {g : Option (Nat × Bool)} {Z : Hp → Prop} {zz : Nat} {m : Nat} {listed l' : Array Bool}

theorem EA.tMove (i : Nat) {x : Operand} {v : Value} (hi : ops[i]? = some ⟨some d, .move x, ty, pos, af, g⟩) (hs : (Region.noSelect ops && TJ.Region.pinned ops zz i) = true) (hf : Region.free .any ops listed i = true) (hr : (Region.ready .any ops listed).contains i = true) (hl : listed.setIfInBounds i true = l')
    (hd : Nat.blt d n = true) (hw : wantE ops env g = some true) (hx : ev env x = some v) (hZ : Z h)
    (hn : EA P main S f n ops Z zz m l' k ((d, v) :: env) ds h δ R) : EA P main S f n ops Z zz (m + 1) listed k env ds h δ R :=
  EA.take i hi hs hf hr hl hd hw (fun _ _ _ _ _ hρ _ hq => sem_move (hρ _ _ hx) hq) hZ hn
theorem EA.tAssign (i : Nat) {x : Operand} {v : Value} (hi : ops[i]? = some ⟨some d, .assign x, ty, pos, af, g⟩) (hs : (Region.noSelect ops && TJ.Region.pinned ops zz i) = true) (hf : Region.free .any ops listed i = true) (hr : (Region.ready .any ops listed).contains i = true) (hl : listed.setIfInBounds i true = l')
    (hd : Nat.blt d n = true) (hw : wantE ops env g = some true) (hx : ev env x = some v) (hZ : Z h)
    (hn : EA P main S f n ops Z zz m l' k ((d, v) :: env) ds h δ R) : EA P main S f n ops Z zz (m + 1) listed k env ds h δ R :=
  EA.take i hi hs hf hr hl hd hw (fun _ _ _ _ _ hρ _ hq => sem_assign (hρ _ _ hx) hq) hZ hn
theorem EA.tNil (i : Nat) {x : Operand} {a : Addr} (hi : ops[i]? = some ⟨some d, .nilCheck x, ty, pos, af, g⟩) (hs : (Region.noSelect ops && TJ.Region.pinned ops zz i) = true) (hf : Region.free .any ops listed i = true) (hr : (Region.ready .any ops listed).contains i = true) (hl : listed.setIfInBounds i true = l')
    (hd : Nat.blt d n = true) (hw : wantE ops env g = some true) (hx : ev env x = some (.pointer (some a))) (hZ : Z h)
    (hn : EA P main S f n ops Z zz m l' k ((d, .pointer (some a)) :: env) ds h δ R) : EA P main S f n ops Z zz (m + 1) listed k env ds h δ R :=
  EA.take i hi hs hf hr hl hd hw (fun _ _ _ _ _ hρ _ hq => sem_nilCheck (hρ _ _ hx) hq) hZ hn
theorem EA.tField (i : Nat) {s fld off : Nat} [FieldOff P s fld off] {x : Operand} {b o : Nat} (hi : ops[i]? = some ⟨some d, .fieldAddr s x fld, ty, pos, af, g⟩) (hs : (Region.noSelect ops && TJ.Region.pinned ops zz i) = true) (hf : Region.free .any ops listed i = true) (hr : (Region.ready .any ops listed).contains i = true) (hl : listed.setIfInBounds i true = l')
    (hd : Nat.blt d n = true) (hw : wantE ops env g = some true) (hx : ev env x = some (.pointer (some ⟨b, o, none⟩))) (hZ : Z h)
    (hn : EA P main S f n ops Z zz m l' k ((d, .pointer (some ⟨b, o + off, none⟩)) :: env) ds h δ R) : EA P main S f n ops Z zz (m + 1) listed k env ds h δ R :=
  EA.take i hi hs hf hr hl hd hw (fun _ _ _ _ _ hρ _ hq => sem_fieldAddr (hρ _ _ hx) hq) hZ hn
theorem EA.tNot (i : Nat) {x : Operand} {b : Bool} {t : TypeId} (hi : ops[i]? = some ⟨some d, .unOp .not t x, ty, pos, af, g⟩) (hs : (Region.noSelect ops && TJ.Region.pinned ops zz i) = true) (hf : Region.free .any ops listed i = true) (hr : (Region.ready .any ops listed).contains i = true) (hl : listed.setIfInBounds i true = l')
    (hd : Nat.blt d n = true) (hw : wantE ops env g = some true) (hx : ev env x = some (.bool b)) (hZ : Z h)
    (hn : EA P main S f n ops Z zz m l' k ((d, .bool (!b)) :: env) ds h δ R) : EA P main S f n ops Z zz (m + 1) listed k env ds h δ R :=
  EA.take i hi hs hf hr hl hd hw (fun _ _ _ _ _ hρ _ hq => sem_notB (hρ _ _ hx) hq) hZ hn
theorem EA.tLoad (i : Nat) {t : TypeId} [Scal P t] {x : Operand} {a : Addr} {v : Value} (hi : ops[i]? = some ⟨some d, .load t x, ty, pos, af, g⟩) (hs : (Region.noSelect ops && TJ.Region.pinned ops zz i) = true) (hf : Region.free .any ops listed i = true) (hr : (Region.ready .any ops listed).contains i = true) (hl : listed.setIfInBounds i true = l')
    (hd : Nat.blt d n = true) (hw : wantE ops env g = some true) (hx : ev env x = some (.pointer (some a))) (hc : ∀ h, Z h → hcell h a = some v) (hZ : Z h)
    (hn : EA P main S f n ops Z zz m l' k ((d, v) :: env) ds h δ R) : EA P main S f n ops Z zz (m + 1) listed k env ds h δ R :=
  EA.take i hi hs hf hr hl hd hw (fun _ _ _ _ _ hρ hz hq => sem_load1 (hρ _ _ hx) (hc _ hz) hq) hZ hn
theorem EA.tLoadN (i : Nat) {t q : Nat} [Aggr P t q] {x : Operand} {b o : Nat} {vs : List Value} (hi : ops[i]? = some ⟨some d, .load t x, ty, pos, af, g⟩) (hs : (Region.noSelect ops && TJ.Region.pinned ops zz i) = true) (hf : Region.free .any ops listed i = true) (hr : (Region.ready .any ops listed).contains i = true) (hl : listed.setIfInBounds i true = l')
    (hd : Nat.blt d n = true) (hw : wantE ops env g = some true) (hx : ev env x = some (.pointer (some ⟨b, o, none⟩))) (hm : vs.length = q) (hc : ∀ h, Z h → hrow h b o vs) (hZ : Z h)
    (hn : EA P main S f n ops Z zz m l' k ((d, .agg vs.toArray) :: env) ds h δ R) : EA P main S f n ops Z zz (m + 1) listed k env ds h δ R :=
  EA.take i hi hs hf hr hl hd hw (fun _ _ _ _ _ hρ hz hq => sem_loadN (hρ _ _ hx) hm (hc _ hz) hq) hZ hn
theorem EA.tAdd (i : Nat) {t t2 : TypeId} {x y : Operand} {kd : IntKind} {a b r : Int} (hi : ops[i]? = some ⟨some d, .binOp .add t x y t2, ty, pos, af, g⟩) (hs : (Region.noSelect ops && TJ.Region.pinned ops zz i) = true) (hf : Region.free .any ops listed i = true) (hr : (Region.ready .any ops listed).contains i = true) (hl : listed.setIfInBounds i true = l')
    (hd : Nat.blt d n = true) (hw : wantE ops env g = some true) (hx : ev env x = some (.int kd a)) (hy : ev env y = some (.int kd b)) (hrr : kd.wrap (a + b) = r) (hZ : Z h)
    (hn : EA P main S f n ops Z zz m l' k ((d, .int kd r) :: env) ds h δ R) : EA P main S f n ops Z zz (m + 1) listed k env ds h δ R :=
  EA.take i hi hs hf hr hl hd hw (fun _ _ _ _ _ hρ _ hq => sem_add (hρ _ _ hx) (hρ _ _ hy) hrr hq) hZ hn
theorem EA.tSub (i : Nat) {t t2 : TypeId} {x y : Operand} {kd : IntKind} {a b r : Int} (hi : ops[i]? = some ⟨some d, .binOp .sub t x y t2, ty, pos, af, g⟩) (hs : (Region.noSelect ops && TJ.Region.pinned ops zz i) = true) (hf : Region.free .any ops listed i = true) (hr : (Region.ready .any ops listed).contains i = true) (hl : listed.setIfInBounds i true = l')
    (hd : Nat.blt d n = true) (hw : wantE ops env g = some true) (hx : ev env x = some (.int kd a)) (hy : ev env y = some (.int kd b)) (hrr : kd.wrap (a - b) = r) (hZ : Z h)
    (hn : EA P main S f n ops Z zz m l' k ((d, .int kd r) :: env) ds h δ R) : EA P main S f n ops Z zz (m + 1) listed k env ds h δ R :=
  EA.take i hi hs hf hr hl hd hw (fun _ _ _ _ _ hρ _ hq => sem_sub (hρ _ _ hx) (hρ _ _ hy) hrr hq) hZ hn
theorem EA.tBinI (i : Nat) {op : BinOp} {t t2 : TypeId} {x y : Operand} {kd : IntKind} {a b : Int} {v : Value} (hi : ops[i]? = some ⟨some d, .binOp op t x y t2, ty, pos, af, g⟩) (hs : (Region.noSelect ops && TJ.Region.pinned ops zz i) = true) (hf : Region.free .any ops listed i = true) (hr : (Region.ready .any ops listed).contains i = true) (hl : listed.setIfInBounds i true = l')
    (hd : Nat.blt d n = true) (hw : wantE ops env g = some true) (hx : ev env x = some (.int kd a)) (hy : ev env y = some (.int kd b)) (hv : binOp op t (.int kd a) (.int kd b) = pure v) (hZ : Z h)
    (hn : EA P main S f n ops Z zz m l' k ((d, v) :: env) ds h δ R) : EA P main S f n ops Z zz (m + 1) listed k env ds h δ R :=
  EA.take i hi hs hf hr hl hd hw (fun _ _ _ _ _ hρ _ hq => sem_binI (hρ _ _ hx) (hρ _ _ hy) hv hq) hZ hn
theorem EA.tIdxA (i : Nat) {t len e sz by_ : Nat} {z : Value} [Und P t (.array len e)] [Inf P e sz by_ z] {x y : Operand} {b o : Nat} {kd : IntKind} {ix : Int} (hi : ops[i]? = some ⟨some d, .indexAddr t x y, ty, pos, af, g⟩) (hs : (Region.noSelect ops && TJ.Region.pinned ops zz i) = true) (hf : Region.free .any ops listed i = true) (hr : (Region.ready .any ops listed).contains i = true) (hl : listed.setIfInBounds i true = l')
    (hd : Nat.blt d n = true) (hw : wantE ops env g = some true) (hx : ev env x = some (.pointer (some ⟨b, o, none⟩))) (hy : ev env y = some (.int kd ix)) (h0 : 0 ≤ ix) (h1 : ix < len) (hZ : Z h)
    (hn : EA P main S f n ops Z zz m l' k ((d, .pointer (some ⟨b, o + ix.toNat * sz, none⟩)) :: env) ds h δ R) : EA P main S f n ops Z zz (m + 1) listed k env ds h δ R :=
  EA.take i hi hs hf hr hl hd hw (fun _ _ _ _ _ hρ _ hq => sem_indexArr (hρ _ _ hx) (hρ _ _ hy) h0 h1 hq) hZ hn
theorem EA.tIdxS (i : Nat) {t e sz by_ len cap : Nat} {z : Value} [Und P t (.slice e)] [Inf P e sz by_ z] {x y : Operand} {b o : Nat} {kd : IntKind} {ix : Int} (hi : ops[i]? = some ⟨some d, .indexAddr t x y, ty, pos, af, g⟩) (hs : (Region.noSelect ops && TJ.Region.pinned ops zz i) = true) (hf : Region.free .any ops listed i = true) (hr : (Region.ready .any ops listed).contains i = true) (hl : listed.setIfInBounds i true = l')
    (hd : Nat.blt d n = true) (hw : wantE ops env g = some true) (hx : ev env x = some (.slice (some ⟨b, o, none⟩) len cap)) (hy : ev env y = some (.int kd ix)) (h0 : 0 ≤ ix) (h1 : ix < len) (hZ : Z h)
    (hn : EA P main S f n ops Z zz m l' k ((d, .pointer (some ⟨b, o + ix.toNat * sz, none⟩)) :: env) ds h δ R) : EA P main S f n ops Z zz (m + 1) listed k env ds h δ R :=
  EA.take i hi hs hf hr hl hd hw (fun _ _ _ _ _ hρ _ hq => sem_indexSl (hρ _ _ hx) (hρ _ _ hy) h0 h1 hq) hZ hn
theorem EA.tLen (i : Nat) {x : Operand} {t e : TypeId} {ats : Array TypeId} [Und P t (.slice e)] {a : Option Addr} {len cap : Nat} (hi : ops[i]? = some ⟨some d, .call { callee := .builtin .len, args := #[x], argTypes := ats }, ty, pos, af, g⟩) (hs : (Region.noSelect ops && TJ.Region.pinned ops zz i) = true) (hf : Region.free .any ops listed i = true) (hr : (Region.ready .any ops listed).contains i = true) (hl : listed.setIfInBounds i true = l')
    (hd : Nat.blt d n = true) (hw : wantE ops env g = some true) (hat : ats[0]? = some t) (hx : ev env x = some (.slice a len cap)) (hZ : Z h)
    (hn : EA P main S f n ops Z zz m l' k ((d, .int .i64 len) :: env) ds h δ R) : EA P main S f n ops Z zz (m + 1) listed k env ds h δ R :=
  EA.take i hi hs hf hr hl hd hw (fun _ _ _ _ _ hρ _ hq => sem_lenSl hat (hρ _ _ hx) hq) hZ hn
end
end Go.TJ
