/- Own theory, part 6: the rules of the single kinds of operations. Conditions: facts on the program's types; the cells that are touched. -/
import Derived.Test.YtkppboglffdmnaaTjE
namespace Go.TJ
open Go Go.Conc
variable {Γ : Type}

theorem sem_bind_pure {α : Type} (s : Sem α) : (s >>= fun v => pure v) = s := by
  show Sem.bind s Sem.pure = s
  induction s with
  | pure a => rfl
  | load m a k ih => simp only [Sem.bind]; congr; funext x; exact ih x
  | store m a v k ih => simp only [Sem.bind]; congr
  | new o k ih => simp only [Sem.bind]; congr; funext x; exact ih x
  | shape r k ih => simp only [Sem.bind]; congr; funext x; exact ih x
  | freeze a n k ih => simp only [Sem.bind]; congr
  | frozen a k ih => simp only [Sem.bind]; congr; funext x; exact ih x
  | getObj r k ih => simp only [Sem.bind]; congr; funext x; exact ih x
  | setObj r o k ih => simp only [Sem.bind]; congr
  | choose q k ih => simp only [Sem.bind]; congr; funext x; exact ih x
  | sys c k ih => simp only [Sem.bind]; congr; funext x; exact ih x
  | program k ih => simp only [Sem.bind]; congr; funext x; exact ih x
  | mark m k ih => simp only [Sem.bind]; congr
  | halt x => rfl

theorem map_of {env : Env} {ρ : Operand → Value} {args : Array Operand} {vs : Array Value} (hρ : ∀ x v, ev env x = some v → ρ x = v) (ha : args.toList.map (ev env) = vs.toList.map some) : args.map ρ = vs := by
  obtain ⟨a⟩ := args
  obtain ⟨v⟩ := vs
  simp only [List.map_toArray, Array.mk.injEq]
  simp only at ha
  induction a generalizing v with
  | nil => cases v <;> simp_all
  | cons x a ih =>
    cases v with
    | nil => simp at ha
    | cons y v =>
      simp only [List.map_cons, List.cons.injEq] at ha ⊢
      exact ⟨hρ x y ha.1, ih v ha.2⟩

/-- The arguments' values. -/
def evL (env : Env) : List Operand → Option (List Value)
  | [] => some []
  | x :: l => match ev env x, evL env l with
    | some v, some vs => some (v :: vs)
    | _, _ => none

theorem map_ofL {env : Env} {ρ : Operand → Value} {args : Array Operand} {vs : List Value} (hρ : ∀ x v, ev env x = some v → ρ x = v) (ha : evL env args.toList = some vs) : args.map ρ = vs.toArray := by
  refine map_of hρ ?_
  obtain ⟨a⟩ := args
  simp only at ha ⊢
  induction a generalizing vs with
  | nil => simp only [evL, Option.some.injEq] at ha; subst ha; rfl
  | cons x a ih =>
    simp only [evL] at ha
    split at ha
    · rename_i v ws h1 h2
      cases ha
      simp only [List.map_cons, h1]
      rw [ih h2]
    · cases ha

section
variable {P : Program} {main : Bool} {S : Sit Γ} {f : FuncId} {n : Nat} {k : List Item} {env : Env} {ds : List Deferred} {h : Hp} {δ : Ix Γ} {R : Post Γ}
variable {ops : Array Oper} {l : List Oper} {d : Nat} {ty : TypeId} {pos : String} {af : Array Edge} {g : Option (Nat × Bool)}

/-- An operation that yields v and leaves the heap h'. -/
theorem ER.to {op : Op} {v : Value} {h' : Hp} (hw : wantE ops env g = some true) (hd : Nat.blt d n = true)
    (hs : ∀ (ρ : Operand → Value) (Q : Next → Hp → Ix Γ → Prop) (X : Value → Hp → Ix Γ → Prop), (∀ x v, ev env x = some v → ρ x = v) → Q (.value v) h' δ → SemW P S (execOp ρ ⟨some d, op, ty, pos, af, g⟩) h δ Q X)
    (hn : ER P main S f n ops l k ((d, v) :: env) ds h' δ R) : ER P main S f n ops (⟨some d, op, ty, pos, af, g⟩ :: l) k env ds h δ R :=
  ER.val (Q := fun v' h'' δ' => v' = v ∧ h'' = h' ∧ δ' = δ) hw hd (fun ρ hρ => hs ρ _ _ hρ ⟨v, rfl, rfl, rfl, rfl⟩) (by rintro _ _ _ ⟨rfl, rfl, rfl⟩; exact hn)

theorem ER.toU {op : Op} {h' : Hp} (hw : wantE ops env g = some true)
    (hs : ∀ (ρ : Operand → Value) (Q : Next → Hp → Ix Γ → Prop) (X : Value → Hp → Ix Γ → Prop), (∀ x v, ev env x = some v → ρ x = v) → Q .skip h' δ → SemW P S (execOp ρ ⟨none, op, ty, pos, af, g⟩) h δ Q X)
    (hn : ER P main S f n ops l k env ds h' δ R) : ER P main S f n ops (⟨none, op, ty, pos, af, g⟩ :: l) k env ds h δ R :=
  ER.unit (Q := fun h'' δ' => h'' = h' ∧ δ' = δ) hw (fun ρ hρ => hs ρ _ _ hρ ⟨.inl rfl, rfl, rfl⟩) (by rintro _ _ ⟨rfl, rfl⟩; exact hn)

theorem ER.move {x : Operand} {v : Value} (hw : wantE ops env g = some true) (hd : Nat.blt d n = true) (hx : ev env x = some v)
    (hn : ER P main S f n ops l k ((d, v) :: env) ds h δ R) : ER P main S f n ops (⟨some d, .move x, ty, pos, af, g⟩ :: l) k env ds h δ R :=
  ER.to hw hd (fun ρ Q X hρ hq => by show Q (.value (ρ x)) h δ; rw [hρ x v hx]; exact hq) hn

theorem ER.assign {x : Operand} {v : Value} (hw : wantE ops env g = some true) (hd : Nat.blt d n = true) (hx : ev env x = some v)
    (hn : ER P main S f n ops l k ((d, v) :: env) ds h δ R) : ER P main S f n ops (⟨some d, .assign x, ty, pos, af, g⟩ :: l) k env ds h δ R :=
  ER.to hw hd (fun ρ Q X hρ hq => by show Q (.value (ρ x)) h δ; rw [hρ x v hx]; exact hq) hn

theorem ER.pickT {c x y : Operand} {v : Value} (hw : wantE ops env g = some true) (hd : Nat.blt d n = true) (hc : ev env c = some (.bool true)) (hx : ev env x = some v)
    (hn : ER P main S f n ops l k ((d, v) :: env) ds h δ R) : ER P main S f n ops (⟨some d, .pick c x y, ty, pos, af, g⟩ :: l) k env ds h δ R :=
  ER.to hw hd (fun ρ Q X hρ hq => by
    show SemW P S (asBool (ρ c) >>= fun b => pure (.value (if b then ρ x else ρ y))) h δ Q X
    rw [hρ c _ hc]
    show Q (.value (ρ x)) h δ
    rw [hρ x v hx]; exact hq) hn

theorem ER.pickF {c x y : Operand} {v : Value} (hw : wantE ops env g = some true) (hd : Nat.blt d n = true) (hc : ev env c = some (.bool false)) (hx : ev env y = some v)
    (hn : ER P main S f n ops l k ((d, v) :: env) ds h δ R) : ER P main S f n ops (⟨some d, .pick c x y, ty, pos, af, g⟩ :: l) k env ds h δ R :=
  ER.to hw hd (fun ρ Q X hρ hq => by
    show SemW P S (asBool (ρ c) >>= fun b => pure (.value (if b then ρ x else ρ y))) h δ Q X
    rw [hρ c _ hc]
    show Q (.value (ρ y)) h δ
    rw [hρ y v hx]; exact hq) hn

theorem ER.nilCheck {x : Operand} {a : Addr} (hw : wantE ops env g = some true) (hd : Nat.blt d n = true) (hx : ev env x = some (.pointer (some a)))
    (hn : ER P main S f n ops l k ((d, .pointer (some a)) :: env) ds h δ R) : ER P main S f n ops (⟨some d, .nilCheck x, ty, pos, af, g⟩ :: l) k env ds h δ R :=
  ER.to hw hd (fun ρ Q X hρ hq => by
    unfold execOp
    simp only [hρ x _ hx]
    exact hq) hn

theorem semW_fieldAt {s fld off : Nat} [fo : FieldOff P s fld off] {b o : Nat} {Q : Value → Hp → Ix Γ → Prop} {X : Value → Hp → Ix Γ → Prop} (hq : Q (.pointer (some ⟨b, o + off, none⟩)) h δ) :
    SemW P S (Instr.fieldAt s (.pointer (some ⟨b, o, none⟩)) fld) h δ Q X := by
  obtain ⟨fields, fd, inf, hu, hf, ho, hi, hs⟩ := fo.out
  unfold Instr.fieldAt
  refine semW_underlying hu ?_
  simp only [hf]
  refine semW_pureBind ?_
  refine semW_bind _ _ _ _ _ _ ?_
  unfold fieldPlace
  refine semW_sizeOf hi ?_
  rw [if_neg hs, add_eq, ho]
  exact hq

theorem ER.fieldAddr {s fld off : Nat} [fo : FieldOff P s fld off] {x : Operand} {b o : Nat} (hw : wantE ops env g = some true) (hd : Nat.blt d n = true) (hx : ev env x = some (.pointer (some ⟨b, o, none⟩)))
    (hn : ER P main S f n ops l k ((d, .pointer (some ⟨b, o + off, none⟩)) :: env) ds h δ R) : ER P main S f n ops (⟨some d, .fieldAddr s x fld, ty, pos, af, g⟩ :: l) k env ds h δ R :=
  ER.to hw hd (fun ρ Q X hρ hq => by
    show SemW P S (Instr.fieldAt s (ρ x) fld >>= fun v => pure (.value v)) h δ Q X
    rw [hρ x _ hx]
    exact semW_bind _ _ _ _ _ _ (semW_fieldAt hq)) hn

theorem ER.load1 {t : TypeId} [Scal P t] {x : Operand} {a : Addr} {v : Value} (hw : wantE ops env g = some true) (hd : Nat.blt d n = true) (hx : ev env x = some (.pointer (some a))) (hc : hcell h a = some v)
    (hn : ER P main S f n ops l k ((d, v) :: env) ds h δ R) : ER P main S f n ops (⟨some d, .load t x, ty, pos, af, g⟩ :: l) k env ds h δ R :=
  ER.to hw hd (fun ρ Q X hρ hq => by
    show SemW P S ((Instr.sureAddr (ρ x) >>= fun a => loadVar t a) >>= fun v => pure (.value v)) h δ Q X
    rw [hρ x _ hx]
    exact semW_bind _ _ _ _ _ _ (semW_pureBind (semW_loadVar1 hc hq))) hn

theorem ER.loadN {t m : Nat} [Aggr P t m] {x : Operand} {b o : Nat} {vs : List Value} (hw : wantE ops env g = some true) (hd : Nat.blt d n = true) (hx : ev env x = some (.pointer (some ⟨b, o, none⟩))) (hm : vs.length = m) (hc : hrow h b o vs)
    (hn : ER P main S f n ops l k ((d, .agg vs.toArray) :: env) ds h δ R) : ER P main S f n ops (⟨some d, .load t x, ty, pos, af, g⟩ :: l) k env ds h δ R :=
  ER.to hw hd (fun ρ Q X hρ hq => by
    show SemW P S ((Instr.sureAddr (ρ x) >>= fun a => loadVar t a) >>= fun v => pure (.value v)) h δ Q X
    rw [hρ x _ hx]
    exact semW_bind _ _ _ _ _ _ (semW_pureBind (semW_loadVarN hm hc hq))) hn

theorem ER.store1 {t : TypeId} [Scal P t] {x y : Operand} {b o : Nat} {v : Value} (hw : wantE ops env g = some true) (hx : ev env x = some (.pointer (some ⟨b, o, none⟩))) (hy : ev env y = some v) (hv : OneCell v)
    (hc : ∃ u, hcell h ⟨b, o, none⟩ = some u) (hf : hfroz h ⟨b, o, none⟩ = false) (hS : ¬ S.still δ.g ⟨b, o, none⟩)
    (hn : ER P main S f n ops l k env ds (hset h ⟨b, o, none⟩ v) δ R) : ER P main S f n ops (⟨none, .store t x y, ty, pos, af, g⟩ :: l) k env ds h δ R :=
  ER.toU hw (fun ρ Q X hρ hq => by
    show SemW P S ((Instr.sureAddr (ρ x) >>= fun a => storeVar t a (ρ y)) >>= fun _ => pure .skip) h δ Q X
    rw [hρ x _ hx, hρ y _ hy]
    exact semW_bind _ _ _ _ _ _ (semW_pureBind (semW_storeVar1 hv hc hf hS hq))) hn

theorem ER.storeN {t m : Nat} [Aggr P t m] {x y : Operand} {b o : Nat} {vs : List Value} (hw : wantE ops env g = some true) (hx : ev env x = some (.pointer (some ⟨b, o, none⟩))) (hy : ev env y = some (.agg vs.toArray)) (hm : vs.length = m) (hv : ∀ v ∈ vs, OneCell v)
    (hc : ∀ j, j < m → (∃ u, hcell h ⟨b, o + j, none⟩ = some u) ∧ hfroz h ⟨b, o + j, none⟩ = false ∧ ¬ S.still δ.g ⟨b, o + j, none⟩)
    (hn : ER P main S f n ops l k env ds (hsetRow h b o vs) δ R) : ER P main S f n ops (⟨none, .store t x y, ty, pos, af, g⟩ :: l) k env ds h δ R :=
  ER.toU hw (fun ρ Q X hρ hq => by
    show SemW P S ((Instr.sureAddr (ρ x) >>= fun a => storeVar t a (ρ y)) >>= fun _ => pure .skip) h δ Q X
    rw [hρ x _ hx, hρ y _ hy]
    exact semW_bind _ _ _ _ _ _ (semW_pureBind (semW_storeVarN hm hv hc hq))) hn

/-- A new variable. -/
theorem ER.alloc {t sz by_ : Nat} {z : Value} [i : Inf P t sz by_ z] (hw : wantE ops env g = some true) (hd : Nat.blt d n = true)
    (hn : ER P main S f n ops l k ((d, .pointer (some ⟨h.size, 0, none⟩)) :: env) ds (h.push (.cells z.cells t)) δ R) : ER P main S f n ops (⟨some d, .alloc t, ty, pos, af, g⟩ :: l) k env ds h δ R :=
  ER.to hw hd (fun ρ Q X hρ hq => by
    show SemW P S (Instr.alloc t true (.tuple #[]) >>= fun v => pure (.value v)) h δ Q X
    refine semW_bind _ _ _ _ _ _ ?_
    unfold Instr.alloc
    obtain ⟨inf, h1, h2, h3, h4⟩ := i.get
    exact semW_zeroValue h1 h4 ⟨thawed, hq⟩) hn

theorem ER.box {t : TypeId} {x : Operand} {v : Value} (hw : wantE ops env g = some true) (hd : Nat.blt d n = true) (hx : ev env x = some v)
    (hn : ER P main S f n ops l k ((d, .pointer (some ⟨h.size, 0, none⟩)) :: env) ds (h.push (.cells v.cells t)) δ R) : ER P main S f n ops (⟨some d, .box t x, ty, pos, af, g⟩ :: l) k env ds h δ R :=
  ER.to hw hd (fun ρ Q X hρ hq => by
    show SemW P S (Instr.box t (ρ x) >>= fun v => pure (.value v)) h δ Q X
    rw [hρ x _ hx]
    exact ⟨thawed, hq⟩) hn

theorem ER.boxA {t : TypeId} {x : Operand} {cs : Array Value} (hw : wantE ops env g = some true) (hd : Nat.blt d n = true) (hx : ev env x = some (.agg cs))
    (hn : ER P main S f n ops l k ((d, .pointer (some ⟨h.size, 0, none⟩)) :: env) ds (h.push (.cells cs t)) δ R) : ER P main S f n ops (⟨some d, .box t x, ty, pos, af, g⟩ :: l) k env ds h δ R :=
  ER.box hw hd hx hn

/-- A value that is put together: the parts as the program's own small machine puts them. -/
class Builds (P : Program) (t : TypeId) (parts : Array (Nat × Value)) (v : outParam Value) : Prop where
  out : ∀ (S : Sit Γ) (h : Hp) (δ : Ix Γ) (Q : Value → Hp → Ix Γ → Prop) (X : Value → Hp → Ix Γ → Prop), Q v h δ → SemW P S (Instr.build t parts) h δ Q X

theorem ER.build {t : TypeId} {ps : Array (Nat × Operand)} {parts : Array (Nat × Value)} {v : Value} (hw : wantE ops env g = some true) (hd : Nat.blt d n = true)
    (hp : ∀ ρ : Operand → Value, (∀ x v, ev env x = some v → ρ x = v) → ps.map (fun (i, x) => (i, ρ x)) = parts) (hb : ∀ (Q : Value → Hp → Ix Γ → Prop) (X : Value → Hp → Ix Γ → Prop), Q v h δ → SemW P S (Instr.build t parts) h δ Q X)
    (hn : ER P main S f n ops l k ((d, v) :: env) ds h δ R) : ER P main S f n ops (⟨some d, .build t ps, ty, pos, af, g⟩ :: l) k env ds h δ R :=
  ER.to hw hd (fun ρ Q X hρ hq => by
    show SemW P S (Instr.build t (ps.map fun (i, x) => (i, ρ x)) >>= fun v => pure (.value v)) h δ Q X
    rw [hp ρ hρ]
    exact semW_bind _ _ _ _ _ _ (hb _ _ hq)) hn

theorem ER.extract {x : Operand} {i : Nat} {vs : Array Value} {v : Value} (hw : wantE ops env g = some true) (hd : Nat.blt d n = true) (hx : ev env x = some (.tuple vs)) (hv : vs[i]? = some v)
    (hn : ER P main S f n ops l k ((d, v) :: env) ds h δ R) : ER P main S f n ops (⟨some d, .extract x i, ty, pos, af, g⟩ :: l) k env ds h δ R :=
  ER.to hw hd (fun ρ Q X hρ hq => by
    show SemW P S (Instr.extract (ρ x) i >>= fun v => pure (.value v)) h δ Q X
    rw [hρ x _ hx]
    unfold Instr.extract
    simp only [hv]
    exact hq) hn

theorem ER.notB {x : Operand} {b : Bool} {t : TypeId} (hw : wantE ops env g = some true) (hd : Nat.blt d n = true) (hx : ev env x = some (.bool b))
    (hn : ER P main S f n ops l k ((d, .bool (!b)) :: env) ds h δ R) : ER P main S f n ops (⟨some d, .unOp .not t x, ty, pos, af, g⟩ :: l) k env ds h δ R :=
  ER.to hw hd (fun ρ Q X hρ hq => by
    show SemW P S (Op.unary .not (ρ x) >>= fun v => pure (.value v)) h δ Q X
    rw [hρ x _ hx]
    exact hq) hn

theorem ER.negI {x : Operand} {kd : IntKind} {a r : Int} {t : TypeId} (hw : wantE ops env g = some true) (hd : Nat.blt d n = true) (hx : ev env x = some (.int kd a)) (hr : kd.wrap (0 - a) = r)
    (hn : ER P main S f n ops l k ((d, .int kd r) :: env) ds h δ R) : ER P main S f n ops (⟨some d, .unOp .neg t x, ty, pos, af, g⟩ :: l) k env ds h δ R :=
  ER.to hw hd (fun ρ Q X hρ hq => by
    show SemW P S (Op.unary .neg (ρ x) >>= fun v => pure (.value v)) h δ Q X
    rw [hρ x _ hx]
    show Q (.value (.int kd (kd.wrap (0 - a)))) h δ
    rw [hr]; exact hq) hn

theorem ER.makeFunc {fn : Fn} {first cap : Array Operand} {fv cv : Array Value} (hw : wantE ops env g = some true) (hd : Nat.blt d n = true)
    (hf : ∀ ρ : Operand → Value, (∀ x v, ev env x = some v → ρ x = v) → first.map ρ = fv ∧ cap.map ρ = cv)
    (hn : ER P main S f n ops l k ((d, .func fn fv cv) :: env) ds h δ R) : ER P main S f n ops (⟨some d, .makeFunc fn first cap, ty, pos, af, g⟩ :: l) k env ds h δ R :=
  ER.to hw hd (fun ρ Q X hρ hq => by
    show Q (.value (.func fn (first.map ρ) (cap.map ρ))) h δ
    rw [(hf ρ hρ).1, (hf ρ hρ).2]; exact hq) hn

/-! ### binary operations -/

theorem semW_binOp {op : BinOp} {t t2 : TypeId} {x y : Operand} {ρ : Operand → Value} {dst : Option Nat} {Q : Next → Hp → Ix Γ → Prop} {X : Value → Hp → Ix Γ → Prop}
    (hs : SemW P S (eqGuard op t x y (ρ x) (ρ y)) h δ (fun _ h' δ' => SemW P S (binOp op t (ρ x) (ρ y)) h' δ' (fun v h'' δ'' => Q (.value v) h'' δ'') X) X) : SemW P S (execOp ρ ⟨dst, .binOp op t x y t2, ty, pos, af, g⟩) h δ Q X := by
  show SemW P S ((eqGuard op t x y (ρ x) (ρ y) >>= fun _ => binOp op t (ρ x) (ρ y)) >>= fun v => pure (.value v)) h δ Q X
  exact semW_bind _ _ _ _ _ _ (semW_bind _ _ _ _ _ _ hs)

theorem eqGuard_int {op : BinOp} {t : TypeId} {x y : Operand} {kx ky : IntKind} {a b : Int} : eqGuard op t x y (.int kx a) (.int ky b) = pure () := by
  unfold eqGuard
  cases op <;> rfl

/-- An operation on two integers of one kind, said by what it yields. -/
theorem ER.binI {op : BinOp} {t t2 : TypeId} {x y : Operand} {kd : IntKind} {a b : Int} {v : Value} (hw : wantE ops env g = some true) (hd : Nat.blt d n = true) (hx : ev env x = some (.int kd a)) (hy : ev env y = some (.int kd b))
    (hv : binOp op t (.int kd a) (.int kd b) = pure v)
    (hn : ER P main S f n ops l k ((d, v) :: env) ds h δ R) : ER P main S f n ops (⟨some d, .binOp op t x y t2, ty, pos, af, g⟩ :: l) k env ds h δ R :=
  ER.to hw hd (fun ρ Q X hρ hq => semW_binOp (by
    rw [hρ x _ hx, hρ y _ hy, eqGuard_int, hv]
    exact hq)) hn

theorem binOp_add {t : TypeId} {kd : IntKind} {a b : Int} : binOp .add t (.int kd a) (.int kd b) = pure (.int kd (kd.wrap (a + b))) := by simp [binOp, Op.intArith]
theorem binOp_sub {t : TypeId} {kd : IntKind} {a b : Int} : binOp .sub t (.int kd a) (.int kd b) = pure (.int kd (kd.wrap (a - b))) := by simp [binOp, Op.intArith]
theorem binOp_mul {t : TypeId} {kd : IntKind} {a b : Int} : binOp .mul t (.int kd a) (.int kd b) = pure (.int kd (kd.wrap (a * b))) := by simp [binOp, Op.intArith]
theorem binOp_rem {t : TypeId} {kd : IntKind} {a b : Int} (hb : b ≠ 0) : binOp .rem t (.int kd a) (.int kd b) = pure (.int kd (a.tmod b)) := by simp [binOp, Op.intDiv, hb]
theorem binOp_quo {t : TypeId} {kd : IntKind} {a b : Int} (hb : b ≠ 0) : binOp .quo t (.int kd a) (.int kd b) = pure (.int kd (kd.wrap (a.tdiv b))) := by simp [binOp, Op.intDiv, hb]
theorem binOp_eql {t : TypeId} {kd : IntKind} {a b : Int} : binOp .eql t (.int kd a) (.int kd b) = pure (.bool (a == b)) := by simp [binOp, Op.intCmp]
theorem binOp_neq {t : TypeId} {kd : IntKind} {a b : Int} : binOp .neq t (.int kd a) (.int kd b) = pure (.bool (a != b)) := by simp [binOp, Op.intCmp]
theorem binOp_lss {t : TypeId} {kd : IntKind} {a b : Int} : binOp .lss t (.int kd a) (.int kd b) = pure (.bool (decide (a < b))) := by simp [binOp, Op.intCmp]
theorem binOp_leq {t : TypeId} {kd : IntKind} {a b : Int} : binOp .leq t (.int kd a) (.int kd b) = pure (.bool (decide (a ≤ b))) := by simp [binOp, Op.intCmp]
theorem binOp_gtr {t : TypeId} {kd : IntKind} {a b : Int} : binOp .gtr t (.int kd a) (.int kd b) = pure (.bool (decide (b < a))) := by simp [binOp, Op.intCmp]
theorem binOp_geq {t : TypeId} {kd : IntKind} {a b : Int} : binOp .geq t (.int kd a) (.int kd b) = pure (.bool (decide (b ≤ a))) := by simp [binOp, Op.intCmp]

section arith
variable {t t2 : TypeId} {x y : Operand} {kd : IntKind} {a b r : Int}

theorem ER.add (hw : wantE ops env g = some true) (hd : Nat.blt d n = true) (hx : ev env x = some (.int kd a)) (hy : ev env y = some (.int kd b)) (hr : kd.wrap (a + b) = r)
    (hn : ER P main S f n ops l k ((d, .int kd r) :: env) ds h δ R) : ER P main S f n ops (⟨some d, .binOp .add t x y t2, ty, pos, af, g⟩ :: l) k env ds h δ R := ER.binI hw hd hx hy (by rw [binOp_add, hr]) hn
theorem ER.sub' (hw : wantE ops env g = some true) (hd : Nat.blt d n = true) (hx : ev env x = some (.int kd a)) (hy : ev env y = some (.int kd b)) (hr : kd.wrap (a - b) = r)
    (hn : ER P main S f n ops l k ((d, .int kd r) :: env) ds h δ R) : ER P main S f n ops (⟨some d, .binOp .sub t x y t2, ty, pos, af, g⟩ :: l) k env ds h δ R := ER.binI hw hd hx hy (by rw [binOp_sub, hr]) hn
theorem ER.mul (hw : wantE ops env g = some true) (hd : Nat.blt d n = true) (hx : ev env x = some (.int kd a)) (hy : ev env y = some (.int kd b)) (hr : kd.wrap (a * b) = r)
    (hn : ER P main S f n ops l k ((d, .int kd r) :: env) ds h δ R) : ER P main S f n ops (⟨some d, .binOp .mul t x y t2, ty, pos, af, g⟩ :: l) k env ds h δ R := ER.binI hw hd hx hy (by rw [binOp_mul, hr]) hn
theorem ER.rem (hw : wantE ops env g = some true) (hd : Nat.blt d n = true) (hx : ev env x = some (.int kd a)) (hy : ev env y = some (.int kd b)) (hb : b ≠ 0) (hr : a.tmod b = r)
    (hn : ER P main S f n ops l k ((d, .int kd r) :: env) ds h δ R) : ER P main S f n ops (⟨some d, .binOp .rem t x y t2, ty, pos, af, g⟩ :: l) k env ds h δ R := ER.binI hw hd hx hy (by rw [binOp_rem hb, hr]) hn
theorem ER.quo (hw : wantE ops env g = some true) (hd : Nat.blt d n = true) (hx : ev env x = some (.int kd a)) (hy : ev env y = some (.int kd b)) (hb : b ≠ 0) (hr : kd.wrap (a.tdiv b) = r)
    (hn : ER P main S f n ops l k ((d, .int kd r) :: env) ds h δ R) : ER P main S f n ops (⟨some d, .binOp .quo t x y t2, ty, pos, af, g⟩ :: l) k env ds h δ R := ER.binI hw hd hx hy (by rw [binOp_quo hb, hr]) hn

/-- The comparisons: what is asked of two integers. -/
def cmpP : BinOp → Int → Int → Prop
  | .eql, a, b => a = b
  | .neq, a, b => a ≠ b
  | .lss, a, b => a < b
  | .leq, a, b => a ≤ b
  | .gtr, a, b => b < a
  | .geq, a, b => b ≤ a
  | _, _, _ => False
def isCmp : BinOp → Bool
  | .eql | .neq | .lss | .leq | .gtr | .geq => true
  | _ => false
theorem binOp_cmpT {op : BinOp} (hc : isCmp op = true) (hp : cmpP op a b) : binOp op t (.int kd a) (.int kd b) = pure (.bool true) := by
  cases op <;> first | cases hc | skip
  · rw [binOp_eql, show (a == b) = true from beq_iff_eq.2 hp]
  · rw [binOp_neq, show (a != b) = true from bne_iff_ne.2 hp]
  · rw [binOp_lss, decide_eq_true (show a < b from hp)]
  · rw [binOp_leq, decide_eq_true (show a ≤ b from hp)]
  · rw [binOp_gtr, decide_eq_true (show b < a from hp)]
  · rw [binOp_geq, decide_eq_true (show b ≤ a from hp)]
theorem binOp_cmpF {op : BinOp} (hc : isCmp op = true) (hp : ¬ cmpP op a b) : binOp op t (.int kd a) (.int kd b) = pure (.bool false) := by
  cases op <;> first | cases hc | skip
  · rw [binOp_eql, show (a == b) = false from beq_eq_false_iff_ne.2 hp]
  · rw [binOp_neq, show (a != b) = false from by
      have : a = b := Classical.not_not.1 hp
      simp [this]]
  · rw [binOp_lss, decide_eq_false (show ¬ a < b from hp)]
  · rw [binOp_leq, decide_eq_false (show ¬ a ≤ b from hp)]
  · rw [binOp_gtr, decide_eq_false (show ¬ b < a from hp)]
  · rw [binOp_geq, decide_eq_false (show ¬ b ≤ a from hp)]
theorem ER.cmpT {op : BinOp} (hc : isCmp op = true) (hw : wantE ops env g = some true) (hd : Nat.blt d n = true) (hx : ev env x = some (.int kd a)) (hy : ev env y = some (.int kd b)) (hp : cmpP op a b)
    (hn : ER P main S f n ops l k ((d, .bool true) :: env) ds h δ R) : ER P main S f n ops (⟨some d, .binOp op t x y t2, ty, pos, af, g⟩ :: l) k env ds h δ R := ER.binI hw hd hx hy (binOp_cmpT hc hp) hn
theorem ER.cmpF {op : BinOp} (hc : isCmp op = true) (hw : wantE ops env g = some true) (hd : Nat.blt d n = true) (hx : ev env x = some (.int kd a)) (hy : ev env y = some (.int kd b)) (hp : ¬ cmpP op a b)
    (hn : ER P main S f n ops l k ((d, .bool false) :: env) ds h δ R) : ER P main S f n ops (⟨some d, .binOp op t x y t2, ty, pos, af, g⟩ :: l) k env ds h δ R := ER.binI hw hd hx hy (binOp_cmpF hc hp) hn
/-- A comparison that is not known: two ways. -/
theorem ER.cmpS {op : BinOp} (hc : isCmp op = true) (hw : wantE ops env g = some true) (hd : Nat.blt d n = true) (hx : ev env x = some (.int kd a)) (hy : ev env y = some (.int kd b))
    (h1 : cmpP op a b → ER P main S f n ops l k ((d, .bool true) :: env) ds h δ R) (h2 : ¬ cmpP op a b → ER P main S f n ops l k ((d, .bool false) :: env) ds h δ R) : ER P main S f n ops (⟨some d, .binOp op t x y t2, ty, pos, af, g⟩ :: l) k env ds h δ R := by
  by_cases hp : cmpP op a b
  · exact ER.cmpT hc hw hd hx hy hp (h1 hp)
  · exact ER.cmpF hc hw hd hx hy hp (h2 hp)
end arith

/-- An operation on two values that are not both integers, said by what it does. -/
theorem ER.binV {op : BinOp} {t t2 : TypeId} {x y : Operand} {u w v : Value} (hw : wantE ops env g = some true) (hd : Nat.blt d n = true) (hx : ev env x = some u) (hy : ev env y = some w)
    (hg : eqGuard op t x y u w = pure ()) (hv : ∀ (Q : Value → Hp → Ix Γ → Prop) (X : Value → Hp → Ix Γ → Prop), Q v h δ → SemW P S (binOp op t u w) h δ Q X)
    (hn : ER P main S f n ops l k ((d, v) :: env) ds h δ R) : ER P main S f n ops (⟨some d, .binOp op t x y t2, ty, pos, af, g⟩ :: l) k env ds h δ R :=
  ER.to hw hd (fun ρ Q X hρ hq => semW_binOp (by
    rw [hρ x _ hx, hρ y _ hy, hg]
    exact hv _ _ hq)) hn

/-- Two values of a simple type, and whether they are one. -/
def eqRes : TypeDesc → Value → Value → Option Bool
  | .pointer _, .pointer none, .pointer a => some a.isNone
  | .pointer _, .pointer (some _), .pointer none => some false
  | .func _ _ _, .nilFunc, .nilFunc => some true
  | .func _ _ _, .func _ _ _, .nilFunc => some false
  | .chan _ _, .chan c, .chan d => some (c == d)
  | .bool, .bool a, .bool b => some (a == b)
  | .slice _, .slice none _ _, .slice b _ _ => some b.isNone
  | .slice _, .slice (some _) _ _, .slice none _ _ => some false
  | _, _, _ => none

theorem semW_equal {t : TypeId} {dd : TypeDesc} {u w : Value} (hu : P.underlying t = some dd) {Q : Bool → Hp → Ix Γ → Prop} {X : Value → Hp → Ix Γ → Prop} {r : Bool} (hr : eqRes dd u w = some r) (hq : Q r h δ) :
    SemW P S (Op.equal t u w) h δ Q X := by
  unfold Op.equal Op.maxDepth Op.equalIn
  refine semW_underlying hu ?_
  unfold eqRes at hr
  split at hr <;> first | cases hr | skip
  all_goals exact hq

/-- What '==' and '!=' do on two values of a simple type. -/
theorem ER.eqV {t t2 : TypeId} {x y : Operand} {u w : Value} {dd : TypeDesc} {r : Bool} [hu : Und P t dd] (hw : wantE ops env g = some true) (hd : Nat.blt d n = true) (hx : ev env x = some u) (hy : ev env y = some w) (hr : eqRes dd u w = some r)
    (hn : ER P main S f n ops l k ((d, .bool r) :: env) ds h δ R) : ER P main S f n ops (⟨some d, .binOp .eql t x y t2, ty, pos, af, g⟩ :: l) k env ds h δ R := by
  refine ER.binV hw hd hx hy ?_ (fun Q X hq => ?_) hn
  · unfold eqRes at hr
    unfold eqGuard
    split at hr <;> first | rfl | (cases hr; done)
  · have e : binOp .eql t u w = (Op.equal t u w >>= fun b => pure (.bool b)) := by
      unfold eqRes at hr
      split at hr <;> first | rfl | (cases hr; done)
    rw [e]
    exact semW_bind _ _ _ _ _ _ (semW_equal hu.out hr hq)

theorem ER.neqV {t t2 : TypeId} {x y : Operand} {u w : Value} {dd : TypeDesc} {r : Bool} [hu : Und P t dd] (hw : wantE ops env g = some true) (hd : Nat.blt d n = true) (hx : ev env x = some u) (hy : ev env y = some w) (hr : eqRes dd u w = some r)
    (hn : ER P main S f n ops l k ((d, .bool (!r)) :: env) ds h δ R) : ER P main S f n ops (⟨some d, .binOp .neq t x y t2, ty, pos, af, g⟩ :: l) k env ds h δ R := by
  refine ER.binV hw hd hx hy ?_ (fun Q X hq => ?_) hn
  · unfold eqRes at hr
    unfold eqGuard
    split at hr <;> first | rfl | (cases hr; done)
  · have e : binOp .neq t u w = (Op.equal t u w >>= fun b => pure (.bool (!b))) := by
      unfold eqRes at hr
      split at hr <;> first | rfl | (cases hr; done)
    rw [e]
    exact semW_bind _ _ _ _ _ _ (semW_equal hu.out hr hq)

/-! ### calls -/

class HasBody (P : Program) (c : FuncId) : Prop where
  out : ∃ fn code, P.funcs[c]? = some fn ∧ fn.body = some code ∧ fn.name ≠ "runtime.NumGoroutine"

theorem semW_call {op : Op} {dst : Option Nat} {x : Operand} {args : Array Operand} {ats : Array TypeId} {c : FuncId} {cap vs : Array Value} [hb : HasBody P c] {ρ : Operand → Value} {Q : Next → Hp → Ix Γ → Prop} {X : Value → Hp → Ix Γ → Prop}
    (hop : op = .call { callee := .value x, args, argTypes := ats }) (hx : ρ x = .func (.func c) #[] cap) (ha : args.map ρ = vs) (hq : Q (.enter c (vs ++ cap)) h δ) : SemW P S (execOp ρ ⟨dst, op, ty, pos, af, g⟩) h δ Q X := by
  subst hop
  show SemW P S (Deferred.ofValue (ρ x) (args.map ρ) >>= fun d => invoke d.target d.args) h δ Q X
  rw [hx, ha]
  obtain ⟨fn, code, h1, h2, h3⟩ := hb.out
  have e : (#[] : Array Value) ++ vs = vs := by simp
  show SemW P S (callFunc c ((#[] ++ vs) ++ cap)) h δ Q X
  rw [e]
  exact callFunc_semW h1 h2 h3 hq

/-- A call of a function, or of a function value. -/
theorem ER.call {x : Operand} {args : Array Operand} {ats : Array TypeId} {c : FuncId} {cap : Array Value} {vs : List Value} [HasBody P c] (hw : wantE ops env g = some true) (hd : Nat.blt d n = true) (hx : ev env x = some (.func (.func c) #[] cap))
    (ha : evL env args.toList = some vs)
    (hn : CallW P main S c (vs.toArray ++ cap) h δ fun
      | .ret v, h', δ' => ER P main S f n ops l k ((d, v) :: env) ds h' δ' R
      | .pan p, h', δ' => EU P main S f n (.panicking p) env ds h' δ' R) : ER P main S f n ops (⟨some d, .call { callee := .value x, args, argTypes := ats }, ty, pos, af, g⟩ :: l) k env ds h δ R :=
  ER.callGen hw hd (fun _ _ _ hρ hq => semW_call rfl (hρ x _ hx) (map_ofL hρ ha) hq) hn

theorem ER.callU {x : Operand} {args : Array Operand} {ats : Array TypeId} {c : FuncId} {cap : Array Value} {vs : List Value} [HasBody P c] (hw : wantE ops env g = some true) (hx : ev env x = some (.func (.func c) #[] cap))
    (ha : evL env args.toList = some vs)
    (hn : CallW P main S c (vs.toArray ++ cap) h δ fun
      | .ret _, h', δ' => ER P main S f n ops l k env ds h' δ' R
      | .pan p, h', δ' => EU P main S f n (.panicking p) env ds h' δ' R) : ER P main S f n ops (⟨none, .call { callee := .value x, args, argTypes := ats }, ty, pos, af, g⟩ :: l) k env ds h δ R :=
  ER.callGenU hw (fun _ _ _ hρ hq => semW_call rfl (hρ x _ hx) (map_ofL hρ ha) hq) hn

theorem ER.defer {x : Operand} {args : Array Operand} {ats : Array TypeId} {c : FuncId} {cap : Array Value} {vs : List Value} (hw : wantE ops env g = some true) (hx : ev env x = some (.func (.func c) #[] cap))
    (ha : evL env args.toList = some vs)
    (hn : ER P main S f n ops l k env ({ target := .fn (.func c) cap, args := vs.toArray } :: ds) h δ R) : ER P main S f n ops (⟨none, .defer { callee := .value x, args, argTypes := ats }, ty, pos, af, g⟩ :: l) k env ds h δ R :=
  ER.deferGen hw (fun ρ Q X hρ hq => by
    show SemW P S (Deferred.ofValue (ρ x) (args.map ρ) >>= fun d => pure (.defer d)) h δ Q X
    rw [hρ x _ hx, map_ofL hρ ha]
    have e : (#[] : Array Value) ++ vs.toArray = vs.toArray := by simp
    show Q (.defer { target := .fn (.func c) cap, args := #[] ++ vs.toArray }) h δ
    rw [e]; exact hq) hn

/-! ### the beginning and the end of a call -/

def argE : Nat → List Value → Env
  | _, [] => []
  | i, v :: l => (i, v) :: argE (i + 1) l

theorem argE_look : ∀ (vs : List Value) (j i : Nat) (v : Value), look (argE j vs) i = some v → j ≤ i ∧ vs[i - j]? = some v
  | [], _, _, _, h => by cases h
  | x :: l, j, i, v, h => by
    rw [argE, look_cons] at h
    split at h
    · rename_i e; subst e; cases h; simp
    · rename_i e
      obtain ⟨h1, h2⟩ := argE_look l (j + 1) i v h
      refine ⟨by omega, ?_⟩
      rw [show i - j = (i - (j + 1)) + 1 by omega]
      simpa using h2

theorem CallW.start {fn : Func} {c : Code} {args : Array Value} [hf : IsFn P f fn] (hb : fn.body = some c) (hn : args.size + (fn.ntmps - args.size) = n)
    (hk : EK P main S f n [.code c] (argE 0 args.toList) [] h δ R) : CallW P main S f args h δ R := by
  refine CallW.enter hf.out hb (hk _ ⟨by simp [hn], rfl, fun i v hl => ?_⟩)
  obtain ⟨_, h2⟩ := argE_look _ _ _ _ hl
  have h3 : args[i]? = some v := by simpa using h2
  have hi : i < args.size := by
    rcases Nat.lt_or_ge i args.size with x | x
    · exact x
    · simp [Array.getElem?_eq_none x] at h3
  rw [Array.getElem?_append_left hi, h3]

theorem getD_of_look {a : Act} (ka : Kn n env ds a) {t : Nat} {v : Value} (hv : look env t = some v) : a.tmps.getD t undef = v := by
  rw [Array.getD_eq_getD_getElem?, ka.knows t v hv]; rfl

theorem EU.ret0 {fn : Func} [hf : IsFn P f fn] (hr : fn.results = #[]) (hR : R (.ret (.tuple #[])) h δ) : EU P main S f n .returning env [] h δ R :=
  fun _ ka => WU.ret0 ka.defers hf.out (reads_none hr) hR
theorem EU.ret1 {fn : Func} {t : Tmp} {v : Value} [hf : IsFn P f fn] (hr : fn.results = #[.tmp t]) (hv : look env t = some v) (hR : R (.ret v) h δ) : EU P main S f n .returning env [] h δ R :=
  fun _ ka => WU.ret0 ka.defers hf.out (reads_tmp hr (getD_of_look ka hv)) hR
theorem EU.ret2 {fn : Func} {t u : Tmp} {v x : Value} [hf : IsFn P f fn] (hr : fn.results = #[.tmp t, .tmp u]) (hv : look env t = some v) (hx : look env u = some x) (hR : R (.ret (.tuple #[v, x])) h δ) : EU P main S f n .returning env [] h δ R :=
  fun _ ka => WU.ret0 ka.defers hf.out (reads_tmp2 hr (getD_of_look ka hv) (getD_of_look ka hx)) hR
theorem EU.ret3 {fn : Func} {t u q : Tmp} {v x y : Value} [hf : IsFn P f fn] (hr : fn.results = #[.tmp t, .tmp u, .tmp q]) (hv : look env t = some v) (hx : look env u = some x) (hy : look env q = some y) (hR : R (.ret (.tuple #[v, x, y])) h δ) : EU P main S f n .returning env [] h δ R :=
  fun _ ka => WU.ret0 ka.defers hf.out (reads_tmp3 hr (getD_of_look ka hv) (getD_of_look ka hx) (getD_of_look ka hy)) hR

theorem EU.deferRet {c : FuncId} {cap args : Array Value} [hb : HasBody P c]
    (hc : CallW P main S c (args ++ cap) h δ fun
      | .ret _, h', δ' => EU P main S f n .returning env ds h' δ' R
      | .pan _, _, _ => False) : EU P main S f n .returning env ({ target := .fn (.func c) cap, args := args } :: ds) h δ R := by
  intro a ka
  obtain ⟨fn, code, h1, h2, h3⟩ := hb.out
  refine WU.deferRet h1 h2 h3 (hc.mono ?_) ka.defers
  rintro (v | p) h' δ' hq
  · exact hq _ ⟨ka.size, rfl, ka.knows⟩
  · exact hq

/-! ### functions without a body -/

theorem semW_ext {op : Op} {dst : Option Nat} {x : Operand} {args : Array Operand} {ats : Array TypeId} {c : FuncId} {vs : Array Value} {e : Array Value → Sem Value} [he : ExtFn P c e] {ρ : Operand → Value} {Q : Next → Hp → Ix Γ → Prop} {X : Value → Hp → Ix Γ → Prop}
    (hop : op = .call { callee := .value x, args, argTypes := ats }) (hx : ρ x = .func (.func c) #[] #[]) (ha : args.map ρ = vs) (hq : SemW P S (e vs) h δ (fun v h' δ' => Q (.value v) h' δ') X) : SemW P S (execOp ρ ⟨dst, op, ty, pos, af, g⟩) h δ Q X := by
  subst hop
  show SemW P S (Deferred.ofValue (ρ x) (args.map ρ) >>= fun d => invoke d.target d.args) h δ Q X
  rw [hx, ha]
  obtain ⟨fn, h1, h2, h3, h4, h5⟩ := he.out
  have e1 : (#[] : Array Value) ++ vs ++ #[] = vs := by simp
  show SemW P S (callFunc c ((#[] ++ vs) ++ #[])) h δ Q X
  rw [e1]
  unfold callFunc
  change SemW P S (Sem.bind (Sem.program Sem.pure) _) h δ Q X
  simp only [Sem.bind, SemW, h1, h2, h3, h4, h5, Bool.false_eq_true, if_false, if_true]
  refine ⟨by simp, by simp, ?_⟩
  show SemW P S (Sem.bind (e vs) fun v => pure (.value v)) h δ Q X
  exact semW_bind _ _ _ _ _ _ hq

/-- A call of a function without a body. -/
theorem ER.ext {x : Operand} {args : Array Operand} {ats : Array TypeId} {c : FuncId} {vs : List Value} {e : Array Value → Sem Value} {v : Value} {h' : Hp} {δ' : Ix Γ} [ExtFn P c e] (hw : wantE ops env g = some true) (hd : Nat.blt d n = true) (hx : ev env x = some (.func (.func c) #[] #[]))
    (ha : evL env args.toList = some vs) (hs : ∀ (Q : Value → Hp → Ix Γ → Prop) (X : Value → Hp → Ix Γ → Prop), Q v h' δ' → SemW P S (e vs.toArray) h δ Q X)
    (hn : ER P main S f n ops l k ((d, v) :: env) ds h' δ' R) : ER P main S f n ops (⟨some d, .call { callee := .value x, args, argTypes := ats }, ty, pos, af, g⟩ :: l) k env ds h δ R :=
  ER.val (Q := fun v1 h1 δ1 => v1 = v ∧ h1 = h' ∧ δ1 = δ') hw hd (fun ρ hρ => semW_ext (c := c) rfl (hρ x _ hx) (map_ofL hρ ha) (hs _ _ ⟨v, rfl, rfl, rfl, rfl⟩)) (by rintro _ _ _ ⟨rfl, rfl, rfl⟩; exact hn)

section atomics
variable {a : Addr} {kd : IntKind} {Q : Value → Hp → Ix Γ → Prop} {X : Value → Hp → Ix Γ → Prop}

theorem semW_read {β : Type} {x : Int} (hc : hcell h a = some (.int kd x)) {g : Value → Sem β} {Q : β → Hp → Ix Γ → Prop} (hs : SemW P S (g (.int kd x)) h δ Q X) : SemW P S (Extern.Atomic.read (.int kd) a >>= g) h δ Q X := by
  refine semW_bind _ _ _ _ _ _ ⟨_, hc, ?_⟩
  show SemW P S (if kd = kd then pure (Value.int kd x) else _) h δ _ X
  rw [if_pos rfl]
  exact hs

theorem semW_aload {x : Int} (hc : hcell h a = some (.int kd x)) (hq : Q (.int kd x) h δ) : SemW P S (Extern.Atomic.loadT (.int kd) #[.pointer (some a)]) h δ Q X := by
  have e : Extern.Atomic.loadT (.int kd) #[.pointer (some a)] = (Extern.Atomic.read (.int kd) a >>= fun v => pure v) := by
    show Extern.Atomic.read (.int kd) a = _
    exact (sem_bind_pure _).symm
  rw [e]
  exact semW_read hc hq

theorem semW_astore {u v : Value} (hv : OneCell v) (hc : hcell h a = some u) (hz : hfroz h a = false) (hS : ¬ S.still δ.g a) (hq : Q (.tuple #[]) (hset h a v) δ) : SemW P S (Extern.Atomic.storeT #[.pointer (some a), v]) h δ Q X :=
  ⟨hv.1, hv.2, ⟨u, hc⟩, hz, hS, hq⟩

theorem semW_touchesFrozen {β : Type} {v : Value} (hc : hcell h a = some v) (hz : hfroz h a = false) {g : Bool → Sem β} {Q : β → Hp → Ix Γ → Prop} (hs : SemW P S (g false) h δ Q X) : SemW P S (Extern.Atomic.touchesFrozen a >>= g) h δ Q X := by
  obtain ⟨c, e, f, hb, hs', hv⟩ := hcell_some hc
  have h1 : hshape h a.block = some (e, c.size) := by simp [hshape, hb]
  refine semW_bind _ _ _ _ _ _ ?_
  change SemW P S (Sem.bind (Sem.bind (Sem.shape a.block Sem.pure) _) _) h δ _ X
  simp only [Sem.bind, SemW, h1, Option.isSome]
  show SemW P S (Sem.frozen a Sem.pure) h δ _ X
  simp only [SemW, hz]
  exact hs

theorem semW_acas {x y : Int} {k2 : IntKind} {nv : Value} (hnv : OneCell nv) (hc : hcell h a = some (.int kd x)) (hz : hfroz h a = false) (hS : ¬ S.still δ.g a)
    (hq : if x = y then Q (.bool true) (hset h a nv) δ else Q (.bool false) h δ) : SemW P S (Extern.Atomic.casT (.int kd) #[.pointer (some a), .int k2 y, nv]) h δ Q X := by
  show SemW P S (asAddr (.pointer (some a)) >>= _) h δ Q X
  refine semW_pureBind ?_
  refine semW_touchesFrozen hc hz ?_
  show SemW P S (Extern.Atomic.read (.int kd) a >>= _) h δ Q X
  refine semW_read hc ?_
  by_cases e : x = y
  · rw [if_pos e] at hq
    subst e
    show SemW P S (if (x == x) = true then (store a nv .atomic >>= fun _ => pure (.bool (x == x))) else pure (.bool (x == x))) h δ Q X
    simp only [beq_self_eq_true, if_true]
    exact ⟨hnv.1, hnv.2, ⟨_, hc⟩, hz, hS, hq⟩
  · rw [if_neg e] at hq
    show SemW P S (if (x == y) = true then (store a nv .atomic >>= fun _ => pure (.bool (x == y))) else pure (.bool (x == y))) h δ Q X
    have : (x == y) = false := beq_eq_false_iff_ne.2 e
    simp only [this, Bool.false_eq_true, if_false]
    exact hq

theorem semW_aadd {x y r : Int} {k2 : IntKind} (hc : hcell h a = some (.int kd x)) (hz : hfroz h a = false) (hS : ¬ S.still δ.g a) (hr : kd.wrap (x + y) = r) (hq : Q (.int kd r) (hset h a (.int kd r)) δ) :
    SemW P S (Extern.Atomic.update (Op.intArith .add) kd true #[.pointer (some a), .int k2 y]) h δ Q X := by
  subst hr
  show SemW P S (Extern.Atomic.read (.int kd) a >>= _) h δ Q X
  refine semW_read hc ?_
  exact ⟨by simp, by simp, ⟨_, hc⟩, hz, hS, hq⟩

theorem semW_aswap {x : Int} {nv : Value} (hnv : OneCell nv) (hc : hcell h a = some (.int kd x)) (hz : hfroz h a = false) (hS : ¬ S.still δ.g a) (hq : Q (.int kd x) (hset h a nv) δ) : SemW P S (Extern.Atomic.swapT (.int kd) #[.pointer (some a), nv]) h δ Q X := by
  show SemW P S (Extern.Atomic.read (.int kd) a >>= _) h δ Q X
  refine semW_read hc ?_
  exact ⟨hnv.1, hnv.2, ⟨_, hc⟩, hz, hS, hq⟩

theorem semW_mark0 {m : Mark} (h1 : ∀ a, m ≠ .read a) (h2 : ∀ a, m ≠ .write a) {vs : Array Value} (hq : Q (.tuple #[]) h (markd m δ)) : SemW P S ((fun _ => do mark m; pure Extern.Race.none_ : Array Value → Sem Value) vs) h δ Q X :=
  ⟨h1, h2, hq⟩

theorem semW_marked {m : Addr → Mark} (h1 : ∀ x a, m x ≠ .read a) (h2 : ∀ x a, m x ≠ .write a) (hq : Q (.tuple #[]) h (markd (m a) δ)) : SemW P S (Extern.Race.marked m #[.pointer (some a)]) h δ Q X :=
  ⟨h1 a, h2 a, hq⟩
end atomics

/-- A pointer turned into an unsafe.Pointer. -/
theorem ER.toUnsafe {src dst t sz by_ : Nat} {z : Value} [hs : Und P src (.pointer t)] [hdt : Und P dst .unsafePointer] [i : Inf P t sz by_ z] {x : Operand} {a : Addr} {v : Value} (hw : wantE ops env g = some true) (hd : Nat.blt d n = true) (hx : ev env x = some (.pointer (some a))) (hsz : sz ≠ 0) (hc : hcell h a = some v)
    (hn : ER P main S f n ops l k ((d, .pointer (some a)) :: env) ds h δ R) : ER P main S f n ops (⟨some d, .convert src dst x, ty, pos, af, g⟩ :: l) k env ds h δ R :=
  ER.to hw hd (fun ρ Q X hρ hq => by
    show SemW P S (convert src dst (ρ x) >>= fun v => pure (.value v)) h δ Q X
    rw [hρ x _ hx]
    refine semW_bind _ _ _ _ _ _ ?_
    unfold convert
    refine semW_underlying hs.out (semW_underlying hdt.out ?_)
    show SemW P S (Conv.unsafePointer src dst (.pointer (some a))) h δ _ X
    unfold Conv.unsafePointer
    refine semW_underlying hs.out (semW_underlying hdt.out ?_)
    obtain ⟨c, e, f, hb, hs', hv⟩ := hcell_some hc
    have h1 : hshape h a.block = some (e, c.size) := by simp [hshape, hb]
    obtain ⟨inf, g1, g2, g3, g4⟩ := i.get
    have hlt : a.off < c.size := by
      rcases Nat.lt_or_ge a.off c.size with y | y
      · exact y
      · simp [Array.getElem?_eq_none y] at hv
    show SemW P S (Conv.seenAt a >>= _) h δ _ X
    refine semW_bind _ _ _ _ _ _ ?_
    unfold Conv.seenAt
    change SemW P S (Sem.bind (Sem.bind (Sem.shape a.block Sem.pure) _) _) h δ _ X
    simp only [Sem.bind, SemW, h1, Option.isSome]
    show SemW P S (cellsIn a.block >>= _) h δ _ X
    refine semW_bind _ _ _ _ _ _ ?_
    unfold cellsIn
    change SemW P S (Sem.bind (Sem.shape a.block Sem.pure) _) h δ _ X
    simp only [Sem.bind, SemW, h1]
    refine semW_sizeOf g1 ?_
    have h2 : ¬ (inf.size = 0) := by rw [g2]; exact hsz
    have h3 : ¬ (a.off ≥ c.size) := by omega
    simp only [h2, h3, decide_false, Bool.false_and, Bool.or_self, Bool.false_eq_true, if_false]
    exact hq) hn

/-! ### calls by contract -/

/-- It returns, and so. -/
def Ret (Q : Value → Hp → Ix Γ → Prop) : Post Γ
  | .ret v, h, δ => Q v h δ
  | .pan _, _, _ => False

theorem CallW.conseq {c : FuncId} {args : Array Value} {Q Q' : Value → Hp → Ix Γ → Prop} (hc : CallW P main S c args h δ (Ret Q)) (hq : ∀ v h' δ', Q v h' δ' → Q' v h' δ') : CallW P main S c args h δ (Ret Q') :=
  hc.mono (by
    rintro (v | p) h δ hx
    · exact hq _ _ _ hx
    · exact hx)

/-- A call met by its contract. -/
theorem ER.callR {x : Operand} {args : Array Operand} {ats : Array TypeId} {c : FuncId} {cap ws : Array Value} {vs : List Value} [HasBody P c] {Q : Value → Hp → Ix Γ → Prop} (hw : wantE ops env g = some true) (hd : Nat.blt d n = true) (hx : ev env x = some (.func (.func c) #[] cap))
    (ha : evL env args.toList = some vs) (hws : vs.toArray ++ cap = ws) (hc : CallW P main S c ws h δ (Ret Q))
    (hn : ∀ v h' δ', Q v h' δ' → ER P main S f n ops l k ((d, v) :: env) ds h' δ' R) : ER P main S f n ops (⟨some d, .call { callee := .value x, args, argTypes := ats }, ty, pos, af, g⟩ :: l) k env ds h δ R := by
  subst hws
  refine ER.call hw hd hx ha (hc.mono ?_)
  rintro (v | p) h' δ' hq
  · exact hn _ _ _ hq
  · exact hq.elim

theorem ER.callRU {x : Operand} {args : Array Operand} {ats : Array TypeId} {c : FuncId} {cap ws : Array Value} {vs : List Value} [HasBody P c] {Q : Value → Hp → Ix Γ → Prop} (hw : wantE ops env g = some true) (hx : ev env x = some (.func (.func c) #[] cap))
    (ha : evL env args.toList = some vs) (hws : vs.toArray ++ cap = ws) (hc : CallW P main S c ws h δ (Ret Q))
    (hn : ∀ v h' δ', Q v h' δ' → ER P main S f n ops l k env ds h' δ' R) : ER P main S f n ops (⟨none, .call { callee := .value x, args, argTypes := ats }, ty, pos, af, g⟩ :: l) k env ds h δ R := by
  subst hws
  refine ER.callU hw hx ha (hc.mono ?_)
  rintro (v | p) h' δ' hq
  · exact hn _ _ _ hq
  · exact hq.elim

theorem EU.deferR {c : FuncId} {cap args ws : Array Value} [HasBody P c] {Q : Value → Hp → Ix Γ → Prop} (hws : args ++ cap = ws) (hc : CallW P main S c ws h δ (Ret Q))
    (hn : ∀ v h' δ', Q v h' δ' → EU P main S f n .returning env ds h' δ' R) : EU P main S f n .returning env ({ target := .fn (.func c) cap, args := args } :: ds) h δ R := by
  subst hws
  refine EU.deferRet (hc.mono ?_)
  rintro (v | p) h' δ' hq
  · exact hn _ _ _ hq
  · exact hq

/-- What a function does that ends in one way. -/
def Det (v : Value) (h' : Hp) (δ' : Ix Γ) : Value → Hp → Ix Γ → Prop := fun v1 h1 δ1 => v1 = v ∧ h1 = h' ∧ δ1 = δ'

theorem ER.callD {x : Operand} {args : Array Operand} {ats : Array TypeId} {c : FuncId} {cap ws : Array Value} {vs : List Value} [HasBody P c] {v : Value} {h' : Hp} {δ' : Ix Γ} (hw : wantE ops env g = some true) (hd : Nat.blt d n = true) (hx : ev env x = some (.func (.func c) #[] cap))
    (ha : evL env args.toList = some vs) (hws : vs.toArray ++ cap = ws) (hc : CallW P main S c ws h δ (Ret (Det v h' δ')))
    (hn : ER P main S f n ops l k ((d, v) :: env) ds h' δ' R) : ER P main S f n ops (⟨some d, .call { callee := .value x, args, argTypes := ats }, ty, pos, af, g⟩ :: l) k env ds h δ R :=
  ER.callR hw hd hx ha hws hc (by rintro _ _ _ ⟨rfl, rfl, rfl⟩; exact hn)

theorem ER.callDU {x : Operand} {args : Array Operand} {ats : Array TypeId} {c : FuncId} {cap ws : Array Value} {vs : List Value} [HasBody P c] {v : Value} {h' : Hp} {δ' : Ix Γ} (hw : wantE ops env g = some true) (hx : ev env x = some (.func (.func c) #[] cap))
    (ha : evL env args.toList = some vs) (hws : vs.toArray ++ cap = ws) (hc : CallW P main S c ws h δ (Ret (Det v h' δ')))
    (hn : ER P main S f n ops l k env ds h' δ' R) : ER P main S f n ops (⟨none, .call { callee := .value x, args, argTypes := ats }, ty, pos, af, g⟩ :: l) k env ds h δ R :=
  ER.callRU hw hx ha hws hc (by rintro _ _ _ ⟨rfl, rfl, rfl⟩; exact hn)

theorem EU.deferD {c : FuncId} {cap args ws : Array Value} [HasBody P c] {v : Value} {h' : Hp} {δ' : Ix Γ} (hws : args ++ cap = ws) (hc : CallW P main S c ws h δ (Ret (Det v h' δ')))
    (hn : EU P main S f n .returning env ds h' δ' R) : EU P main S f n .returning env ({ target := .fn (.func c) cap, args := args } :: ds) h δ R :=
  EU.deferR hws hc (by rintro _ _ _ ⟨rfl, rfl, rfl⟩; exact hn)

theorem det {v : Value} {h' : Hp} {δ' : Ix Γ} : Ret (Det v h' δ') (.ret v) h' δ' := ⟨rfl, rfl, rfl⟩

/-- A loop: an invariant over a ghost state, a measure that every round lowers. -/
theorem EK.loopInv {σ : Type} (E : σ → Env) (I : σ → Hp → Ix Γ → Prop) (μ : σ → Nat) {body : Code} (s0 : σ) (hE : subE (E s0) env) (hI : I s0 h δ)
    (hround : ∀ s h δ, I s h δ → (∀ s' h' δ', μ s' < μ s → I s' h' δ' → EK P main S f n (.inLoop body :: k) (E s') ds h' δ' R) → EK P main S f n (.code body :: .inLoop body :: k) (E s) ds h δ R) :
    EK P main S f n (.code (.loop body) :: k) env ds h δ R := by
  have key : ∀ m s h δ, μ s < m → I s h δ → EK P main S f n (.code body :: .inLoop body :: k) (E s) ds h δ R := by
    intro m
    induction m with
    | zero => intro s h δ hm; omega
    | succ m ih =>
      intro s h δ hm hI
      exact hround s h δ hI fun s' h' δ' hlt hI' => EK.inLoop (ih s' h' δ' (by omega) hI')
  exact EK.sub hE (EK.loop (key (μ s0 + 1) s0 h δ (by omega) hI))

theorem i64_in {x : Int} (h1 : -9223372036854775808 ≤ x) (h2 : x ≤ 9223372036854775807) : IntKind.i64.wrap x = x := by
  simp only [IntKind.wrap, IntKind.signed, IntKind.bits]
  simp
  omega
theorem i32_in {x : Int} (h1 : -2147483648 ≤ x) (h2 : x ≤ 2147483647) : IntKind.i32.wrap x = x := by
  simp only [IntKind.wrap, IntKind.signed, IntKind.bits]
  simp
  omega
end
end Go.TJ
