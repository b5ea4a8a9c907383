/- Own theory, part 5: code under way over a list of known slots, and the rule of each kind of operation. Conditions: facts on the program's types; the cells that are touched. -/
import Derived.Test.YtkppboglffdmnaaTjOps
namespace Go.TJ
open Go Go.Conc
variable {Γ : Type}

abbrev Env := List (Nat × Value)

def look : Env → Nat → Option Value
  | [], _ => none
  | (i, v) :: l, j => match Nat.beq i j with
    | true => some v
    | false => look l j

def ev (env : Env) : Operand → Option Value
  | .tmp t => look env t
  | .const v => some v
  | .global g => some (.pointer (some ⟨g, 0, none⟩))
  | .func f => some (.func (.func f) #[] #[])

/-- What is known of a frame's slots. -/
structure Kn (n : Nat) (env : Env) (ds : List Deferred) (a : Act) : Prop where
  size : a.tmps.size = n
  defers : a.defers = ds
  knows : ∀ i v, look env i = some v → a.tmps[i]? = some v

theorem Kn.eval {n : Nat} {env : Env} {ds : List Deferred} {a : Act} (k : Kn n env ds a) {x : Operand} {v : Value} (h : ev env x = some v) : a.eval x = v := by
  cases x with
  | tmp t => simp only [Act.eval, Array.getD_eq_getD_getElem?, k.knows t v h]; rfl
  | const c => exact Option.some.inj h
  | global g => exact Option.some.inj h
  | func f => exact Option.some.inj h

theorem look_cons (i : Nat) (v : Value) (l : Env) (j : Nat) : look ((i, v) :: l) j = if i = j then some v else look l j := by
  simp only [look]
  split
  · rename_i h; rw [if_pos (Nat.eq_of_beq_eq_true h)]
  · rename_i h; rw [if_neg (fun e => by subst e; simp at h)]

theorem Kn.put {n : Nat} {env : Env} {ds : List Deferred} {a : Act} (k : Kn n env ds a) {d : Nat} (v : Value) (hd : Nat.blt d n = true) : Kn n ((d, v) :: env) ds (a.put (some d) v) := by
  have hd' : d < n := by simpa [Nat.blt_eq] using hd
  refine ⟨by simp [Act.put, k.size], k.defers, fun i x hx => ?_⟩
  rw [look_cons] at hx
  simp only [Act.put]
  by_cases e : d = i
  · subst e
    rw [if_pos rfl] at hx
    rw [Array.getElem?_setIfInBounds_self_of_lt (by rw [k.size]; exact hd'), hx]
  · rw [if_neg e] at hx
    rw [Array.getElem?_setIfInBounds_ne e]
    exact k.knows i x hx

/-- A smaller list of known slots. -/
def subE : Env → Env → Prop
  | [], _ => True
  | (i, v) :: l, env => look env i = some v ∧ subE l env

theorem subE_look {e env : Env} (h : subE e env) {i : Nat} {v : Value} (hl : look e i = some v) : look env i = some v := by
  induction e with
  | nil => cases hl
  | cons p l ih =>
    obtain ⟨j, x⟩ := p
    rw [look_cons] at hl
    obtain ⟨h1, h2⟩ := h
    split at hl
    · rename_i e; subst e; cases hl; exact h1
    · exact ih h2 hl

theorem Kn.sub {n : Nat} {env e : Env} {ds : List Deferred} {a : Act} (k : Kn n env ds a) (h : subE e env) : Kn n e ds a :=
  ⟨k.size, k.defers, fun i v hl => k.knows i v (subE_look h hl)⟩

/-- The slots in 'is' that are known. -/
def keep (env : Env) (is : List Nat) : Env := is.filterMap fun i => (look env i).map fun v => (i, v)

theorem subE_keep (env : Env) (is : List Nat) : subE (keep env is) env := by
  induction is with
  | nil => trivial
  | cons i l ih =>
    unfold keep at *
    rw [List.filterMap_cons]
    cases h : look env i with
    | none => exact ih
    | some v => exact ⟨h, ih⟩

/-- Does the guard let the operation be carried out? (none: not known) -/
def wantE (ops : Array Oper) (env : Env) : Option (Nat × Bool) → Option Bool
  | none => some true
  | some (j, b) =>
    match (ops[j]?).bind (·.dst) with
    | some t => match look env t with
      | some (.bool x) => some (x == b)
      | some (.tuple _) => some false
      | _ => none
    | none => none

theorem wantE_ok {ops : Array Oper} {n : Nat} {env : Env} {ds : List Deferred} {a : Act} (k : Kn n env ds a) {o : Oper} {b : Bool} (h : wantE ops env o.guard = some b) : Region.wanted o (yielded ops a.tmps) = b := by
  unfold Region.wanted
  cases hg : o.guard with
  | none => rw [hg] at h; simp [wantE] at h; simp [h]
  | some p =>
    obtain ⟨j, x⟩ := p
    rw [hg] at h
    simp only [wantE] at h
    split at h
    · rename_i t ht
      split at h
      · rename_i y hy
        have e : yielded ops a.tmps j = some y := by
          unfold yielded
          rw [ht]
          simp only [Option.bind_some, k.knows t _ hy]
        dsimp only
        rw [e]
        have : (y == x) = b := Option.some.inj h
        simpa using this
      · rename_i y hy
        have e : yielded ops a.tmps j = none := by
          unfold yielded
          rw [ht]
          simp only [Option.bind_some, k.knows t _ hy]
        dsimp only
        rw [e]
        have : false = b := Option.some.inj h
        simpa using this
      · cases h
    · cases h

section
variable (P : Program) (main : Bool) (S : Sit Γ) (f : FuncId) (n : Nat)

def EK (todo : List Item) (env : Env) (ds : List Deferred) (h : Hp) (δ : Ix Γ) (R : Post Γ) : Prop := ∀ a, Kn n env ds a → WK P main S f todo a h δ R
def EU (mode : FrameMode) (env : Env) (ds : List Deferred) (h : Hp) (δ : Ix Γ) (R : Post Γ) : Prop := ∀ a, Kn n env ds a → WU P main S f mode a h δ R
/-- In a region: these operations are left, in this order. -/
def ER (ops : Array Oper) (l : List Oper) (k : List Item) (env : Env) (ds : List Deferred) (h : Hp) (δ : Ix Γ) (R : Post Γ) : Prop :=
  ∀ rest : List Nat, rest.map (fun i => ops[i]?) = l.map some → EK P main S f n (.inRegion ops rest :: k) env ds h δ R
end

section
variable {P : Program} {main : Bool} {S : Sit Γ} {f : FuncId} {n : Nat} {k : List Item} {env : Env} {ds : List Deferred} {h : Hp} {δ : Ix Γ} {R : Post Γ}

theorem EK.sub {todo : List Item} {e : Env} (hs : subE e env) (hk : EK P main S f n todo e ds h δ R) : EK P main S f n todo env ds h δ R := fun a ka => hk a (ka.sub hs)
theorem EK.keeps {todo : List Item} (is : List Nat) (hk : EK P main S f n todo (keep env is) ds h δ R) : EK P main S f n todo env ds h δ R := EK.sub (subE_keep env is) hk
theorem EK.skip (hw : EK P main S f n k env ds h δ R) : EK P main S f n (.code .skip :: k) env ds h δ R := fun a ka => WK.skip (hw a ka)
theorem EK.label {l : Nat} (hw : EK P main S f n k env ds h δ R) : EK P main S f n (.code (.label l) :: k) env ds h δ R := fun a ka => WK.label (hw a ka)
theorem EK.inBlock {id : Nat} (hw : EK P main S f n k env ds h δ R) : EK P main S f n (.inBlock id :: k) env ds h δ R := fun a ka => WK.inBlock (hw a ka)
theorem EK.seq {x y : Code} (hw : EK P main S f n (.code x :: .code y :: k) env ds h δ R) : EK P main S f n (.code (.seq x y) :: k) env ds h δ R := fun a ka => WK.seq (hw a ka)
theorem EK.block {id : Nat} {c : Code} (hw : EK P main S f n (.code c :: .inBlock id :: k) env ds h δ R) : EK P main S f n (.code (.block id c) :: k) env ds h δ R := fun a ka => WK.block (hw a ka)
theorem EK.loop {c : Code} (hw : EK P main S f n (.code c :: .inLoop c :: k) env ds h δ R) : EK P main S f n (.code (.loop c) :: k) env ds h δ R := fun a ka => WK.loop (hw a ka)
theorem EK.inLoop {c : Code} (hw : EK P main S f n (.code c :: .inLoop c :: k) env ds h δ R) : EK P main S f n (.inLoop c :: k) env ds h δ R := fun a ka => WK.inLoop (hw a ka)
theorem EK.exit {id : Nat} {k' : List Item} (he : exitTo id k = some k') (hw : EK P main S f n k' env ds h δ R) : EK P main S f n (.code (.exit id) :: k) env ds h δ R := fun a ka => WK.exit he (hw a ka)
theorem EK.condT {c : Operand} {x y : Code} (hc : ev env c = some (.bool true)) (hw : EK P main S f n (.code x :: k) env ds h δ R) : EK P main S f n (.code (.cond c x y) :: k) env ds h δ R := fun a ka => WK.cond (ka.eval hc) (hw a ka)
theorem EK.condF {c : Operand} {x y : Code} (hc : ev env c = some (.bool false)) (hw : EK P main S f n (.code y :: k) env ds h δ R) : EK P main S f n (.code (.cond c x y) :: k) env ds h δ R := fun a ka => WK.cond (ka.eval hc) (hw a ka)
theorem EK.condS {c : Operand} {x y : Code} {t : Bool} (hc : ev env c = some (.bool t)) (h1 : t = true → EK P main S f n (.code x :: k) env ds h δ R) (h2 : t = false → EK P main S f n (.code y :: k) env ds h δ R) : EK P main S f n (.code (.cond c x y) :: k) env ds h δ R :=
  fun a ka => WK.cond (ka.eval hc) (by
    cases t
    · exact h2 rfl a ka
    · exact h1 rfl a ka)
theorem EK.done (hw : EU P main S f n .returning env ds h δ R) : EK P main S f n [] env ds h δ R := fun a ka => WK.done (hw a ka)
theorem EK.ret (hw : EU P main S f n .returning env ds h δ R) : EK P main S f n (.code .ret :: k) env ds h δ R := fun a ka => WK.ret (hw a ka)

theorem EK.region {id : Nat} {ops : Array Oper} (hw : ER P main S f n ops ops.toList k env ds h δ R) : EK P main S f n (.code (.region id ops false) :: k) env ds h δ R := by
  intro a ka
  refine WK.region (hw _ ?_ a ka)
  apply List.ext_getElem?
  intro i
  simp only [List.getElem?_map, Array.getElem?_toList]
  by_cases hi : i < ops.size
  · simp [hi]
  · have h1 : (List.range ops.size)[i]? = none := by simp; omega
    have h2 : ops[i]? = none := by simp; omega
    rw [h1, h2]; rfl

theorem ER.done {ops : Array Oper} (hw : EK P main S f n k env ds h δ R) : ER P main S f n ops [] k env ds h δ R := by
  intro rest hr a ka
  have : rest = [] := by simpa using hr
  subst this
  exact WK.regionEnd (hw a ka)

theorem ER.uncons {ops : Array Oper} {o : Oper} {l : List Oper} {rest : List Nat} (hr : rest.map (fun i => ops[i]?) = (o :: l).map some) : ∃ i r, rest = i :: r ∧ ops[i]? = some o ∧ r.map (fun i => ops[i]?) = l.map some := by
  cases rest with
  | nil => cases hr
  | cons i r => simp at hr; exact ⟨i, r, rfl, hr.1, by simpa using hr.2⟩

theorem ER.no {ops : Array Oper} {l : List Oper} {d : Nat} {op : Op} {ty : TypeId} {pos : String} {af : Array Edge} {g : Option (Nat × Bool)} (hw : wantE ops env g = some false) (hd : Nat.blt d n = true)
    (hn : ER P main S f n ops l k ((d, undef) :: env) ds h δ R) : ER P main S f n ops (⟨some d, op, ty, pos, af, g⟩ :: l) k env ds h δ R := by
  intro rest hr a ka
  obtain ⟨i, r, rfl, ho, hr'⟩ := ER.uncons hr
  exact WK.unwanted ho (wantE_ok ka (o := ⟨some d, op, ty, pos, af, g⟩) hw) (hn r hr' _ (ka.put undef hd))

theorem ER.noU {ops : Array Oper} {l : List Oper} {op : Op} {ty : TypeId} {pos : String} {af : Array Edge} {g : Option (Nat × Bool)} (hw : wantE ops env g = some false)
    (hn : ER P main S f n ops l k env ds h δ R) : ER P main S f n ops (⟨none, op, ty, pos, af, g⟩ :: l) k env ds h δ R := by
  intro rest hr a ka
  obtain ⟨i, r, rfl, ho, hr'⟩ := ER.uncons hr
  exact WK.unwanted ho (wantE_ok ka (o := ⟨none, op, ty, pos, af, g⟩) hw) (hn r hr' _ ka)

/-- An operation that yields a value. -/
theorem ER.val {ops : Array Oper} {l : List Oper} {d : Nat} {op : Op} {ty : TypeId} {pos : String} {af : Array Edge} {g : Option (Nat × Bool)} {Q : Value → Hp → Ix Γ → Prop} (hw : wantE ops env g = some true) (hd : Nat.blt d n = true)
    (hs : ∀ ρ : Operand → Value, (∀ x v, ev env x = some v → ρ x = v) → SemW P S (execOp ρ ⟨some d, op, ty, pos, af, g⟩) h δ (fun nx h' δ' => ∃ v, nx = .value v ∧ Q v h' δ') (fun v h' δ' => EU P main S f n (.panicking [{ v, recovered := false }]) env ds h' δ' R))
    (hn : ∀ v h' δ', Q v h' δ' → ER P main S f n ops l k ((d, v) :: env) ds h' δ' R) : ER P main S f n ops (⟨some d, op, ty, pos, af, g⟩ :: l) k env ds h δ R := by
  intro rest hr a ka
  obtain ⟨i, r, rfl, ho, hr'⟩ := ER.uncons hr
  refine WK.op ho (wantE_ok ka (o := ⟨some d, op, ty, pos, af, g⟩) hw) (semW_mono _ _ _ (hs a.eval (fun x v hx => ka.eval hx)) ?_ (fun v h δ hx => hx a ka))
  rintro nx h' δ' ⟨v, rfl, hq⟩
  exact hn v h' δ' hq r hr' _ (ka.put v hd)

/-- An operation that yields nothing. -/
theorem ER.unit {ops : Array Oper} {l : List Oper} {op : Op} {ty : TypeId} {pos : String} {af : Array Edge} {g : Option (Nat × Bool)} {Q : Hp → Ix Γ → Prop} (hw : wantE ops env g = some true)
    (hs : ∀ ρ : Operand → Value, (∀ x v, ev env x = some v → ρ x = v) → SemW P S (execOp ρ ⟨none, op, ty, pos, af, g⟩) h δ (fun nx h' δ' => (nx = .skip ∨ ∃ v, nx = .value v) ∧ Q h' δ') (fun v h' δ' => EU P main S f n (.panicking [{ v, recovered := false }]) env ds h' δ' R))
    (hn : ∀ h' δ', Q h' δ' → ER P main S f n ops l k env ds h' δ' R) : ER P main S f n ops (⟨none, op, ty, pos, af, g⟩ :: l) k env ds h δ R := by
  intro rest hr a ka
  obtain ⟨i, r, rfl, ho, hr'⟩ := ER.uncons hr
  refine WK.op ho (wantE_ok ka (o := ⟨none, op, ty, pos, af, g⟩) hw) (semW_mono _ _ _ (hs a.eval (fun x v hx => ka.eval hx)) ?_ (fun v h δ hx => hx a ka))
  rintro nx h' δ' ⟨rfl | ⟨v, rfl⟩, hq⟩
  · exact hn h' δ' hq r hr' _ ka
  · exact hn h' δ' hq r hr' _ ka

/-- A call. -/
theorem ER.callGen {ops : Array Oper} {l : List Oper} {d : Nat} {op : Op} {ty : TypeId} {pos : String} {af : Array Edge} {g : Option (Nat × Bool)} {c : FuncId} {args : Array Value} (hw : wantE ops env g = some true) (hd : Nat.blt d n = true)
    (hs : ∀ (ρ : Operand → Value) (Q : Next → Hp → Ix Γ → Prop) (X : Value → Hp → Ix Γ → Prop), (∀ x v, ev env x = some v → ρ x = v) → Q (.enter c args) h δ → SemW P S (execOp ρ ⟨some d, op, ty, pos, af, g⟩) h δ Q X)
    (hn : CallW P main S c args h δ fun
      | .ret v, h', δ' => ER P main S f n ops l k ((d, v) :: env) ds h' δ' R
      | .pan p, h', δ' => EU P main S f n (.panicking p) env ds h' δ' R) : ER P main S f n ops (⟨some d, op, ty, pos, af, g⟩ :: l) k env ds h δ R := by
  intro rest hr a ka
  obtain ⟨i, r, rfl, ho, hr'⟩ := ER.uncons hr
  refine WK.op ho (wantE_ok ka (o := ⟨some d, op, ty, pos, af, g⟩) hw) (hs a.eval _ _ (fun x v hx => ka.eval hx) (hn.mono ?_))
  rintro (v | p) h' δ' hq
  · exact hq r hr' _ (ka.put v hd)
  · exact hq a ka

theorem ER.callGenU {ops : Array Oper} {l : List Oper} {op : Op} {ty : TypeId} {pos : String} {af : Array Edge} {g : Option (Nat × Bool)} {c : FuncId} {args : Array Value} (hw : wantE ops env g = some true)
    (hs : ∀ (ρ : Operand → Value) (Q : Next → Hp → Ix Γ → Prop) (X : Value → Hp → Ix Γ → Prop), (∀ x v, ev env x = some v → ρ x = v) → Q (.enter c args) h δ → SemW P S (execOp ρ ⟨none, op, ty, pos, af, g⟩) h δ Q X)
    (hn : CallW P main S c args h δ fun
      | .ret _, h', δ' => ER P main S f n ops l k env ds h' δ' R
      | .pan p, h', δ' => EU P main S f n (.panicking p) env ds h' δ' R) : ER P main S f n ops (⟨none, op, ty, pos, af, g⟩ :: l) k env ds h δ R := by
  intro rest hr a ka
  obtain ⟨i, r, rfl, ho, hr'⟩ := ER.uncons hr
  refine WK.op ho (wantE_ok ka (o := ⟨none, op, ty, pos, af, g⟩) hw) (hs a.eval _ _ (fun x v hx => ka.eval hx) (hn.mono ?_))
  rintro (v | p) h' δ' hq
  · exact hq r hr' _ ka
  · exact hq a ka

/-- A deferred call is laid by. -/
theorem ER.deferGen {ops : Array Oper} {l : List Oper} {op : Op} {ty : TypeId} {pos : String} {af : Array Edge} {g : Option (Nat × Bool)} {d : Deferred} (hw : wantE ops env g = some true)
    (hs : ∀ (ρ : Operand → Value) (Q : Next → Hp → Ix Γ → Prop) (X : Value → Hp → Ix Γ → Prop), (∀ x v, ev env x = some v → ρ x = v) → Q (.defer d) h δ → SemW P S (execOp ρ ⟨none, op, ty, pos, af, g⟩) h δ Q X)
    (hn : ER P main S f n ops l k env (d :: ds) h δ R) : ER P main S f n ops (⟨none, op, ty, pos, af, g⟩ :: l) k env ds h δ R := by
  intro rest hr a ka
  obtain ⟨i, r, rfl, ho, hr'⟩ := ER.uncons hr
  refine WK.op ho (wantE_ok ka (o := ⟨none, op, ty, pos, af, g⟩) hw) (hs a.eval _ _ (fun x v hx => ka.eval hx) ?_)
  exact hn r hr' _ ⟨ka.size, by simp [Act.put, ka.defers], ka.knows⟩
end
end Go.TJ
