/- Own theory, part 22: channels and maps are made; several operations of a drawn region that each make something; a lone walk in company. Conditions: facts on the program's types. -/
import Derived.Test.YtkppboglffdmnaaTjV
import Derived.Test.YtkppboglffdmnaaTjG
namespace Go.TJ
open Go Go.Conc
variable {Γ : Type}

section
variable {P : Program} {main : Bool} {S : Sit Γ} {f : FuncId} {n : Nat} {k : List Item} {env : Env} {ds : List Deferred} {h : Hp} {δ : Ix Γ} {R : Post Γ}
variable {ops : Array Oper} {l : List Oper} {d : Nat} {ty : TypeId} {pos : String} {af : Array Edge} {g : Option (Nat × Bool)}

theorem thawed_chan {c s r : Nat} {b : Array Value} {cl tm : Bool} : Thawed (.chan c b cl s r tm) := by intro _ _ _ h; cases h
theorem thawed_map {e : Array MapEntry} {c : Nat} : Thawed (.map e c) := by intro _ _ _ h; cases h

/-- A channel without a buffer. -/
theorem sem_makeChan {t elem sz by_ : Nat} {z : Value} {dir : ChanDir} [hu : Und P t (.chan dir elem)] [i : Inf P elem sz by_ z] {x : Operand} {ρ : Operand → Value} {dst : Option Nat} {Q : Next → Hp → Ix Γ → Prop} {X : Value → Hp → Ix Γ → Prop}
    (hx : ρ x = .int .i64 0) (hq : Q (.value (.chan (some h.size))) (h.push (.chan 0 #[] false 0 0 false)) δ) : SemW P S (execOp ρ ⟨dst, .makeChan t x, ty, pos, af, g⟩) h δ Q X := by
  show SemW P S (Instr.makeChan t (ρ x) >>= fun v => pure (.value v)) h δ Q X
  rw [hx]
  refine semW_bind _ _ _ _ _ _ ?_
  obtain ⟨inf, h1, _⟩ := i.get
  unfold Instr.makeChan
  refine semW_pureBind (a := (0 : Int)) ?_
  refine semW_underlying hu.out ?_
  refine semW_typeInfo h1 ?_
  rw [if_neg (by simp [IntKind.max, IntKind.signed, IntKind.bits])]
  exact ⟨thawed_chan, hq⟩

theorem ER.makeChan {t elem sz by_ : Nat} {z : Value} {dir : ChanDir} [Und P t (.chan dir elem)] [Inf P elem sz by_ z] {x : Operand} (hw : wantE ops env g = some true) (hd : Nat.blt d n = true) (hx : ev env x = some (.int .i64 0))
    (hn : ER P main S f n ops l k ((d, .chan (some h.size)) :: env) ds (h.push (.chan 0 #[] false 0 0 false)) δ R) : ER P main S f n ops (⟨some d, .makeChan t x, ty, pos, af, g⟩ :: l) k env ds h δ R :=
  ER.to hw hd (fun ρ Q X hρ hq => sem_makeChan (hρ x _ hx) hq) hn

theorem ER.makeMap {t : Nat} (hw : wantE ops env g = some true) (hd : Nat.blt d n = true)
    (hn : ER P main S f n ops l k ((d, .map (some h.size)) :: env) ds (h.push (.map #[] 0)) δ R) : ER P main S f n ops (⟨some d, .makeMap t none, ty, pos, af, g⟩ :: l) k env ds h δ R :=
  ER.to hw hd (fun ρ Q X hρ hq => by
    show SemW P S (Instr.makeMap t none >>= fun v => pure (.value v)) h δ Q X
    exact ⟨thawed_map, hq⟩) hn

/-! ### several operations may come up -/
variable {Z : Hp → Prop} {z : Nat} {m : Nat} {listed l' : Array Bool}

/-- Operation i comes up. -/
def EAi (P : Program) (main : Bool) (S : Sit Γ) (f : FuncId) (n : Nat) (ops : Array Oper) (Z : Hp → Prop) (z : Nat) (m : Nat) (listed : Array Bool) (k : List Item) (env : Env) (ds : List Deferred) (h : Hp) (δ : Ix Γ) (R : Post Γ) (i : Nat) : Prop :=
  ∀ a, Kn n env ds a → OpK P main S f R ops i (fun a' h' δ' => (i = z ∨ Z h') ∧ AnyK P main S f k R ops Z z m (listed.setIfInBounds i true) a' h' δ') a h δ

theorem EA.alts {is : List Nat} (hr : Region.ready .any ops listed = is) (hne : is ≠ []) (hh : ∀ i ∈ is, EAi P main S f n ops Z z m listed k env ds h δ R i) : EA P main S f n ops Z z (m + 1) listed k env ds h δ R := by
  intro a ka
  refine ⟨fun x => absurd (hr.symm.trans x) hne, fun i hi => hh i (hr ▸ hi) a ka⟩
theorem EA.alt2 (i j : Nat) (hr : Region.ready .any ops listed = [i, j]) (h1 : EAi P main S f n ops Z z m listed k env ds h δ R i) (h2 : EAi P main S f n ops Z z m listed k env ds h δ R j) : EA P main S f n ops Z z (m + 1) listed k env ds h δ R :=
  EA.alts hr (by simp) (by simp only [List.mem_cons, List.not_mem_nil, or_false]; rintro x (rfl | rfl) <;> assumption)
theorem EA.alt3 (i j q : Nat) (hr : Region.ready .any ops listed = [i, j, q]) (h1 : EAi P main S f n ops Z z m listed k env ds h δ R i) (h2 : EAi P main S f n ops Z z m listed k env ds h δ R j) (h3 : EAi P main S f n ops Z z m listed k env ds h δ R q) : EA P main S f n ops Z z (m + 1) listed k env ds h δ R :=
  EA.alts hr (by simp) (by simp only [List.mem_cons, List.not_mem_nil, or_false]; rintro x (rfl | rfl | rfl) <;> assumption)

theorem EAi.val {i : Nat} {op : Op} {v : Value} {h' : Hp} (hi : ops[i]? = some ⟨some d, op, ty, pos, af, g⟩) (hl : listed.setIfInBounds i true = l') (hd : Nat.blt d n = true) (hw : wantE ops env g = some true)
    (hs : ∀ (ρ : Operand → Value) (Q : Next → Hp → Ix Γ → Prop) (X : Value → Hp → Ix Γ → Prop), (∀ x v, ev env x = some v → ρ x = v) → Q (.value v) h' δ → SemW P S (execOp ρ ⟨some d, op, ty, pos, af, g⟩) h δ Q X) (hZ : Z h')
    (hn : EA P main S f n ops Z z m l' k ((d, v) :: env) ds h' δ R) : EAi P main S f n ops Z z m listed k env ds h δ R i := by
  subst hl
  intro a ka
  unfold OpK
  simp only [hi]
  rw [if_pos (wantE_ok ka (o := ⟨some d, op, ty, pos, af, g⟩) hw)]
  exact hs a.eval _ _ (fun x v hx => ka.eval hx) ⟨.inr hZ, hn _ (ka.put v hd)⟩
end

section
variable {P : Program} {main : Bool} {S : Sit Γ} {h : Hp} {δ : Ix Γ} {ty : TypeId} {pos : String} {af : Array Edge} {g : Option (Nat × Bool)}
theorem sem_neqV {t t2 : TypeId} {x y : Operand} {u w : Value} {dd : TypeDesc} {r : Bool} {ρ : Operand → Value} {dst : Option Nat} {Q : Next → Hp → Ix Γ → Prop} {X : Value → Hp → Ix Γ → Prop} [hu : Und P t dd] (hx : ρ x = u) (hy : ρ y = w) (hr : eqRes dd u w = some r) (hq : Q (.value (.bool (!r))) h δ) :
    SemW P S (execOp ρ ⟨dst, .binOp .neq t x y t2, ty, pos, af, g⟩) h δ Q X := by
  refine semW_binOp ?_
  rw [hx, hy]
  have hg : eqGuard .neq t x y u w = pure () := by
    unfold eqRes at hr
    unfold eqGuard
    split at hr <;> first | rfl | (cases hr; done)
  rw [hg]
  have e : binOp .neq t u w = (Op.equal t u w >>= fun b => pure (.bool (!b))) := by
    unfold eqRes at hr
    split at hr <;> first | rfl | (cases hr; done)
  show SemW P S (binOp .neq t u w) h δ _ X
  rw [e]
  exact semW_bind _ _ _ _ _ _ (semW_equal hu.out hr hq)

/-- An interface value against the literal nil. -/
theorem sem_neqIf {t t2 : TypeId} {x : Operand} {u : Value} {ms : Array (String × TypeId)} {b : Bool} {ρ : Operand → Value} {dst : Option Nat} {Q : Next → Hp → Ix Γ → Prop} {X : Value → Hp → Ix Γ → Prop} [hu : Und P t (.interface ms)] (hx : ρ x = u) (hy : ρ (.const .nilIface) = .nilIface) (hb : (u = .nilIface ∧ b = false) ∨ (∃ ti v, u = .iface ti v ∧ b = true)) (hq : Q (.value (.bool b)) h δ) :
    SemW P S (execOp ρ ⟨dst, .binOp .neq t x (.const .nilIface) t2, ty, pos, af, g⟩) h δ Q X := by
  refine semW_binOp ?_
  rw [hx, hy]
  have hg : eqGuard .neq t x (.const .nilIface) u .nilIface = pure () := by
    rcases hb with ⟨rfl, _⟩ | ⟨_, _, rfl, _⟩
    · unfold eqGuard
      cases x <;> rfl
    · unfold eqGuard; rfl
  rw [hg]
  have e : binOp .neq t u .nilIface = (Op.equal t u .nilIface >>= fun b => pure (.bool (!b))) := by
    rcases hb with ⟨rfl, _⟩ | ⟨_, _, rfl, _⟩ <;> rfl
  show SemW P S (binOp .neq t u .nilIface) h δ _ X
  rw [e]
  refine semW_bind _ _ _ _ _ _ ?_
  unfold Op.equal Op.maxDepth Op.equalIn
  refine semW_underlying hu.out ?_
  rcases hb with ⟨rfl, rfl⟩ | ⟨_, _, rfl, rfl⟩ <;> exact hq
end

/-- What is done alone is done in company, where nothing is still. -/
theorem Runs.noS {P : Program} {main : Bool} {S : Sit Γ} {Stop : Goroutine → Hp → Ix Γ → Prop} {g : Goroutine} {h : Hp} {δ : Ix Γ} (hr : Runs P main NoS Stop g h δ) : (∀ a, ¬ S.still δ.g a) → Runs P main S Stop g h δ := by
  induction hr with
  | stop hs => intro _; exact .stop hs
  | @step g h δ Y _ hst ih =>
    intro hno
    refine .step (fun g' h' δ' => Y g' h' δ' ∧ δ'.g = δ.g) (fun g' h' δ' hy => ih g' h' δ' hy.1 (by rw [hy.2]; exact hno)) ⟨hst.1, fun w hw => ?_⟩
    obtain ⟨g', w', es, a, b, c, e, y⟩ := hst.2 w hw
    exact ⟨g', w', es, a, b, c.anti fun l hl => absurd hl (hno l), fun x hx => (e x hx).anti fun l hl => absurd hl (hno l), y, rfl⟩
  | hands _ _ hy _ => exact hy.elim
theorem CallW.noS {P : Program} {main : Bool} {S : Sit Γ} {f : FuncId} {args : Array Value} {h : Hp} {δ : Ix Γ} {R : Post Γ} (hc : CallW P main NoS f args h δ R) (hno : ∀ a, ¬ S.still δ.g a) : CallW P main S f args h δ R :=
  fun kind hk cs => (hc kind hk cs).noS hno

/-! ### what has been made since, by numbers -/

/-- Behind h0 these new blocks have come, each under its number. -/
structure Made (h0 h : Hp) (F : Nat → Option (Nat × Obj)) : Prop where
  upd : Upd (fun _ => False) h0 h
  has : ∀ i b o, F i = some (b, o) → h0.size ≤ b ∧ h[b]? = some o
  inj : ∀ i j b o o', F i = some (b, o) → F j = some (b, o') → i = j

theorem Made.none (h0 : Hp) : Made h0 h0 (fun _ => .none) := ⟨Upd.refl _ _, fun _ _ _ e => (by cases e), fun _ _ _ _ _ e => (by cases e)⟩
theorem Made.push {h0 h : Hp} {F : Nat → Option (Nat × Obj)} (m : Made h0 h F) (i : Nat) (o : Obj) : Made h0 (h.push o) (ut F i (some (h.size, o))) := by
  have old : ∀ j b o', j ≠ i → ut F i (some (h.size, o)) j = some (b, o') → F j = some (b, o') := fun j b o' hj e => by rwa [ut_ne _ _ hj] at e
  have lt : ∀ j b o', F j = some (b, o') → b < h.size := fun j b o' e => lt_of_get (m.has j b o' e).2
  refine ⟨m.upd.trans (Upd.push h o), fun j b o' e => ?_, fun j q b o1 o2 e1 e2 => ?_⟩
  · by_cases hj : j = i
    · subst hj
      rw [ut_same] at e
      cases e
      exact ⟨m.upd.size, get_push_new h o⟩
    · have e' := old j b o' hj e
      exact ⟨(m.has j b o' e').1, get_push _ (m.has j b o' e').2⟩
  · by_cases hj : j = i <;> by_cases hq : q = i
    · rw [hj, hq]
    · subst hj
      rw [ut_same] at e1
      cases e1
      have := lt q _ _ (old q _ _ hq e2)
      omega
    · subst hq
      rw [ut_same] at e2
      cases e2
      have := lt j _ _ (old j _ _ hj e1)
      omega
    · exact m.inj j q b o1 o2 (old j b o1 hj e1) (old q b o2 hq e2)

theorem EA.sub {P : Program} {main : Bool} {S : Sit Γ} {f : FuncId} {n : Nat} {ops : Array Oper} {Z : Hp → Prop} {z m : Nat} {listed : Array Bool} {k : List Item} {env e : Env} {ds : List Deferred} {h : Hp} {δ : Ix Γ} {R : Post Γ} (hs : subE e env)
    (hk : EA P main S f n ops Z z m listed k e ds h δ R) : EA P main S f n ops Z z m listed k env ds h δ R := fun a ka => hk a (ka.sub hs)
end Go.TJ
