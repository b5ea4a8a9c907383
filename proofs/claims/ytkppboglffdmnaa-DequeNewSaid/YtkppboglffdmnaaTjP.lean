/- Own theory, part 20: on the way to a receive: steps that leave the world as it is, and read places that stand still. Conditions: facts on the program's types. -/
import Derived.Test.YtkppboglffdmnaaTjZ
namespace Go.TJ
open Go Go.Conc
variable {Γ : Type}

/-- A piece of the model's own small programs that reads cells of C alone, and ends in Q. -/
def SemR (P : Program) (C : Addr → Option Value) {α : Type} : Sem α → (α → Prop) → Prop
  | .pure a, Q => Q a
  | .load m a k, Q => m = .plain ∧ ∃ v, C a = some v ∧ SemR P C (k v) Q
  | .program k, Q => SemR P C (k P) Q
  | _, _ => False

section
variable {P : Program} {C : Addr → Option Value}

def ReadsC (C : Addr → Option Value) (es : Array Event) : Prop := ∀ e ∈ es, ∃ a, e = (⟨.cell a, false, false⟩ : Event) ∧ (C a).isSome = true
def OfC (C : Addr → Option Value) (h : Hp) : Prop := ∀ a v, C a = some v → hcell h a = some v

theorem semR_sound {α : Type} (s : Sem α) : ∀ {Q : α → Prop}, SemR P C s Q → ∀ w : World, OfC C w.heap → ∀ es₀ : Array Event, ∃ a es, s.runT P w es₀ = (.ok a w, es₀ ++ es) ∧ Q a ∧ ReadsC C es := by
  induction s with
  | pure a => intro Q h w _ es₀; exact ⟨a, #[], by simp [Sem.runT], h, by simp [ReadsC]⟩
  | load m a k ih =>
    intro Q ⟨hm, v, hv, h⟩ w hC es₀
    subst hm
    obtain ⟨x, es, h1, h2, h3⟩ := ih v h w hC (es₀.push ⟨.cell a, false, false⟩)
    refine ⟨x, #[⟨.cell a, false, false⟩] ++ es, ?_, h2, fun e he => ?_⟩
    · have e : w.cell? a = some v := hC a v hv
      simp only [Sem.runT, e]
      rw [show (Mode.plain == Mode.atomic) = false from rfl, h1, Array.push_eq_append, Array.append_assoc]
    · rcases Array.mem_append.1 he with he | he
      · simp at he; subst he
        exact ⟨a, rfl, by rw [hv]; rfl⟩
      · exact h3 e he
  | program k ih =>
    intro Q h w hC es₀
    obtain ⟨x, es, h1, h2, h3⟩ := ih P h w hC es₀
    exact ⟨x, es, by simp only [Sem.runT]; exact h1, h2, h3⟩
  | _ => intro Q h; exact h.elim

theorem semR_bind {α β : Type} (s : Sem α) (f : α → Sem β) : ∀ {Q : β → Prop}, SemR P C s (fun a => SemR P C (f a) Q) → SemR P C (s.bind f) Q := by
  induction s with
  | pure a => intro Q h; exact h
  | load m a k ih => intro Q ⟨h1, v, h2, h3⟩; exact ⟨h1, v, h2, ih v h3⟩
  | program k ih => intro Q h; exact ih P h
  | _ => intro Q h; exact h.elim

theorem semR_pureBind {α β : Type} {a : α} {g : α → Sem β} {Q : β → Prop} (hs : SemR P C (g a) Q) : SemR P C (pure a >>= g) Q := hs
theorem semR_underlying {β : Type} {t : TypeId} {d : TypeDesc} (hu : P.underlying t = some d) {g : TypeDesc → Sem β} {Q : β → Prop} (hs : SemR P C (g d) Q) : SemR P C (underlying t >>= g) Q := by
  change SemR P C (Sem.bind (Sem.bind (Sem.program Sem.pure) _) g) Q
  simp only [Sem.bind, SemR, hu]
  exact hs

theorem semR_sizeOf {β : Type} {t : TypeId} {i : TypeInfo} (hu : P.info? t = some i) {g : Nat → Sem β} {Q : β → Prop} (hs : SemR P C (g i.size) Q) : SemR P C (sizeOf t >>= g) Q := by
  refine semR_bind _ _ (semR_bind _ _ ?_)
  change SemR P C (Sem.bind (Sem.program Sem.pure) _) _
  simp only [Sem.bind, SemR, hu]
  exact hs

theorem semR_zeroValue {β : Type} {t : TypeId} {i : TypeInfo} {z : Value} (hu : P.info? t = some i) (hz : i.zero = some z) {g : Value → Sem β} {Q : β → Prop} (hs : SemR P C (g z) Q) : SemR P C (zeroValue t >>= g) Q := by
  refine semR_bind _ _ (semR_bind _ _ ?_)
  change SemR P C (Sem.bind (Sem.program Sem.pure) _) _
  simp only [Sem.bind, SemR, hu]
  show SemR P C (match i.zero with | some v => pure v | none => unsupported (.resourceLimit "a value of more than 2^22 cells") : Sem Value) _
  simp only [hz]
  exact hs

theorem semR_isAgg {β : Type} {t : TypeId} {d : TypeDesc} (hu : P.underlying t = some d) {g : Bool → Sem β} {Q : β → Prop} (hs : SemR P C (g (TypeDesc.aggB d)) Q) : SemR P C (isAgg t >>= g) Q := by
  refine semR_bind _ _ ?_
  unfold isAgg
  refine semR_underlying hu ?_
  cases d <;> exact hs

theorem semR_loadVar1 {t : TypeId} [s : Scal P t] {a : Addr} {v : Value} {Q : Value → Prop} (hc : C a = some v) (hq : Q v) : SemR P C (loadVar t a) Q := by
  obtain ⟨d, hu, hd, _⟩ := s.out
  unfold loadVar
  refine semR_isAgg hu ?_
  rw [hd]
  exact ⟨rfl, v, hc, hq⟩

theorem semR_fieldAt {s fld off : Nat} [fo : FieldOff P s fld off] {b o : Nat} {Q : Value → Prop} (hq : Q (.pointer (some ⟨b, o + off, none⟩))) : SemR P C (Instr.fieldAt s (.pointer (some ⟨b, o, none⟩)) fld) Q := by
  obtain ⟨fields, fd, inf, hu, hf, ho, hi, hs⟩ := fo.out
  unfold Instr.fieldAt
  refine semR_underlying hu ?_
  simp only [hf]
  refine semR_pureBind ?_
  refine semR_bind _ _ ?_
  unfold fieldPlace
  refine semR_sizeOf hi ?_
  rw [if_neg hs, add_eq, ho]
  exact hq
end

/-- It is on its way to a receive at channel c; where it is served there, Hm holds. -/
def Way (P : Program) (main : Bool) (c : Nat) (C : Addr → Option Value) (B : Nat) (Hm : Goroutine → Prop) (g : Goroutine) : Prop :=
  ∃ z ok n, ∀ W : Wait, W = ⟨c, z, ok, C, B, fun g₂ => Hm (Go.Conc.served g₂ (recvd ok tok true))⟩ → ∀ w, Goes P main (RK W.K) (DS W.St W.B) (fun g _ => ∃ g₂, W.At P main g g₂) n g w

section
variable {P : Program} {main : Bool} {c : Nat} {C : Addr → Option Value} {B : Nat} {Hm : Goroutine → Prop}

theorem Way.go {g g' : Goroutine} (hr : g.status = .running) (hB : ∀ a, (C a).isSome = true → a.block < B) (hst : ∀ w : World, OfC C w.heap → ∃ es, stepG P main g w = .go g' w es ∧ ReadsC C es) (hw : Way P main c C B Hm g') : Way P main c C B Hm g := by
  obtain ⟨z, ok, n, hn⟩ := hw
  refine ⟨z, ok, n + 1, fun W hW w => .inr ⟨hr, fun w₁ hK => ?_⟩⟩
  have hW' := hn W hW w₁
  subst hW
  obtain ⟨es, h1, h2⟩ := hst w₁ hK
  rw [h1, goes_go]
  refine ⟨⟨rfl, fun e he => ?_⟩, hW'⟩
  obtain ⟨a, rfl, ha⟩ := h2 e he
  exact ⟨a, rfl, ⟨a, rfl, ha⟩, hB a ha⟩

theorem Way.ctl {g g' : Goroutine} (hr : g.status = .running) (hB : ∀ a, (C a).isSome = true → a.block < B) (hst : ∀ w : World, stepG P main g w = .go g' w) (hw : Way P main c C B Hm g') : Way P main c C B Hm g :=
  Way.go hr hB (fun w _ => ⟨#[], hst w, by simp [ReadsC]⟩) hw

theorem Way.recv {g : Goroutine} {z : Value} {ok : Bool} (hr : g.status = .running) (hB : ∀ a, (C a).isSome = true → a.block < B)
    (hst : ∀ w : World, OfC C w.heap → stepG P main g w = .comm g #[rcase c z] true (.recv ok) w #[]) (hh : Hm (Go.Conc.served g (recvd ok tok true))) : Way P main c C B Hm g := by
  refine ⟨z, ok, 0, fun W hW w w₁ hK => ?_⟩
  subst hW
  exact ⟨g, hr, rfl, rfl, rfl, hh, #[], by simp, fun w hw => hst w hw⟩

theorem Way.sits {X : Proto Γ} {i : Nat} {γ : Γ} {h : Hp} {g : Goroutine} {Y : Goroutine → Hp → Ix Γ → Prop} (hm : main = (i == 0)) (h1 : X.ch γ i = some c) (h2 : ∀ a v, X.cells γ i a = some v → hcell h a = some v) (h3 : ∃ k, h[c]? = some (.chan 0 #[] false k k false))
    (h4 : ∀ x, x ≠ i → x < X.num γ → X.ch γ x ≠ some c) (hw : Way P main c (X.cells γ i) B (fun g => ∀ γ₂ h₂, X.R i γ γ₂ → X.Pass i γ₂ h₂ → Y g h₂ ⟨0, γ₂⟩) g) : SitsAt P X i γ h g Y := by
  subst hm
  obtain ⟨z, ok, n, hn⟩ := hw
  exact ⟨c, h1, h2, h3, h4, z, ok, B, n + 1, fun W hW => .inl ⟨n, default, rfl, hn W (by rw [hW]) default⟩⟩
end

/-! ### the same in code over known slots -/
section
variable (P : Program) (main : Bool) (c : Nat) (C : Addr → Option Value) (B : Nat) (Hm : Goroutine → Prop) (f : FuncId) (n : Nat) (kind : CallKind) (cs : List Frame)
def EY (todo : List Item) (env : Env) (ds : List Deferred) : Prop := ∀ a, Kn n env ds a → Way P main c C B Hm (G ((fb f kind).at a todo) cs)
def RY (ops : Array Oper) (l : List Oper) (k : List Item) (env : Env) (ds : List Deferred) : Prop :=
  ∀ rest : List Nat, rest.map (fun i => ops[i]?) = l.map some → EY P main c C B Hm f n kind cs (.inRegion ops rest :: k) env ds
end

section
variable {P : Program} {main : Bool} {c : Nat} {C : Addr → Option Value} {B : Nat} {Hm : Goroutine → Prop} {f : FuncId} {n : Nat} {kind : CallKind} {cs : List Frame} {k : List Item} {env : Env} {ds : List Deferred}

theorem EY.seq (hB : ∀ a, (C a).isSome = true → a.block < B) {x y : Code} (hw : EY P main c C B Hm f n kind cs (.code x :: .code y :: k) env ds) : EY P main c C B Hm f n kind cs (.code (.seq x y) :: k) env ds := fun a ka => Way.ctl rfl hB (fun _ => stepG_seq) (hw a ka)
theorem EY.region (hB : ∀ a, (C a).isSome = true → a.block < B) {id : Nat} {ops : Array Oper} (hw : RY P main c C B Hm f n kind cs ops ops.toList k env ds) : EY P main c C B Hm f n kind cs (.code (.region id ops false) :: k) env ds := by
  intro a ka
  refine Way.ctl rfl hB (fun _ => stepG_region) (hw _ ?_ a ka)
  apply List.ext_getElem?
  intro i
  simp only [List.getElem?_map, Array.getElem?_toList]
  by_cases hi : i < ops.size
  · simp [hi]
  · have h1 : (List.range ops.size)[i]? = none := by simp; omega
    have h2 : ops[i]? = none := by simp; omega
    rw [h1, h2]; rfl
theorem RY.done (hB : ∀ a, (C a).isSome = true → a.block < B) {ops : Array Oper} (hw : EY P main c C B Hm f n kind cs k env ds) : RY P main c C B Hm f n kind cs ops [] k env ds := by
  intro rest hr a ka
  have : rest = [] := by simpa using hr
  subst this
  exact Way.ctl rfl hB (fun _ => stepG_region_end) (hw a ka)

section
variable {ops : Array Oper} {l : List Oper} {d : Nat} {ty : TypeId} {pos : String} {af : Array Edge} {g : Option (Nat × Bool)}

theorem RY.val {op : Op} {v : Value} (hB : ∀ a, (C a).isSome = true → a.block < B) (hk : kind ≠ .early) (hw : wantE ops env g = some true) (hd : Nat.blt d n = true)
    (hs : ∀ ρ : Operand → Value, (∀ x v, ev env x = some v → ρ x = v) → SemR P C (execOp ρ ⟨some d, op, ty, pos, af, g⟩) (fun nx => nx = .value v))
    (hn : RY P main c C B Hm f n kind cs ops l k ((d, v) :: env) ds) : RY P main c C B Hm f n kind cs ops (⟨some d, op, ty, pos, af, g⟩ :: l) k env ds := by
  intro rest hr a ka
  obtain ⟨i, r, rfl, ho, hr'⟩ := ER.uncons hr
  refine Way.go rfl hB (fun w hC => ?_) (hn r hr' _ (ka.put v hd))
  obtain ⟨x, es, h1, rfl, h3⟩ := semR_sound _ (hs a.eval (fun x v hx => ka.eval hx)) w hC #[]
  have hk' : (kind == CallKind.early) = false := by simpa using hk
  have hfin : ((fb f kind).at a (.inRegion ops (i :: r) :: k)).finish v = (fb f kind).at (a.put (some d) v) (.inRegion ops r :: k) := by rw [Frame.finish_at, ho]; rfl
  refine ⟨seen P f es, ?_, fun e he => h3 e (mem_seen he)⟩
  rw [stepG_oper ho (wantE_ok ka (o := ⟨some d, op, ty, pos, af, g⟩) hw)]
  have hkind : ((fb f kind).at a (.inRegion ops (i :: r) :: k)).kind = kind := rfl
  have hfn : ((fb f kind).at a (.inRegion ops (i :: r) :: k)).fn = f := rfl
  simp only [stepG.apply, h1, if_true, hkind, hk', hfn, Bool.false_eq_true, if_false, Array.empty_append, ← hfin]
  simp [GStep.after, G]

theorem RY.defer {op : Op} {dd : Deferred} (hB : ∀ a, (C a).isSome = true → a.block < B) (hk : kind ≠ .early) (hw : wantE ops env g = some true)
    (hs : ∀ ρ : Operand → Value, (∀ x v, ev env x = some v → ρ x = v) → SemR P C (execOp ρ ⟨none, op, ty, pos, af, g⟩) (fun nx => nx = .defer dd))
    (hn : RY P main c C B Hm f n kind cs ops l k env (dd :: ds)) : RY P main c C B Hm f n kind cs ops (⟨none, op, ty, pos, af, g⟩ :: l) k env ds := by
  intro rest hr a ka
  obtain ⟨i, r, rfl, ho, hr'⟩ := ER.uncons hr
  refine Way.go (g' := G ((fb f kind).at { a with defers := dd :: a.defers } (.inRegion ops r :: k)) cs) rfl hB (fun w hC => ?_) (hn r hr' _ ⟨ka.size, by simp [ka.defers], ka.knows⟩)
  obtain ⟨x, es, h1, rfl, h3⟩ := semR_sound _ (hs a.eval (fun x v hx => ka.eval hx)) w hC #[]
  have hk' : (kind == CallKind.early) = false := by simpa using hk
  have hfin2 : ({ (fb f kind).at a (.inRegion ops (i :: r) :: k) with defers := dd :: a.defers } : Frame).finish undef = (fb f kind).at { a with defers := dd :: a.defers } (.inRegion ops r :: k) := by
    have := Frame.finish_at (fb f kind) { a with defers := dd :: a.defers } ops i r k undef
    rw [ho] at this; exact this
  refine ⟨seen P f es, ?_, fun e he => h3 e (mem_seen he)⟩
  rw [stepG_oper ho (wantE_ok ka (o := ⟨none, op, ty, pos, af, g⟩) hw)]
  have hkind : ((fb f kind).at a (.inRegion ops (i :: r) :: k)).kind = kind := rfl
  have hfn : ((fb f kind).at a (.inRegion ops (i :: r) :: k)).fn = f := rfl
  rw [← hfin2]
  simp only [stepG.apply, h1, if_true, hkind, hk', hfn, Bool.false_eq_true, if_false, Array.empty_append]
  simp [GStep.after, G, Frame.at]

theorem RY.move {x : Operand} {v : Value} (hB : ∀ a, (C a).isSome = true → a.block < B) (hk : kind ≠ .early) (hw : wantE ops env g = some true) (hd : Nat.blt d n = true) (hx : ev env x = some v)
    (hn : RY P main c C B Hm f n kind cs ops l k ((d, v) :: env) ds) : RY P main c C B Hm f n kind cs ops (⟨some d, .move x, ty, pos, af, g⟩ :: l) k env ds :=
  RY.val hB hk hw hd (fun ρ hρ => congrArg Next.value (hρ x v hx)) hn

theorem RY.nilCheck {x : Operand} {a : Addr} (hB : ∀ a, (C a).isSome = true → a.block < B) (hk : kind ≠ .early) (hw : wantE ops env g = some true) (hd : Nat.blt d n = true) (hx : ev env x = some (.pointer (some a)))
    (hn : RY P main c C B Hm f n kind cs ops l k ((d, .pointer (some a)) :: env) ds) : RY P main c C B Hm f n kind cs ops (⟨some d, .nilCheck x, ty, pos, af, g⟩ :: l) k env ds :=
  RY.val hB hk hw hd (fun ρ hρ => by
    unfold execOp
    simp only [hρ x _ hx]
    exact rfl) hn

theorem RY.fieldAddr {s fld off : Nat} [fo : FieldOff P s fld off] {x : Operand} {b o : Nat} (hB : ∀ a, (C a).isSome = true → a.block < B) (hk : kind ≠ .early) (hw : wantE ops env g = some true) (hd : Nat.blt d n = true) (hx : ev env x = some (.pointer (some ⟨b, o, none⟩)))
    (hn : RY P main c C B Hm f n kind cs ops l k ((d, .pointer (some ⟨b, o + off, none⟩)) :: env) ds) : RY P main c C B Hm f n kind cs ops (⟨some d, .fieldAddr s x fld, ty, pos, af, g⟩ :: l) k env ds :=
  RY.val hB hk hw hd (fun ρ hρ => by
    show SemR P C (Instr.fieldAt s (ρ x) fld >>= fun v => pure (Next.value v)) _
    rw [hρ x _ hx]
    exact semR_bind _ _ (semR_fieldAt rfl)) hn

theorem RY.load1 {t : TypeId} [Scal P t] {x : Operand} {a : Addr} {v : Value} (hB : ∀ a, (C a).isSome = true → a.block < B) (hk : kind ≠ .early) (hw : wantE ops env g = some true) (hd : Nat.blt d n = true) (hx : ev env x = some (.pointer (some a))) (hc : C a = some v)
    (hn : RY P main c C B Hm f n kind cs ops l k ((d, v) :: env) ds) : RY P main c C B Hm f n kind cs ops (⟨some d, .load t x, ty, pos, af, g⟩ :: l) k env ds :=
  RY.val hB hk hw hd (fun ρ hρ => by
    show SemR P C ((Instr.sureAddr (ρ x) >>= fun a => loadVar t a) >>= fun v => pure (Next.value v)) _
    rw [hρ x _ hx]
    exact semR_bind _ _ (semR_loadVar1 hc rfl)) hn

theorem RY.makeFunc {fn : Fn} {first cap : Array Operand} {fv cv : Array Value} (hB : ∀ a, (C a).isSome = true → a.block < B) (hk : kind ≠ .early) (hw : wantE ops env g = some true) (hd : Nat.blt d n = true)
    (hf : ∀ ρ : Operand → Value, (∀ x v, ev env x = some v → ρ x = v) → first.map ρ = fv ∧ cap.map ρ = cv)
    (hn : RY P main c C B Hm f n kind cs ops l k ((d, .func fn fv cv) :: env) ds) : RY P main c C B Hm f n kind cs ops (⟨some d, .makeFunc fn first cap, ty, pos, af, g⟩ :: l) k env ds :=
  RY.val hB hk hw hd (fun ρ hρ => by
    show Next.value (.func fn (first.map ρ) (cap.map ρ)) = _
    rw [(hf ρ hρ).1, (hf ρ hρ).2]) hn

/-- THE RECEIVE. -/
theorem RY.recv {t elem by_ sz : Nat} {z : Value} {x : Operand} {dir : ChanDir} (hu : P.underlying t = some (.chan dir elem)) [i : Inf P elem sz by_ z] (hB : ∀ a, (C a).isSome = true → a.block < B) (hk : kind ≠ .early) (hw : wantE ops env g = some true) (hd : Nat.blt d n = true) (hx : ev env x = some (.chan (some c)))
    (hh : ∀ rest : List Nat, rest.map (fun i => ops[i]?) = l.map some → ∀ a, Kn n ((d, tok) :: env) ds a → Hm (G ((fb f kind).at a (.inRegion ops rest :: k)) cs)) : RY P main c C B Hm f n kind cs ops (⟨some d, .recv t x false, ty, pos, af, g⟩ :: l) k env ds := by
  intro rest hr a ka
  obtain ⟨j, r, rfl, ho, hr'⟩ := ER.uncons hr
  have hfin : ((fb f kind).at a (.inRegion ops (j :: r) :: k)).finish tok = (fb f kind).at (a.put (some d) tok) (.inRegion ops r :: k) := by rw [Frame.finish_at, ho]; rfl
  refine Way.recv (z := z) (ok := false) rfl hB (fun w hC => ?_) ?_
  · obtain ⟨inf, h1, h2, h3, h4⟩ := i.get
    have hs : SemR P (fun _ => none) (execOp a.eval ⟨some d, .recv t x false, ty, pos, af, g⟩) (fun nx => nx = .comm #[rcase c z] true (.recv false)) := by
      show SemR P _ (underlying t >>= _) _
      refine semR_underlying hu ?_
      refine semR_zeroValue h1 h4 ?_
      rw [ka.eval hx]
      exact rfl
    obtain ⟨y, es, h5, rfl, h6⟩ := semR_sound _ hs w (fun _ _ e => by cases e) #[]
    have hes : es = #[] := by
      apply Array.eq_empty_iff_forall_not_mem.2
      intro e he
      obtain ⟨_, _, e'⟩ := h6 e he
      cases e'
    subst hes
    have hk' : (kind == CallKind.early) = false := by simpa using hk
    rw [stepG_oper ho (wantE_ok ka (o := ⟨some d, .recv t x false, ty, pos, af, g⟩) hw)]
    have hkind : ((fb f kind).at a (.inRegion ops (j :: r) :: k)).kind = kind := rfl
    have hfn : ((fb f kind).at a (.inRegion ops (j :: r) :: k)).fn = f := rfl
    simp only [stepG.apply, h5, if_true, hkind, hk', hfn, Bool.false_eq_true, if_false, Array.empty_append]
    simp [GStep.after, G, seen_def]
  · show Hm (G (((fb f kind).at a (.inRegion ops (j :: r) :: k)).finish tok) cs)
    rw [hfin]
    exact hh r hr' _ (ka.put tok hd)
end
end
end Go.TJ
