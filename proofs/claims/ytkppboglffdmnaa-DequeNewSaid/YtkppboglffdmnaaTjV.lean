/- Own theory, part 21: handing over and starting others, in code; the outermost frames of one that was started. Conditions: facts on the program's types. -/
import Derived.Test.YtkppboglffdmnaaTjP
namespace Go.TJ
open Go Go.Conc
variable {Γ : Type}

/-- The record of one that was started, below its function's. -/
def rootFr (P : Program) : Frame := { (default : Frame) with fn := P.funcs.size, mode := .panicking [goexitEntry] }

theorem stepG_born {P : Program} {main : Bool} {b : FuncId} {cap : Array Value} [hb : HasBody P b] (w : World) : stepG P main (born P { target := .fn (.func b) cap, args := #[] }) w = .go (G (Frame.enter P b cap .deferred) [rootFr P]) w := by
  obtain ⟨fn, c, h1, h2, h3⟩ := hb.out
  have hinv : (invoke (.fn (.func b) cap) #[]).runT P w #[] = (.ok (.enter b cap) w, #[]) := by
    have e : (invoke (.fn (.func b) cap) #[]).runT P w #[] = (callFunc b (#[] ++ cap)).runT P w #[] := rfl
    rw [e, callFunc_runT h1 h2 h3]; simp
  unfold born
  simp only [stepG, unwind, callDeferred]
  rw [hinv]
  simp [GStep.after, seen_def, rootFr, G]
  rfl

theorem Way.born {P : Program} {c : Nat} {C : Addr → Option Value} {B : Nat} {Hm : Goroutine → Prop} {b : FuncId} {cap : Array Value} [HasBody P b] (hB : ∀ a, (C a).isSome = true → a.block < B) (hw : Way P false c C B Hm (G (Frame.enter P b cap .deferred) [rootFr P])) :
    Way P false c C B Hm (Go.Conc.born P { target := .fn (.func b) cap, args := #[] }) := Way.ctl rfl hB (fun w => stepG_born w) hw

theorem Way.enter {P : Program} {main : Bool} {c : Nat} {C : Addr → Option Value} {B : Nat} {Hm : Goroutine → Prop} {f : FuncId} {n : Nat} {fn : Func} {code : Code} {args : Array Value} {kind : CallKind} {cs : List Frame} [hf : IsFn P f fn] (hb : fn.body = some code) (hn : args.size + (fn.ntmps - args.size) = n)
    (hk : EY P main c C B Hm f n kind cs [.code code] (argE 0 args.toList) []) : Way P main c C B Hm (G (Frame.enter P f args kind) cs) := by
  have e : Frame.enter P f args kind = (fb f kind).at { tmps := args ++ Array.replicate (fn.ntmps - args.size) undef, defers := [] } [.code code] := by
    simp [Frame.enter, Frame.at, hf.out, hb, fb]
  rw [e]
  refine hk _ ⟨by simp [hn], rfl, fun i v hl => ?_⟩
  obtain ⟨_, h2⟩ := argE_look _ _ _ _ hl
  have h3 : args[i]? = some v := by simpa using h2
  have hi : i < args.size := by
    rcases Nat.lt_or_ge i args.size with x | x
    · exact x
    · simp [Array.getElem?_eq_none x] at h3
  rw [Array.getElem?_append_left hi, h3]

/-! ### the outermost frames: where the frames below are known -/
section
variable (P : Program) (main : Bool) (S : Sit Γ) (Stop : Goroutine → Hp → Ix Γ → Prop) (f : FuncId) (n : Nat) (kind : CallKind) (cs : List Frame)
def TK (todo : List Item) (env : Env) (ds : List Deferred) (h : Hp) (δ : Ix Γ) : Prop := ∀ a, Kn n env ds a → Runs P main S Stop (G ((fb f kind).at a todo) cs) h δ
def TR (ops : Array Oper) (l : List Oper) (k : List Item) (env : Env) (ds : List Deferred) (h : Hp) (δ : Ix Γ) : Prop :=
  ∀ rest : List Nat, rest.map (fun i => ops[i]?) = l.map some → TK P main S Stop f n kind cs (.inRegion ops rest :: k) env ds h δ
def TU (mode : FrameMode) (env : Env) (ds : List Deferred) (h : Hp) (δ : Ix Γ) : Prop := ∀ a todo, Kn n env ds a → Runs P main S Stop (G { (fb f kind).at a todo with mode := mode } cs) h δ
end

section
variable {P : Program} {main : Bool} {S : Sit Γ} {Stop : Goroutine → Hp → Ix Γ → Prop} {f : FuncId} {n : Nat} {kind : CallKind} {cs : List Frame} {k : List Item} {env : Env} {ds : List Deferred} {h : Hp} {δ : Ix Γ}

theorem TK.start {fn : Func} {code : Code} {args : Array Value} [hf : IsFn P f fn] (hb : fn.body = some code) (hn : args.size + (fn.ntmps - args.size) = n)
    (hk : TK P main S Stop f n kind cs [.code code] (argE 0 args.toList) [] h δ) : Runs P main S Stop (G (Frame.enter P f args kind) cs) h δ := by
  have e : Frame.enter P f args kind = (fb f kind).at { tmps := args ++ Array.replicate (fn.ntmps - args.size) undef, defers := [] } [.code code] := by
    simp [Frame.enter, Frame.at, hf.out, hb, fb]
  rw [e]
  refine hk _ ⟨by simp [hn], rfl, fun i v hl => ?_⟩
  obtain ⟨_, h2⟩ := argE_look _ _ _ _ hl
  have h3 : args[i]? = some v := by simpa using h2
  have hi : i < args.size := by
    rcases Nat.lt_or_ge i args.size with x | x
    · exact x
    · simp [Array.getElem?_eq_none x] at h3
  rw [Array.getElem?_append_left hi, h3]
theorem TK.skip (hw : TK P main S Stop f n kind cs k env ds h δ) : TK P main S Stop f n kind cs (.code .skip :: k) env ds h δ := fun a ka => .ctl rfl (fun _ => stepG_skip) (hw a ka)
theorem TK.seq {x y : Code} (hw : TK P main S Stop f n kind cs (.code x :: .code y :: k) env ds h δ) : TK P main S Stop f n kind cs (.code (.seq x y) :: k) env ds h δ := fun a ka => .ctl rfl (fun _ => stepG_seq) (hw a ka)
theorem TK.cond {c : Operand} {x y : Code} {t : Bool} (hc : ev env c = some (.bool t)) (hw : TK P main S Stop f n kind cs (.code (if t then x else y) :: k) env ds h δ) : TK P main S Stop f n kind cs (.code (.cond c x y) :: k) env ds h δ :=
  fun a ka => .ctl rfl (fun _ => stepG_cond (ka.eval hc)) (hw a ka)
theorem TK.done (hw : TU P main S Stop f n kind cs .returning env ds h δ) : TK P main S Stop f n kind cs [] env ds h δ := fun a ka => .ctl rfl (fun _ => stepG_end) (hw a [] ka)
theorem TK.region {id : Nat} {ops : Array Oper} (hw : TR P main S Stop f n kind cs ops ops.toList k env ds h δ) : TK P main S Stop f n kind cs (.code (.region id ops false) :: k) env ds h δ := by
  intro a ka
  refine .ctl rfl (fun _ => stepG_region) (hw _ ?_ a ka)
  apply List.ext_getElem?
  intro i
  simp only [List.getElem?_map, Array.getElem?_toList]
  by_cases hi : i < ops.size
  · simp [hi]
  · have h1 : (List.range ops.size)[i]? = none := by simp; omega
    have h2 : ops[i]? = none := by simp; omega
    rw [h1, h2]; rfl
theorem TR.done {ops : Array Oper} (hw : TK P main S Stop f n kind cs k env ds h δ) : TR P main S Stop f n kind cs ops [] k env ds h δ := by
  intro rest hr a ka
  have : rest = [] := by simpa using hr
  subst this
  exact .ctl rfl (fun _ => stepG_region_end) (hw a ka)

section
variable {ops : Array Oper} {l : List Oper} {d : Nat} {ty : TypeId} {pos : String} {af : Array Edge} {g : Option (Nat × Bool)} {op : Op}

theorem TR.no (hw : wantE ops env g = some false) (hd : Nat.blt d n = true) (hn : TR P main S Stop f n kind cs ops l k ((d, undef) :: env) ds h δ) : TR P main S Stop f n kind cs ops (⟨some d, op, ty, pos, af, g⟩ :: l) k env ds h δ := by
  intro rest hr a ka
  obtain ⟨i, r, rfl, ho, hr'⟩ := ER.uncons hr
  refine .ctl rfl (fun w => ?_) (hn r hr' _ (ka.put undef hd))
  exact stepG_unwanted ho (wantE_ok ka (o := ⟨some d, op, ty, pos, af, g⟩) hw)

/-- An operation that yields a value, or nothing. -/
theorem TR.opv {dst : Option Nat} {v : Value} {h' : Hp} {env' : Env} (hk : kind ≠ .early) (hw : wantE ops env g = some true)
    (hs : ∀ ρ : Operand → Value, (∀ x v, ev env x = some v → ρ x = v) → SemW P S (execOp ρ ⟨dst, op, ty, pos, af, g⟩) h δ (fun nx h'' δ'' => (nx = .value v ∨ (nx = .skip ∧ v = undef)) ∧ h'' = h' ∧ δ'' = δ) (fun _ _ _ => False))
    (he : ∀ a, Kn n env ds a → Kn n env' ds (a.put dst v))
    (hn : TR P main S Stop f n kind cs ops l k env' ds h' δ) : TR P main S Stop f n kind cs ops (⟨dst, op, ty, pos, af, g⟩ :: l) k env ds h δ := by
  intro rest hr a ka
  obtain ⟨i, r, rfl, ho, hr'⟩ := ER.uncons hr
  refine .of_step ⟨rfl, fun w hwh => ?_⟩
  obtain ⟨es, res, hrun, hev, hran⟩ := semW_sound _ h δ _ _ (hs a.eval (fun x v hx => ka.eval hx)) w hwh #[]
  have hk' : (kind == CallKind.early) = false := by simpa using hk
  have hfin : ∀ v, ((fb f kind).at a (.inRegion ops (i :: r) :: k)).finish v = (fb f kind).at (a.put dst v) (.inRegion ops r :: k) := fun v => by rw [Frame.finish_at, ho]; rfl
  have hrun' : (execOp a.eval ⟨dst, op, ty, pos, af, g⟩).runT P w #[] = (res, es) := by simpa using hrun
  have hap : stepG P main (G ((fb f kind).at a (.inRegion ops (i :: r) :: k)) cs) w = stepG.apply P true ((fb f kind).at a (.inRegion ops (i :: r) :: k)) cs none (execOp a.eval ⟨dst, op, ty, pos, af, g⟩) w := stepG_oper ho (wantE_ok ka (o := ⟨dst, op, ty, pos, af, g⟩) hw)
  have hkind : ((fb f kind).at a (.inRegion ops (i :: r) :: k)).kind = kind := rfl
  have hfn : ((fb f kind).at a (.inRegion ops (i :: r) :: k)).fn = f := rfl
  obtain ⟨hevs, hdeaf⟩ := evOk_seen (Γ := Γ) (P := P) (f := f) hev
  cases res with
  | ok nx w' =>
    obtain ⟨hsame, hhp, hq, rfl, hδ⟩ := hran
    rw [← hdeaf] at hδ
    refine ⟨G ((fb f kind).at (a.put dst v) (.inRegion ops r :: k)) cs, w', seen P f es, ?_, hsame, hhp, hevs, by rw [hδ]; exact hn r hr' _ (he a ka)⟩
    rw [hap, ← hfin]
    rcases hq with rfl | ⟨rfl, rfl⟩
    · simp only [stepG.apply, hrun', if_true, hkind, hk', hfn, Bool.false_eq_true, if_false]
      simp [GStep.after, G]
    · simp only [stepG.apply, hrun', if_true, hkind, hk', hfn, Bool.false_eq_true, if_false]
      simp [GStep.after, G]
  | halt x w' =>
    cases x <;> first | exact hran.elim | exact hran.2.2.elim

theorem TR.val {v : Value} {h' : Hp} (hk : kind ≠ .early) (hw : wantE ops env g = some true) (hd : Nat.blt d n = true)
    (hs : ∀ (ρ : Operand → Value) (Q : Next → Hp → Ix Γ → Prop) (X : Value → Hp → Ix Γ → Prop), (∀ x v, ev env x = some v → ρ x = v) → Q (.value v) h' δ → SemW P S (execOp ρ ⟨some d, op, ty, pos, af, g⟩) h δ Q X)
    (hn : TR P main S Stop f n kind cs ops l k ((d, v) :: env) ds h' δ) : TR P main S Stop f n kind cs ops (⟨some d, op, ty, pos, af, g⟩ :: l) k env ds h δ :=
  TR.opv hk hw (fun ρ hρ => hs ρ _ _ hρ ⟨.inl rfl, rfl, rfl⟩) (fun a ka => ka.put v hd) hn
theorem TR.unit {h' : Hp} (hk : kind ≠ .early) (hw : wantE ops env g = some true)
    (hs : ∀ (ρ : Operand → Value) (Q : Next → Hp → Ix Γ → Prop) (X : Value → Hp → Ix Γ → Prop), (∀ x v, ev env x = some v → ρ x = v) → Q .skip h' δ → SemW P S (execOp ρ ⟨none, op, ty, pos, af, g⟩) h δ Q X)
    (hn : TR P main S Stop f n kind cs ops l k env ds h' δ) : TR P main S Stop f n kind cs ops (⟨none, op, ty, pos, af, g⟩ :: l) k env ds h δ :=
  TR.opv (v := undef) hk hw (fun ρ hρ => hs ρ _ _ hρ ⟨.inr ⟨rfl, rfl⟩, rfl, rfl⟩) (fun a ka => ka) hn

/-- A call, of which the frame below unwinds where it panics. -/
theorem TR.call {c : FuncId} {args : Array Value} {Q : Value → Hp → Ix Γ → Prop} {Z : List PanicEntry → Hp → Ix Γ → Prop} {fn : Func} [hf : IsFn P f fn] (hk : kind ≠ .early) (hw : wantE ops env g = some true) (hd : Nat.blt d n = true)
    (hs : ∀ (ρ : Operand → Value) (Q : Next → Hp → Ix Γ → Prop) (X : Value → Hp → Ix Γ → Prop), (∀ x v, ev env x = some v → ρ x = v) → Q (.enter c args) h δ → SemW P S (execOp ρ ⟨some d, op, ty, pos, af, g⟩) h δ Q X)
    (hc : CallW P main S c args h δ (RetP Q Z)) (hret : ∀ v h' δ', Q v h' δ' → TR P main S Stop f n kind cs ops l k ((d, v) :: env) ds h' δ') (hpan : ∀ p h' δ', Z p h' δ' → TU P main S Stop f n kind cs (.panicking p) env ds h' δ') :
    TR P main S Stop f n kind cs ops (⟨some d, op, ty, pos, af, g⟩ :: l) k env ds h δ := by
  intro rest hr a ka
  obtain ⟨i, r, rfl, ho, hr'⟩ := ER.uncons hr
  have hk' : (kind == CallKind.early) = false := by simpa using hk
  have hfin : ∀ v, ((fb f kind).at a (.inRegion ops (i :: r) :: k)).finish v = (fb f kind).at (a.put (some d) v) (.inRegion ops r :: k) := fun v => by rw [Frame.finish_at, ho]; rfl
  refine .of_step ⟨rfl, fun w hwh => ?_⟩
  obtain ⟨es, res, hrun, hev, hran⟩ := semW_sound _ h δ (fun nx h'' δ'' => nx = .enter c args ∧ h'' = h ∧ δ'' = δ) (fun _ _ _ => False) (hs a.eval _ _ (fun x v hx => ka.eval hx) ⟨rfl, rfl, rfl⟩) w hwh #[]
  have hrun' : (execOp a.eval ⟨some d, op, ty, pos, af, g⟩).runT P w #[] = (res, es) := by simpa using hrun
  have hap : stepG P main (G ((fb f kind).at a (.inRegion ops (i :: r) :: k)) cs) w = stepG.apply P true ((fb f kind).at a (.inRegion ops (i :: r) :: k)) cs none (execOp a.eval ⟨some d, op, ty, pos, af, g⟩) w := stepG_oper ho (wantE_ok ka (o := ⟨some d, op, ty, pos, af, g⟩) hw)
  have hkind : ((fb f kind).at a (.inRegion ops (i :: r) :: k)).kind = kind := rfl
  have hfn : ((fb f kind).at a (.inRegion ops (i :: r) :: k)).fn = f := rfl
  have htodo : ((fb f kind).at a (.inRegion ops (i :: r) :: k)).todo = .inRegion ops (i :: r) :: k := rfl
  obtain ⟨hevs, hdeaf⟩ := evOk_seen (Γ := Γ) (P := P) (f := f) hev
  cases res with
  | ok nx w' =>
    obtain ⟨hsame, hhp, rfl, hh, hδ⟩ := hran
    rw [← hdeaf] at hδ
    refine ⟨G (Frame.enter P c args .normal) ((fb f kind).at a (.inRegion ops (i :: r) :: k) :: cs), w', seen P f es, ?_, hsame, hhp, hevs, ?_⟩
    · rw [hap]
      simp only [stepG.apply, hrun', if_true, hkind, hk', hfn, htodo, Bool.false_eq_true, if_false]
      simp [GStep.after, G]
    · rw [hδ, hh]
      refine (hc .normal (by simp) _).bind ?_
      rintro x h' δ' ⟨a', todo, mode, fn', rfl, hd', hf', ⟨rfl, v, hv, hR⟩ | ⟨ch, rfl, hR⟩⟩
      · refine .of_step ⟨rfl, fun w hw => ?_⟩
        obtain ⟨es, hrun, hes⟩ := hv w hw
        refine ⟨G ((fb f kind).at (a.put (some d) v) (.inRegion ops r :: k)) cs, w, seen P c es, ?_, Same.refl _, by rw [hw]; exact HpOk.refl _ _, (seen_reads (Γ := Γ) hes).1, ?_⟩
        · rw [← hfin]
          simp only [G, stepG, unwind, Frame.at, hd', hf', fb, hrun]
          simp [doReturn, GStep.after]
        · rw [(seen_reads (Γ := Γ) (S := S.still δ'.g) hes).2, hw]
          exact hret v h' δ' hR r hr' _ (ka.put v hd)
      · refine .ctl (g' := G { (fb f kind).at a (.inRegion ops (i :: r) :: k) with mode := .panicking ch } cs) rfl (fun w => ?_) (hpan ch h' δ' hR a _ ka)
        simp [G, stepG, unwind, Frame.at, hd', hf', fb, Frame.catches, Frame.raise]
  | halt x w' =>
    cases x <;> first | exact hran.elim | exact hran.2.2.elim

/-- A frame on its way out makes a deferred call. -/
theorem TU.defer {mode : FrameMode} {b : FuncId} {cap : Array Value} [hb : HasBody P b] (hm : mode ≠ .run) (hn : ∀ a todo, Kn n env ds a → Runs P main S Stop (G (Frame.enter P b cap .deferred) ({ (fb f kind).at a todo with mode := mode } :: cs)) h δ) :
    TU P main S Stop f n kind cs mode env ({ target := .fn (.func b) cap, args := #[] } :: ds) h δ := by
  intro a todo ka
  obtain ⟨fn, c, h1, h2, h3⟩ := hb.out
  have hinv : ∀ w, (invoke (.fn (.func b) cap) #[]).runT P w #[] = (.ok (.enter b cap) w, #[]) := fun w => by
    have e : (invoke (.fn (.func b) cap) #[]).runT P w #[] = (callFunc b (#[] ++ cap)).runT P w #[] := rfl
    rw [e, callFunc_runT h1 h2 h3]; simp
  have hd := ka.defers
  refine .ctl (g' := G (Frame.enter P b cap .deferred) ({ (fb f kind).at { a with defers := ds } todo with mode := mode } :: cs)) rfl (fun w => ?_) (hn { a with defers := ds } todo ⟨ka.size, rfl, ka.knows⟩)
  cases mode with
  | run => exact absurd rfl hm
  | _ =>
    simp only [G, stepG, unwind, Frame.at, hd, callDeferred, fb]
    rw [hinv]
    simp [GStep.after, seen_def]

/-- recover, where nothing is to be recovered. -/
theorem TR.recover0 {caller : Frame} {cs' : List Frame} (hcs : cs = caller :: cs') (hm : caller.mode = .returning) (hk : kind = .deferred) (hw : wantE ops env g = some true) (hd : Nat.blt d n = true)
    (hn : TR P main S Stop f n kind cs ops l k ((d, .nilIface) :: env) ds h δ) : TR P main S Stop f n kind cs ops (⟨some d, .call { callee := .builtin .recover, args := #[], argTypes := #[] }, ty, pos, af, g⟩ :: l) k env ds h δ := by
  subst hk hcs
  intro rest hr a ka
  obtain ⟨i, r, rfl, ho, hr'⟩ := ER.uncons hr
  refine .ctl rfl (fun w => ?_) (hn r hr' _ (ka.put .nilIface hd))
  have hfin : ((fb f .deferred).at a (.inRegion ops (i :: r) :: k)).finish .nilIface = (fb f .deferred).at (a.put (some d) .nilIface) (.inRegion ops r :: k) := by rw [Frame.finish_at, ho]; rfl
  rw [stepG_oper ho (wantE_ok ka (o := ⟨some d, .call { callee := .builtin .recover, args := #[], argTypes := #[] }, ty, pos, af, g⟩) hw), ← hfin]
  have hrun : (execOp a.eval ⟨some d, .call { callee := .builtin .recover, args := #[], argTypes := #[] }, ty, pos, af, g⟩).runT P w #[] = (.ok .recover w, #[]) := rfl
  simp only [stepG.apply, hrun]
  simp [GStep.after, seen_def, Frame.at, fb, tryRecover, hm, Frame.roundOf, G]

/-- recover, of a panic that the frame below is in. -/
theorem TR.recover1 {caller : Frame} {cs' : List Frame} {v : Value} {older : List PanicEntry} (hcs : cs = caller :: cs') (hm : caller.mode = .panicking ({ v, recovered := false } :: older)) (hk : kind = .deferred) (hw : wantE ops env g = some true) (hd : Nat.blt d n = true)
    (hn : TR P main S Stop f n kind ({ caller with mode := .panicking ({ v, recovered := true } :: older) } :: cs') ops l k ((d, v) :: env) ds h δ) : TR P main S Stop f n kind cs ops (⟨some d, .call { callee := .builtin .recover, args := #[], argTypes := #[] }, ty, pos, af, g⟩ :: l) k env ds h δ := by
  subst hk hcs
  intro rest hr a ka
  obtain ⟨i, r, rfl, ho, hr'⟩ := ER.uncons hr
  refine .ctl rfl (fun w => ?_) (hn r hr' _ (ka.put v hd))
  have hfin : ((fb f .deferred).at a (.inRegion ops (i :: r) :: k)).finish v = (fb f .deferred).at (a.put (some d) v) (.inRegion ops r :: k) := by rw [Frame.finish_at, ho]; rfl
  rw [stepG_oper ho (wantE_ok ka (o := ⟨some d, .call { callee := .builtin .recover, args := #[], argTypes := #[] }, ty, pos, af, g⟩) hw), ← hfin]
  have hrun : (execOp a.eval ⟨some d, .call { callee := .builtin .recover, args := #[], argTypes := #[] }, ty, pos, af, g⟩).runT P w #[] = (.ok .recover w, #[]) := rfl
  simp only [stepG.apply, hrun]
  simp [GStep.after, seen_def, Frame.at, fb, tryRecover, hm, Frame.roundOf, G]
end
end

section
variable {P : Program} {main : Bool} {S : Sit Γ} {f : FuncId} {n : Nat} {k : List Item} {env : Env} {ds : List Deferred} {h : Hp} {δ : Ix Γ} {R : Post Γ}
variable {ops : Array Oper} {l : List Oper} {d : Nat} {ty : TypeId} {pos : String} {af : Array Edge} {g : Option (Nat × Bool)}

theorem at_send {kind : CallKind} {cs : List Frame} {a : Act} {i : Nat} {rest : List Nat} {x y : Operand} {c : Nat} (ho : ops[i]? = some ⟨none, .send x y, ty, pos, af, g⟩) (hw : Region.wanted ⟨none, .send x y, ty, pos, af, g⟩ (yielded ops a.tmps) = true) (hk : kind ≠ .early)
    (hx : a.eval x = .chan (some c)) (hy : a.eval y = tok) : AtSend P main c (G ((fb f kind).at a (.inRegion ops (i :: rest) :: k)) cs) (G ((fb f kind).at a (.inRegion ops (i :: rest) :: k)) cs) h := by
  refine ⟨rfl, .tuple #[], fun w _ => ?_⟩
  have h5 : (execOp a.eval ⟨none, .send x y, ty, pos, af, g⟩).runT P w #[] = (.ok (.comm #[scase c tok (.tuple #[])] true .send) w, #[]) := by
    show (Sem.pure (Next.comm #[{ chan := a.eval x, send := some (a.eval y), zero := .tuple #[] }] true .send)).runT P w #[] = _
    rw [hx, hy]; rfl
  have hk' : (kind == CallKind.early) = false := by simpa using hk
  rw [stepG_oper ho hw]
  have hkind : ((fb f kind).at a (.inRegion ops (i :: rest) :: k)).kind = kind := rfl
  have hfn : ((fb f kind).at a (.inRegion ops (i :: rest) :: k)).fn = f := rfl
  simp only [stepG.apply, h5, if_true, hkind, hk', hfn, Bool.false_eq_true, if_false]
  simp [GStep.after, G, seen_def]

theorem served_none {kind : CallKind} {cs : List Frame} {a : Act} {i : Nat} {rest : List Nat} {o : Oper} (ho : ops[i]? = some o) (hd : o.dst = none) :
    Go.Conc.served (G ((fb f kind).at a (.inRegion ops (i :: rest) :: k)) cs) undef = G ((fb f kind).at a (.inRegion ops rest :: k)) cs := by
  show G (((fb f kind).at a (.inRegion ops (i :: rest) :: k)).finish undef) cs = _
  rw [Frame.finish_at, ho]
  simp [hd, Act.put]

/-- A SEND THAT HANDS THE TOKEN OVER, and the way to the next receive. -/
theorem ER.gives {X : Proto Γ} {i j c c' B : Nat} {γ₁ : Γ} {x y : Operand} (hm : main = (i == 0))
    (hS : ∀ g h δ Y, Hands P X i j (fun γ₁ a => SitsAt P X i γ₁ h a Y) g h δ → S.yld g h δ Y) (hw : wantE ops env g = some true) (hx : ev env x = some (.chan (some c))) (hy : ev env y = some tok) (hd : δ.d = 0)
    (hji : j ≠ i) (hjn : j < X.num δ.g) (hcj : X.ch δ.g j = some c) (hn : X.num γ₁ = X.num δ.g) (ho : Others X i δ.g γ₁) (hp : X.Pass j γ₁ h) (h1 : X.ch γ₁ i = some c') (h2 : ∀ a v, X.cells γ₁ i a = some v → hcell h a = some v)
    (h3 : ∃ k, h[c']? = some (.chan 0 #[] false k k false)) (h4 : ∀ x, x ≠ i → x < X.num γ₁ → X.ch γ₁ x ≠ some c')
    (hway : ∀ kind, kind ≠ .early → ∀ cs, RY P main c' (X.cells γ₁ i) B (fun g => ∀ γ₂ h₂, X.R i γ₁ γ₂ → X.Pass i γ₂ h₂ → Runs P main S (Left P f kind cs R) g h₂ ⟨0, γ₂⟩) f n kind cs ops l k env ds) :
    ER P main S f n ops (⟨none, .send x y, ty, pos, af, g⟩ :: l) k env ds h δ R := by
  intro rest hr a ka
  obtain ⟨m, r, rfl, hop, hr'⟩ := ER.uncons hr
  intro kind hk cs
  subst hm
  refine .hands (Runs P (i == 0) S (Left P f kind cs R)) (fun _ _ _ x => x) (hS _ _ _ _ ⟨hd, γ₁, c, _, hji, hjn, hcj, at_send hop (wantE_ok ka (o := ⟨none, .send x y, ty, pos, af, g⟩) hw) hk (ka.eval hx) (ka.eval hy), hn, ho, hp, ?_⟩)
  rw [served_none hop rfl]
  exact Way.sits rfl h1 h2 h3 h4 (hway kind hk cs r hr' a ka)

/-- The receive at the end of the way. -/
theorem RY.recvE {X : Proto Γ} {i c B : Nat} {C : Addr → Option Value} {γ₁ : Γ} {kind : CallKind} {cs : List Frame} {t elem by_ sz : Nat} {z : Value} {x : Operand} {dir : ChanDir} [hu : Und P t (.chan dir elem)] [Inf P elem sz by_ z] (hB : ∀ a, (C a).isSome = true → a.block < B) (hk : kind ≠ .early) (hw : wantE ops env g = some true)
    (hd : Nat.blt d n = true) (hx : ev env x = some (.chan (some c))) (hn : ∀ γ₂ h₂, X.R i γ₁ γ₂ → X.Pass i γ₂ h₂ → ER P main S f n ops l k ((d, tok) :: env) ds h₂ ⟨0, γ₂⟩ R) :
    RY P main c C B (fun g => ∀ γ₂ h₂, X.R i γ₁ γ₂ → X.Pass i γ₂ h₂ → Runs P main S (Left P f kind cs R) g h₂ ⟨0, γ₂⟩) f n kind cs ops (⟨some d, .recv t x false, ty, pos, af, g⟩ :: l) k env ds :=
  RY.recv hu.out hB hk hw hd hx fun rest hr a ka γ₂ h₂ hR hP => hn γ₂ h₂ hR hP rest hr a ka kind hk cs

/-- A go STATEMENT. -/
theorem ER.goes {X : Proto Γ} {γ₁ : Γ} {x : Operand} {ats : Array TypeId} {b : FuncId} {cap : Array Value} (hw : wantE ops env g = some true) (hx : ev env x = some (.func (.func b) #[] cap)) (hd : δ.d = 0) (hn : X.num γ₁ = X.num δ.g + 1) (ho : Others X 0 δ.g γ₁)
    (hsit : SitsAt P X (X.num δ.g) γ₁ h (born P { target := .fn (.func b) cap, args := #[] }) (Runs P false (SitT P X (X.num δ.g)) (EndT P X (X.num δ.g))))
    (hnext : ER P true (SitM P X) f n ops l k env ds h ⟨0, γ₁⟩ R) : ER P true (SitM P X) f n ops (⟨none, .go { callee := .value x, args := #[], argTypes := ats }, ty, pos, af, g⟩ :: l) k env ds h δ R := by
  intro rest hr a ka
  obtain ⟨m, r, rfl, hop, hr'⟩ := ER.uncons hr
  intro kind hk cs
  have hrun : ∀ w : World, (execOp a.eval ⟨none, .go { callee := .value x, args := #[], argTypes := ats }, ty, pos, af, g⟩).runT P w #[] = (.ok (.spawn { target := .fn (.func b) cap, args := #[] }) w, #[]) := fun w => by
    show (Deferred.ofValue (a.eval x) (#[].map a.eval) >>= fun d => pure (Next.spawn d) : Sem Next).runT P w #[] = _
    rw [ka.eval hx]
    show (Sem.pure (Next.spawn { target := .fn (.func b) cap, args := #[] ++ (#[] : Array Operand).map a.eval })).runT P w #[] = _
    simp [Sem.runT]
  refine .hands (Runs P true (SitM P X) (Left P f kind cs R)) (fun _ _ _ x => x) (.inr ⟨hd, rfl, γ₁, G ((fb f kind).at a (.inRegion ops r :: k)) cs, _, fun w _ => ?_, hn, ho, hsit, hnext r hr' a ka kind hk cs⟩)
  have hr0 : (execOp a.eval ⟨none, .go { callee := .value x, args := #[], argTypes := ats }, ty, pos, af, g⟩).run P w = .ok (.spawn { target := .fn (.func b) cap, args := #[] }) w := by rw [← Sem.runT_fst, hrun]
  have := stepG_spawn (P := P) (main := true) (b := fb f kind) (k := k) (cs := cs) (rest := r) (f := .func b) (c := cap) hop (wantE_ok ka (o := ⟨none, .go { callee := .value x, args := #[], argTypes := ats }, ty, pos, af, g⟩) hw) hk hr0 rfl
  rw [this]
  have hl : listed P (fb f kind).fn a ⟨none, .go { callee := .value x, args := #[], argTypes := ats }, ty, pos, af, g⟩ w = #[] := by
    have he := congrArg Prod.snd (hrun w)
    rw [Sem.runT_eq] at he
    unfold listed
    rw [show (execOp a.eval ⟨none, .go { callee := .value x, args := #[], argTypes := ats }, ty, pos, af, g⟩).events P w #[] = #[] from he, seen_none]
  rw [hl]
  rfl
end

/-- It leaves: behind the last operation of the deferred call of its function. -/
theorem quits_end {P : Program} {b1 b2 : FuncId} {fn1 fn2 : Func} [h1 : IsFn P b1 fn1] [h2 : IsFn P b2 fn2] (r1 : fn1.results = #[]) (r2 : fn2.results = #[]) {a a1 : Act} {todo : List Item} {ops : Array Oper} {mode : FrameMode} (hd : a.defers = []) (hd1 : a1.defers = [])
    (hm : mode = .returning ∨ ∃ v, mode = .panicking [{ v, recovered := true }]) : QuitsD P 5 0 (G ((fb b2 .deferred).at a [.inRegion ops []]) [{ (fb b1 .deferred).at a1 todo with mode := mode }, rootFr P]) := by
  refine QuitsD.ctl (g' := G ((fb b2 .deferred).at a []) [{ (fb b1 .deferred).at a1 todo with mode := mode }, rootFr P]) rfl (fun _ => stepG_region_end) ?_
  refine QuitsD.ctl (g' := G { (fb b2 .deferred).at a [] with mode := .returning } [{ (fb b1 .deferred).at a1 todo with mode := mode }, rootFr P]) rfl (fun _ => stepG_end) ?_
  refine QuitsD.ctl (g' := G { (fb b1 .deferred).at a1 todo with mode := .returning } [rootFr P]) rfl (fun w => ?_) ?_
  · have hres := results_none r2 a.tmps P w
    have hev := events_results_none (P := P) (w := w) r2 a.tmps #[]
    have hrun : (results fn2 a.tmps).runT P w #[] = (.ok (.tuple #[]) w, #[]) := by rw [Sem.runT_eq, hres, hev]
    simp only [G, stepG, unwind, Frame.at, hd, h2.out, fb, hrun]
    rcases hm with rfl | ⟨v, rfl⟩
    · simp [doReturn, GStep.after, seen_def]
    · simp [doReturn, GStep.after, seen_def]
  refine QuitsD.ctl (g' := G (rootFr P) []) rfl (fun w => ?_) ?_
  · have hres := results_none r1 a1.tmps P w
    have hev := events_results_none (P := P) (w := w) r1 a1.tmps #[]
    have hrun : (results fn1 a1.tmps).runT P w #[] = (.ok (.tuple #[]) w, #[]) := by rw [Sem.runT_eq, hres, hev]
    simp only [G, stepG, unwind, Frame.at, hd1, h1.out, fb, hrun]
    simp [doReturn, GStep.after, seen_def, rootFr, goexitEntry]
  refine QuitsD.ctl (g' := { G (rootFr P) [] with status := .finished }) rfl (fun w => ?_) ⟨rfl, rfl⟩
  have e1 : (default : Frame).defers = [] := rfl
  have e2 : (default : Frame).kind = .normal := rfl
  simp [G, stepG, unwind, rootFr, goexitEntry, Frame.catches, e1, e2]
  rfl
end Go.TJ
