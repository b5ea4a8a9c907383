/- Own theory, part 3: the rule of one operation, calls and returns, deferred calls. No condition. -/
import Derived.Test.YtkppboglffdmnaaTjCore2
namespace Go.TJ
open Go Go.Conc
variable {Γ : Type}

section
variable {P : Program} {main : Bool} {S : Sit Γ} {f : FuncId} {a : Act} {h : Hp} {δ : Ix Γ} {R : Post Γ} {k : List Item}

/-- The return from a callee into a frame that stands at an operation. -/
theorem Runs.returns {g : FuncId} {ops : Array Oper} {i : Nat} {rest : List Nat} {o : Oper} {kind : CallKind} {cs : List Frame} (ho : ops[i]? = some o) (hk : kind ≠ .early)
    {Rg : Post Γ} (hret : ∀ v h δ, Rg (.ret v) h δ → WK P main S f (.inRegion ops rest :: k) (a.put o.dst v) h δ R) (hpan : ∀ c h δ, Rg (.pan c) h δ → WU P main S f (.panicking c) a h δ R) :
    ∀ x h δ, Left P g .normal ((fb f kind).at a (.inRegion ops (i :: rest) :: k) :: cs) Rg x h δ → Runs P main S (Left P f kind cs R) x h δ := by
  rintro x h δ ⟨a', todo, mode, fn, rfl, hd, hf, ⟨rfl, v, hv, hR⟩ | ⟨c, rfl, hR⟩⟩
  · refine .of_step ⟨rfl, fun w hw => ?_⟩
    obtain ⟨es, hrun, hes⟩ := hv w hw
    refine ⟨G ((fb f kind).at (a.put o.dst v) (.inRegion ops rest :: k)) cs, w, seen P g es, ?_, Same.refl _, by rw [hw]; exact HpOk.refl _ _, (seen_reads (Γ := Γ) hes).1, ?_⟩
    · have hfin : ((fb f kind).at a (.inRegion ops (i :: rest) :: k)).finish v = (fb f kind).at (a.put o.dst v) (.inRegion ops rest :: k) := by rw [Frame.finish_at, ho]; rfl
      rw [← hfin]
      simp only [G, stepG, unwind, Frame.at, hd, hf, fb, hrun]
      simp [doReturn, GStep.after]
    · rw [(seen_reads (Γ := Γ) (S := S.still δ.g) hes).2, hw]
      exact hret v h δ hR kind hk cs
  · refine .ctl (g' := G { (fb f kind).at a (.inRegion ops (i :: rest) :: k) with mode := .panicking c } cs) rfl (fun w => ?_) (hpan c h δ hR kind hk cs _)
    simp [G, stepG, unwind, Frame.at, hd, hf, fb, Frame.catches, Frame.raise]

/-- What is asked once an operation has yielded this. -/
def NextK (P : Program) (main : Bool) (S : Sit Γ) (f : FuncId) (ops : Array Oper) (rest : List Nat) (k : List Item) (a : Act) (dst : Option Tmp) (R : Post Γ) : Next → Hp → Ix Γ → Prop
  | .value v, h, δ => WK P main S f (.inRegion ops rest :: k) (a.put dst v) h δ R
  | .skip, h, δ => WK P main S f (.inRegion ops rest :: k) (a.put dst undef) h δ R
  | .defer d, h, δ => WK P main S f (.inRegion ops rest :: k) ({ a with defers := d :: a.defers }.put dst undef) h δ R
  | .enter g args, h, δ => CallW P main S g args h δ fun
      | .ret v, h', δ' => WK P main S f (.inRegion ops rest :: k) (a.put dst v) h' δ' R
      | .pan c, h', δ' => WU P main S f (.panicking c) a h' δ' R
  | _, _, _ => False

theorem evOk_seen {S : Addr → Prop} {es : Array Event} (he : ∀ e ∈ es, EvOk S e) : (∀ e ∈ seen P f es, EvOk S e) ∧ ∀ δ : Ix Γ, deafI δ (seen P f es) = deafI δ es :=
  ⟨fun e h => he e (mem_seen h), fun δ => deafI_seen es (fun e h => (he e h).2.2.2.2.2.2) δ⟩

theorem put_at (d : Deferred) (dst : Option Tmp) : ({ a with defers := d :: a.defers } : Act).put dst undef = { a.put dst undef with defers := d :: a.defers } := by
  cases dst <;> rfl

/-- THE RULE OF ONE OPERATION. -/
theorem WK.op {ops : Array Oper} {i : Nat} {rest : List Nat} {o : Oper} (ho : ops[i]? = some o) (hw : Region.wanted o (yielded ops a.tmps) = true)
    (hs : SemW P S (execOp a.eval o) h δ (NextK P main S f ops rest k a o.dst R) (fun v h' δ' => WU P main S f (.panicking [{ v, recovered := false }]) a h' δ' R)) :
    WK P main S f (.inRegion ops (i :: rest) :: k) a h δ R := by
  intro kind hk cs
  refine .of_step ⟨rfl, fun w hwh => ?_⟩
  obtain ⟨es, r, hrun, hev, hran⟩ := semW_sound _ h δ _ _ hs w hwh #[]
  have hk' : (kind == CallKind.early) = false := by simpa using hk
  have hfin : ∀ v, ((fb f kind).at a (.inRegion ops (i :: rest) :: k)).finish v = (fb f kind).at (a.put o.dst v) (.inRegion ops rest :: k) := fun v => by rw [Frame.finish_at, ho]; rfl
  have hrun' : (execOp a.eval o).runT P w #[] = (r, es) := by simpa using hrun
  have hap : stepG P main (G ((fb f kind).at a (.inRegion ops (i :: rest) :: k)) cs) w = stepG.apply P true ((fb f kind).at a (.inRegion ops (i :: rest) :: k)) cs none (execOp a.eval o) w := stepG_oper ho hw
  have hkind : ((fb f kind).at a (.inRegion ops (i :: rest) :: k)).kind = kind := rfl
  have hfn : ((fb f kind).at a (.inRegion ops (i :: rest) :: k)).fn = f := rfl
  have htodo : ((fb f kind).at a (.inRegion ops (i :: rest) :: k)).todo = .inRegion ops (i :: rest) :: k := rfl
  obtain ⟨hevs, hdeaf⟩ := evOk_seen (Γ := Γ) (P := P) (f := f) hev
  cases r with
  | ok n w' =>
    obtain ⟨hsame, hhp, hq⟩ := hran
    rw [← hdeaf] at hq
    cases n with
    | value v =>
      refine ⟨G ((fb f kind).at (a.put o.dst v) (.inRegion ops rest :: k)) cs, w', seen P f es, ?_, hsame, hhp, hevs, hq kind hk cs⟩
      rw [hap, ← hfin]
      simp only [stepG.apply, hrun', if_true, hkind, hk', hfn, Bool.false_eq_true, if_false]
      simp [GStep.after, G]
    | skip =>
      refine ⟨G ((fb f kind).at (a.put o.dst undef) (.inRegion ops rest :: k)) cs, w', seen P f es, ?_, hsame, hhp, hevs, hq kind hk cs⟩
      rw [hap, ← hfin]
      simp only [stepG.apply, hrun', if_true, hkind, hk', hfn, Bool.false_eq_true, if_false]
      simp [GStep.after, G]
    | defer d =>
      refine ⟨G ((fb f kind).at ({ a with defers := d :: a.defers }.put o.dst undef) (.inRegion ops rest :: k)) cs, w', seen P f es, ?_, hsame, hhp, hevs, hq kind hk cs⟩
      have hfin2 : ({ (fb f kind).at a (.inRegion ops (i :: rest) :: k) with defers := d :: a.defers } : Frame).finish undef = (fb f kind).at ({ a with defers := d :: a.defers }.put o.dst undef) (.inRegion ops rest :: k) := by
        have := Frame.finish_at (fb f kind) { a with defers := d :: a.defers } ops i rest k undef
        rw [ho] at this; exact this
      rw [hap, ← hfin2]
      simp only [stepG.apply, hrun', if_true, hkind, hk', hfn, Bool.false_eq_true, if_false]
      simp [GStep.after, G, Frame.at]
    | enter g args =>
      refine ⟨G (Frame.enter P g args .normal) ((fb f kind).at a (.inRegion ops (i :: rest) :: k) :: cs), w', seen P f es, ?_, hsame, hhp, hevs, ?_⟩
      · rw [hap]
        simp only [stepG.apply, hrun', if_true, hkind, hk', hfn, htodo, Bool.false_eq_true, if_false]
        simp [GStep.after, G]
      · exact (hq .normal (by simp) _).bind (Runs.returns ho hk (fun v h δ x => x) (fun c h δ x => x))
    | _ => exact hq.elim
  | halt x w' =>
    cases x with
    | panic v =>
      obtain ⟨hsame, hhp, hq⟩ := hran
      rw [← hdeaf] at hq
      refine ⟨G { (fb f kind).at a (.inRegion ops (i :: rest) :: k) with mode := .panicking [{ v, recovered := false }] } cs, w', seen P f es, ?_, hsame, hhp, hevs, hq kind hk cs _⟩
      rw [hap]
      simp only [stepG.apply, hrun', if_true, hkind, hk', hfn, Bool.false_eq_true, if_false]
      simp [GStep.after, G, Frame.raise, Frame.at, fb]
    | _ => exact hran.elim

/-- An operation whose guard says no. -/
theorem WK.unwanted {ops : Array Oper} {i : Nat} {rest : List Nat} {o : Oper} (ho : ops[i]? = some o) (hw : Region.wanted o (yielded ops a.tmps) = false)
    (hn : WK P main S f (.inRegion ops rest :: k) (a.put o.dst undef) h δ R) : WK P main S f (.inRegion ops (i :: rest) :: k) a h δ R := by
  intro kind hk cs
  refine .ctl rfl (fun w => ?_) (hn kind hk cs)
  have hfin : ((fb f kind).at a (.inRegion ops (i :: rest) :: k)).finish undef = (fb f kind).at (a.put o.dst undef) (.inRegion ops rest :: k) := by rw [Frame.finish_at, ho]; rfl
  rw [← hfin]
  simp [G, stepG, stepG.exec, Frame.at, ho, hw]

theorem callFunc_runT {g : FuncId} {fn : Func} {c : Code} (hf : P.funcs[g]? = some fn) (hb : fn.body = some c) (hn : fn.name ≠ "runtime.NumGoroutine") (args : Array Value) (w : World) :
    (callFunc g args).runT P w #[] = (.ok (.enter g args) w, #[]) := by
  have hn' : (fn.name == "runtime.NumGoroutine") = false := by simpa using hn
  unfold callFunc
  change Sem.runT P (Sem.bind (Sem.program Sem.pure) _) w #[] = _
  simp only [Sem.bind, Sem.runT, hf, hb, hn', Option.isNone, Bool.false_eq_true, if_false]
  rfl

theorem callFunc_semW {g : FuncId} {fn : Func} {c : Code} (hf : P.funcs[g]? = some fn) (hb : fn.body = some c) (hn : fn.name ≠ "runtime.NumGoroutine") {args : Array Value} {Q : Next → Hp → Ix Γ → Prop} {X : Value → Hp → Ix Γ → Prop}
    (hq : Q (.enter g args) h δ) : SemW P S (callFunc g args) h δ Q X := by
  have hn' : (fn.name == "runtime.NumGoroutine") = false := by simpa using hn
  unfold callFunc
  change SemW P S (Sem.bind (Sem.program Sem.pure) _) h δ Q X
  simp only [Sem.bind, SemW, hf, hb, hn', Option.isNone, Bool.false_eq_true, if_false]
  exact hq

/-- A deferred call, made while the frame leaves by a return. -/
theorem WU.deferRet {g : FuncId} {cap args : Array Value} {ds : List Deferred} {fn : Func} {c : Code} (hf : P.funcs[g]? = some fn) (hb : fn.body = some c) (hn : fn.name ≠ "runtime.NumGoroutine")
    (hc : CallW P main S g (args ++ cap) h δ fun
      | .ret _, h', δ' => WU P main S f .returning { a with defers := ds } h' δ' R
      | .pan _, _, _ => False) (hd : a.defers = { target := .fn (.func g) cap, args := args } :: ds) : WU P main S f .returning a h δ R := by
  intro kind hk cs todo
  have hinv : ∀ w, (invoke (.fn (.func g) cap) args).runT P w #[] = (.ok (.enter g (args ++ cap)) w, #[]) := by
    intro w
    have e : (invoke (.fn (.func g) cap) args).runT P w #[] = (callFunc g (args ++ cap)).runT P w #[] := rfl
    rw [e]
    exact callFunc_runT hf hb hn (args ++ cap) w
  refine .ctl (g' := G (Frame.enter P g (args ++ cap) .deferred) ({ (fb f kind).at { a with defers := ds } todo with mode := .returning } :: cs)) rfl (fun w => ?_) ?_
  · simp only [G, stepG, unwind, Frame.at, hd, callDeferred, fb]
    rw [hinv]
    simp [GStep.after, seen_def]
  · refine (hc .deferred (by simp) _).bind ?_
    rintro x h δ ⟨a', todo', mode, fn', rfl, hd', hf', ⟨rfl, v, hv, hR⟩ | ⟨c, rfl, hR⟩⟩
    · refine .of_step ⟨rfl, fun w hw => ?_⟩
      obtain ⟨es, hrun, hes⟩ := hv w hw
      refine ⟨G { (fb f kind).at { a with defers := ds } todo with mode := .returning } cs, w, seen P g es, ?_, Same.refl _, by rw [hw]; exact HpOk.refl _ _, (seen_reads (Γ := Γ) hes).1, ?_⟩
      · simp only [G, stepG, unwind, Frame.at, hd', hf', fb, hrun]
        simp [doReturn, GStep.after]
      · rw [(seen_reads (Γ := Γ) (S := S.still δ.g) hes).2, hw]
        exact hR kind hk cs todo
    · exact hR.elim
end
end Go.TJ
