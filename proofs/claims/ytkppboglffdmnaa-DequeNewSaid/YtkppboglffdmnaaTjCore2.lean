/- Own theory, part 2: a goroutine's own steps as an inductive judgement ('Runs'), calls ('CallW'), code under way ('WK'), and their rules. No condition. -/
import Derived.Test.YtkppboglffdmnaaTjCore
import Derived.Tactics
import Derived.Conc.CompanyCalls
namespace Go.TJ
open Go Go.Conc
variable {Γ : Type}

/-- One step of the goroutine's own, whatever the tape: it goes on, into X. -/
def StepTo (P : Program) (main : Bool) (S : Sit Γ) (X : Goroutine → Hp → Ix Γ → Prop) (g : Goroutine) (h : Hp) (δ : Ix Γ) : Prop :=
  g.status = .running ∧ ∀ w : World, w.heap = h → ∃ g' w' es, stepG P main g w = .go g' w' es ∧ Same w w' ∧ HpOk (S.still δ.g) h w'.heap ∧ (∀ e ∈ es, EvOk (S.still δ.g) e) ∧ X g' w'.heap (deafI δ es)

/-- Own steps, as many as it takes, to a stop. -/
inductive Runs (P : Program) (main : Bool) (S : Sit Γ) (Stop : Goroutine → Hp → Ix Γ → Prop) : Goroutine → Hp → Ix Γ → Prop
  | stop {g : Goroutine} {h : Hp} {δ : Ix Γ} : Stop g h δ → Runs P main S Stop g h δ
  | step {g : Goroutine} {h : Hp} {δ : Ix Γ} (X : Goroutine → Hp → Ix Γ → Prop) : (∀ g h δ, X g h δ → Runs P main S Stop g h δ) → StepTo P main S X g h δ → Runs P main S Stop g h δ
  | hands {g : Goroutine} {h : Hp} {δ : Ix Γ} (X : Goroutine → Hp → Ix Γ → Prop) : (∀ g h δ, X g h δ → Runs P main S Stop g h δ) → S.yld g h δ X → Runs P main S Stop g h δ

section
variable {P : Program} {main : Bool} {S : Sit Γ}

theorem StepTo.mono {X Y : Goroutine → Hp → Ix Γ → Prop} {g : Goroutine} {h : Hp} {δ : Ix Γ} (hs : StepTo P main S X g h δ) (hxy : ∀ g h δ, X g h δ → Y g h δ) : StepTo P main S Y g h δ :=
  ⟨hs.1, fun w hw => let ⟨g', w', es, a, b, c, d, e⟩ := hs.2 w hw; ⟨g', w', es, a, b, c, d, hxy _ _ _ e⟩⟩

theorem Runs.bind {A B : Goroutine → Hp → Ix Γ → Prop} {g : Goroutine} {h : Hp} {δ : Ix Γ} (hr : Runs P main S A g h δ) (hab : ∀ g h δ, A g h δ → Runs P main S B g h δ) : Runs P main S B g h δ := by
  induction hr with
  | stop hs => exact hab _ _ _ hs
  | step X _ hst ih => exact .step X (fun g h δ hx => ih g h δ hx) hst
  | hands X _ hy ih => exact .hands X (fun g h δ hx => ih g h δ hx) hy

theorem Runs.mono {A B : Goroutine → Hp → Ix Γ → Prop} {g : Goroutine} {h : Hp} {δ : Ix Γ} (hr : Runs P main S A g h δ) (hab : ∀ g h δ, A g h δ → B g h δ) : Runs P main S B g h δ :=
  hr.bind fun _ _ _ x => .stop (hab _ _ _ x)

theorem Runs.of_step {A : Goroutine → Hp → Ix Γ → Prop} {g : Goroutine} {h : Hp} {δ : Ix Γ} (hst : StepTo P main S (Runs P main S A) g h δ) : Runs P main S A g h δ :=
  .step _ (fun _ _ _ x => x) hst

/-- A move of control. -/
theorem Runs.ctl {A : Goroutine → Hp → Ix Γ → Prop} {g g' : Goroutine} {h : Hp} {δ : Ix Γ} (hg : g.status = .running) (hst : ∀ w, stepG P main g w = .go g' w) (hr : Runs P main S A g' h δ) : Runs P main S A g h δ :=
  .of_step ⟨hg, fun w hw => ⟨g', w, #[], hst w, Same.refl _, by rw [hw]; exact HpOk.refl _ _, by simp, by rw [deafI_nil, hw]; exact hr⟩⟩
end

/-- How a call ends. -/
inductive Fin where
  | ret (v : Value)
  | pan (chain : List PanicEntry)

abbrev Post (Γ : Type) := Fin → Hp → Ix Γ → Prop

def fb (f : FuncId) (kind : CallKind) : Frame := { (default : Frame) with fn := f, kind := kind }

/-- The result variables read as v, by plain loads alone. -/
def Reads (P : Program) (fn : Func) (tmps : Array Value) (h : Hp) (v : Value) : Prop :=
  ∀ w : World, w.heap = h → ∃ es, (results fn tmps).runT P w #[] = (.ok v w, es) ∧ ∀ e ∈ es, ∃ a, e = ⟨.cell a, false, false⟩

/-- The frame is about to be left. -/
def Left (P : Program) (f : FuncId) (kind : CallKind) (cs : List Frame) (R : Post Γ) (g : Goroutine) (h : Hp) (δ : Ix Γ) : Prop :=
  ∃ a todo mode fn, g = G { (fb f kind).at a todo with mode := mode } cs ∧ a.defers = [] ∧ P.funcs[f]? = some fn ∧
    ((mode = .returning ∧ ∃ v, Reads P fn a.tmps h v ∧ R (.ret v) h δ) ∨ (∃ chain, mode = .panicking chain ∧ R (.pan chain) h δ))

theorem Left.mono {P : Program} {f : FuncId} {kind : CallKind} {cs : List Frame} {R R' : Post Γ} (hR : ∀ x h δ, R x h δ → R' x h δ) {g : Goroutine} {h : Hp} {δ : Ix Γ} (hl : Left P f kind cs R g h δ) : Left P f kind cs R' g h δ := by
  obtain ⟨a, todo, mode, fn, h1, h2, h3, h4⟩ := hl
  refine ⟨a, todo, mode, fn, h1, h2, h3, h4.imp ?_ ?_⟩
  · rintro ⟨h5, v, h6, h7⟩; exact ⟨h5, v, h6, hR _ _ _ h7⟩
  · rintro ⟨c, h5, h6⟩; exact ⟨c, h5, hR _ _ _ h6⟩

/-- A call of function f. -/
def CallW (P : Program) (main : Bool) (S : Sit Γ) (f : FuncId) (args : Array Value) (h : Hp) (δ : Ix Γ) (R : Post Γ) : Prop :=
  ∀ kind, kind ≠ .early → ∀ cs, Runs P main S (Left P f kind cs R) (G (Frame.enter P f args kind) cs) h δ

/-- A frame of f that runs, with this to do. -/
def WK (P : Program) (main : Bool) (S : Sit Γ) (f : FuncId) (todo : List Item) (a : Act) (h : Hp) (δ : Ix Γ) (R : Post Γ) : Prop :=
  ∀ kind, kind ≠ .early → ∀ cs, Runs P main S (Left P f kind cs R) (G ((fb f kind).at a todo) cs) h δ

/-- A frame of f that unwinds. -/
def WU (P : Program) (main : Bool) (S : Sit Γ) (f : FuncId) (mode : FrameMode) (a : Act) (h : Hp) (δ : Ix Γ) (R : Post Γ) : Prop :=
  ∀ kind, kind ≠ .early → ∀ cs todo, Runs P main S (Left P f kind cs R) (G { (fb f kind).at a todo with mode := mode } cs) h δ

section
variable {P : Program} {main : Bool} {S : Sit Γ} {f : FuncId} {a : Act} {h : Hp} {δ : Ix Γ} {R : Post Γ} {k : List Item}

theorem CallW.mono {args : Array Value} {R' : Post Γ} (hc : CallW P main S f args h δ R) (hR : ∀ x h δ, R x h δ → R' x h δ) : CallW P main S f args h δ R' :=
  fun kind hk cs => (hc kind hk cs).mono fun _ _ _ x => x.mono hR

theorem WK.mono {R' : Post Γ} (hc : WK P main S f k a h δ R) (hR : ∀ x h δ, R x h δ → R' x h δ) : WK P main S f k a h δ R' :=
  fun kind hk cs => (hc kind hk cs).mono fun _ _ _ x => x.mono hR

theorem WU.mono {mode : FrameMode} {R' : Post Γ} (hc : WU P main S f mode a h δ R) (hR : ∀ x h δ, R x h δ → R' x h δ) : WU P main S f mode a h δ R' :=
  fun kind hk cs todo => (hc kind hk cs todo).mono fun _ _ _ x => x.mono hR

theorem CallW.enter {args : Array Value} {fn : Func} {c : Code} (hf : P.funcs[f]? = some fn) (hb : fn.body = some c)
    (hw : WK P main S f [.code c] { tmps := args ++ Array.replicate (fn.ntmps - args.size) undef, defers := [] } h δ R) : CallW P main S f args h δ R := by
  intro kind hk cs
  have e : Frame.enter P f args kind = (fb f kind).at { tmps := args ++ Array.replicate (fn.ntmps - args.size) undef, defers := [] } [.code c] := by
    simp [Frame.enter, Frame.at, hf, hb, fb]
  rw [e]
  exact hw kind hk cs

theorem WK.skip (hw : WK P main S f k a h δ R) : WK P main S f (.code .skip :: k) a h δ R :=
  fun kind hk cs => .ctl rfl (fun _ => stepG_skip) (hw kind hk cs)
theorem WK.label {l : Nat} (hw : WK P main S f k a h δ R) : WK P main S f (.code (.label l) :: k) a h δ R :=
  fun kind hk cs => .ctl rfl (fun _ => stepG_label) (hw kind hk cs)
theorem WK.inBlock {id : Nat} (hw : WK P main S f k a h δ R) : WK P main S f (.inBlock id :: k) a h δ R :=
  fun kind hk cs => .ctl rfl (fun _ => stepG_inBlock) (hw kind hk cs)
theorem WK.seq {x y : Code} (hw : WK P main S f (.code x :: .code y :: k) a h δ R) : WK P main S f (.code (.seq x y) :: k) a h δ R :=
  fun kind hk cs => .ctl rfl (fun _ => stepG_seq) (hw kind hk cs)
theorem WK.block {id : Nat} {c : Code} (hw : WK P main S f (.code c :: .inBlock id :: k) a h δ R) : WK P main S f (.code (.block id c) :: k) a h δ R :=
  fun kind hk cs => .ctl rfl (fun _ => stepG_block) (hw kind hk cs)
theorem WK.loop {c : Code} (hw : WK P main S f (.code c :: .inLoop c :: k) a h δ R) : WK P main S f (.code (.loop c) :: k) a h δ R :=
  fun kind hk cs => .ctl rfl (fun _ => stepG_loop) (hw kind hk cs)
theorem WK.inLoop {c : Code} (hw : WK P main S f (.code c :: .inLoop c :: k) a h δ R) : WK P main S f (.inLoop c :: k) a h δ R :=
  fun kind hk cs => .ctl rfl (fun _ => stepG_inLoop) (hw kind hk cs)
theorem WK.exit {id : Nat} {k' : List Item} (he : exitTo id k = some k') (hw : WK P main S f k' a h δ R) : WK P main S f (.code (.exit id) :: k) a h δ R :=
  fun kind hk cs => .ctl rfl (fun _ => stepG_exit he) (hw kind hk cs)
theorem WK.cond {c : Operand} {x y : Code} {t : Bool} (hc : a.eval c = .bool t) (hw : WK P main S f (.code (if t then x else y) :: k) a h δ R) : WK P main S f (.code (.cond c x y) :: k) a h δ R :=
  fun kind hk cs => .ctl rfl (fun _ => stepG_cond hc) (hw kind hk cs)
theorem WK.region {id : Nat} {ops : Array Oper} (hw : WK P main S f (.inRegion ops (List.range ops.size) :: k) a h δ R) : WK P main S f (.code (.region id ops false) :: k) a h δ R :=
  fun kind hk cs => .ctl rfl (fun _ => stepG_region) (hw kind hk cs)
theorem WK.regionEnd {ops : Array Oper} (hw : WK P main S f k a h δ R) : WK P main S f (.inRegion ops [] :: k) a h δ R :=
  fun kind hk cs => .ctl rfl (fun _ => stepG_region_end) (hw kind hk cs)
theorem WK.done (hw : WU P main S f .returning a h δ R) : WK P main S f [] a h δ R :=
  fun kind hk cs => .ctl rfl (fun _ => stepG_end) (hw kind hk cs [])
theorem WK.ret (hw : WU P main S f .returning a h δ R) : WK P main S f (.code .ret :: k) a h δ R :=
  fun kind hk cs => .ctl rfl (fun w => by simp [G, stepG, stepG.exec, Frame.at]) (hw kind hk cs (.code .ret :: k))

/-- A region that draws its order. -/
theorem WK.regionDraw {id : Nat} {ops : Array Oper} (hw : ∀ t, WK P main S f (.inRegion ops (Region.schedule (P.follows .mixedOrders) ops t) :: k) a h δ R) : WK P main S f (.code (.region id ops true) :: k) a h δ R :=
  fun kind hk cs => .of_step ⟨rfl, fun w hw' => by
    subst hw'
    refine ⟨G ((fb f kind).at a (.inRegion ops (Region.schedule (P.follows .mixedOrders) ops (w.tape w.drawn (.order f id))) :: k)) cs, { w with drawn := w.drawn + 1 }, #[], ?_, ⟨rfl, rfl, rfl⟩, HpOk.refl _ _, by simp, ?_⟩
    · simp [G, stepG, stepG.exec, Frame.at, choose, Sem.run, Question.forced, Question.cut, fb]
    · rw [deafI_nil]
      exact hw _ kind hk cs⟩

/-- The return of a frame without deferred calls. -/
theorem WU.ret0 {fn : Func} {v : Value} (hd : a.defers = []) (hf : P.funcs[f]? = some fn) (hv : Reads P fn a.tmps h v) (hR : R (.ret v) h δ) : WU P main S f .returning a h δ R :=
  fun _ _ _ todo => .stop ⟨a, todo, .returning, fn, rfl, hd, hf, .inl ⟨rfl, v, hv, hR⟩⟩

theorem WU.pan0 {fn : Func} {chain : List PanicEntry} (hd : a.defers = []) (hf : P.funcs[f]? = some fn) (hR : R (.pan chain) h δ) : WU P main S f (.panicking chain) a h δ R :=
  fun _ _ _ todo => .stop ⟨a, todo, .panicking chain, fn, rfl, hd, hf, .inr ⟨chain, rfl, hR⟩⟩

theorem reads_of {fn : Func} {tmps : Array Value} {v : Value} (hr : ∀ w, (results fn tmps).run P w = .ok v w) (he : ∀ w, (results fn tmps).events P w #[] = #[]) : Reads P fn tmps h v :=
  fun w _ => ⟨#[], by rw [Sem.runT_eq, hr, he], by simp⟩

theorem reads_none {fn : Func} {tmps : Array Value} (hr : fn.results = #[]) : Reads P fn tmps h (.tuple #[]) :=
  reads_of (fun w => results_none hr _ P w) (fun _ => events_results_none hr _ _)
theorem reads_tmp {fn : Func} {tmps : Array Value} {t : Tmp} {v : Value} (hr : fn.results = #[.tmp t]) (hv : tmps.getD t undef = v) : Reads P fn tmps h v :=
  hv ▸ reads_of (fun w => results_tmp hr _ P w) (fun _ => events_results_tmp hr _ _)
theorem reads_tmp2 {fn : Func} {tmps : Array Value} {t u : Tmp} {v x : Value} (hr : fn.results = #[.tmp t, .tmp u]) (hv : tmps.getD t undef = v) (hx : tmps.getD u undef = x) : Reads P fn tmps h (.tuple #[v, x]) :=
  hv ▸ hx ▸ reads_of (fun w => results_tmp2 hr _ P w) (fun _ => events_results_tmp2 hr _ _)
theorem reads_tmp3 {fn : Func} {tmps : Array Value} {t u q : Tmp} {v x y : Value} (hr : fn.results = #[.tmp t, .tmp u, .tmp q]) (hv : tmps.getD t undef = v) (hx : tmps.getD u undef = x) (hy : tmps.getD q undef = y) : Reads P fn tmps h (.tuple #[v, x, y]) :=
  hv ▸ hx ▸ hy ▸ reads_of (fun w => by simp [results, hr]) (fun w => by simp [results, hr])
end

theorem deafBehind_reads {es : Array Event} (he : ∀ e ∈ es, ∃ a, e = (⟨.cell a, false, false⟩ : Event)) (δ : Nat) : deafBehind δ es = δ := by
  obtain ⟨l⟩ := es
  induction l with
  | nil => rfl
  | cons e l ih =>
    have h1 := ih fun x hx => he x (by simp at hx ⊢; exact .inr hx)
    obtain ⟨a, rfl⟩ := he e (by simp)
    simpa [deafBehind] using h1

theorem seen_reads {P : Program} {f : FuncId} {S : Addr → Prop} {es : Array Event} (he : ∀ e ∈ es, ∃ a, e = (⟨.cell a, false, false⟩ : Event)) : (∀ e ∈ seen P f es, EvOk S e) ∧ ∀ δ : Ix Γ, deafI δ (seen P f es) = δ :=
  ⟨fun e h => by obtain ⟨a, rfl⟩ := he e (mem_seen h); simp [EvOk], fun δ => by simp only [deafI, deafBehind_reads (fun e h => he e (mem_seen h)) δ.d]⟩

theorem seenStep_deaf (quiet : FuncId → Bool) (q : Bool) (kept : Array Event) (e : Event) (he : ∀ m, e.loc = .mark m → e.sync = true) (δ : Nat) :
    deafBehind δ (seenStep quiet (q, kept) e).2 = deafBehind (deafBehind δ kept) #[e] := by
  unfold seenStep
  dsimp only
  split
  · rename_i hf
    simp [deafBehind, hf]
  · dsimp only
    split
    · rename_i hq
      have hsync : e.sync = false := by simp at hq; exact hq.2
      cases hloc : e.loc with
      | mark m => exact absurd (he m hloc) (by simp [hsync])
      | _ => simp [deafBehind, hloc]
    · rw [Array.push_eq_append, deafBehind_app]

theorem seen_deaf (quiet : FuncId → Bool) (δ : Nat) : ∀ (l : List Event) (q : Bool) (kept : Array Event), (∀ e ∈ l, ∀ m, e.loc = .mark m → e.sync = true) →
    deafBehind δ (l.foldl (seenStep quiet) (q, kept)).2 = deafBehind (deafBehind δ kept) l.toArray := by
  intro l
  induction l with
  | nil => intro q kept _; simp [deafBehind]
  | cons e l ih =>
    intro q kept hl
    have e1 : (e :: l).toArray = #[e] ++ l.toArray := by simp
    rw [List.foldl_cons, e1, deafBehind_app, ← seenStep_deaf quiet q kept e (hl e (List.mem_cons_self ..)) δ]
    exact ih (seenStep quiet (q, kept) e).1 (seenStep quiet (q, kept) e).2 fun x hx => hl x (List.mem_cons_of_mem _ hx)

/-- What 'seen' keeps does to the count of open 'disable's just what all did. -/
theorem deafBehind_seen {P : Program} {f : FuncId} (es : Array Event) (hs : ∀ e ∈ es, ∀ m, e.loc = .mark m → e.sync = true) (δ : Nat) : deafBehind δ (seen P f es) = deafBehind δ es := by
  rw [seen_def, seen_deaf _ δ es.toList _ #[] (by simpa using hs), deafBehind_nil']
theorem deafI_seen {P : Program} {f : FuncId} (es : Array Event) (hs : ∀ e ∈ es, ∀ m, e.loc = .mark m → e.sync = true) (δ : Ix Γ) : deafI δ (seen P f es) = deafI δ es := by
  simp only [deafI, deafBehind_seen es hs]
end Go.TJ
