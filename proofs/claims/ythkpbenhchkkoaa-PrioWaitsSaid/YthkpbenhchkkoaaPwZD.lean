/- Steps of the walk and of the plain law (RunS to PwX). Conditions: as each lemma says. -/
import Derived.Test.YthkpbenhchkkoaaPwZC
namespace Go.Proofs.Ythkpbenhchkkoaa
section
open Go Go.TJ Go.Conc Go.Proofs
section
variable {X : Us} {h : Hp} {i : Nat} {γ : GG X} {u : X.U} {L : List (Nat × Obj)}
structure Asks (X : Us) (i : Nat) (γ : GG X) (u : X.U) (r : Rq) : Prop where
  Q : X.Q i (ownOf i (γ.p.acc i).log) (.stands r) u
  J : X.J (γ.p.acc i).log u (γ.p.acc i).val
def Halt (X : Us) (i : Nat) (p : PS X.U) (ps : List PanicEntry) (h : Hp) (δ : Ix (GG X)) : Prop := ∃ γ' : GG X, δ = ⟨0, γ'⟩ /\ Along X i p γ'.p /\ Stp X i γ' h /\ ps = [{ v := stopV, recovered := false }]
theorem Halt.along {p p' : PS X.U} (a : Along X i p p') {ps : List PanicEntry} {h : Hp} {δ : Ix (GG X)} (x : Halt X i p' ps h δ) : Halt X i p ps h δ := by
  obtain ⟨γ', rfl, al, s, e⟩ := x
  exact ⟨γ', rfl, a.trans al, s, e⟩
def Did (X : Us) (i : Nat) (γ : GG X) (u : X.U) (L : List (Nat × Obj)) (r : Rq) (f : Int -> Value) (w : Value) (h : Hp) (δ : Ix (GG X)) : Prop := ∃ γ' : GG X, δ = ⟨0, γ'⟩ /\ Thr X i γ' γ'.p.u L h /\ Stood X i γ u r γ' /\ w = f (γ'.p.val r.b)
theorem Thr.celC (T : Thr X i γ u L h) {b : Nat} (hb : X.isC b) : ∃ v, h[b]? = some (cellO v) := by
  obtain ⟨s, M, g⟩ := T.gi
  exact ⟨_, (g.cel b hb).1⟩
theorem rq_ok {b : Nat} {op a c : Int} (hb : X.isC b) (h1 : (decide (1 <= op) && decide (op <= 5)) = true) (h2 : op = 1 -> a = 0) (h3 : op ≠ 3 -> c = 0) : RqOk X ⟨op, b, a, c⟩ := by
  simp only [Bool.and_eq_true, decide_eq_true_eq] at h1
  exact ⟨hb, h1.1, h1.2, h2, h3⟩
set_option maxRecDepth 8000 in
set_option maxHeartbeats 1000000 in
theorem cloadT (hX : X.Ok) (T : Thr X i γ u L h) {b : Nat} (hb : X.isC b) (A : Asks X i γ u ⟨1, b, 0, 0⟩) : CallW Try.prog false (SitT Try.prog (PX X) (i + 1)) 35 #[ptr b, ptr (γ.p.tb i)] h ⟨0, γ⟩ (RetP (Did X i γ u L ⟨1, b, 0, 0⟩ (.int .i64 ·)) (Halt X i γ.p)) := by
  obtain ⟨v, hv⟩ := T.celC hb
  obtain ⟨w, t, o, c, b0, n, x, y, k, hat, hrow1⟩ := T.row
  have c0 : hcell h ⟨γ.p.tb i, 0, none⟩ = some (ptr γ.p.R) := hcell_of hrow1 rfl
  have c13 : hcell h ⟨γ.p.tb i, 13, none⟩ = some (.bool false) := hcell_of hrow1 rfl
  clear hrow1 hat
  refine CallW.start (n := 26) rfl rfl ?_
  (repeat (first | refine EK.seq ?_ | refine EK.region ?_ | refine ER.done ?_ | refine ER.move rfl rfl rfl ?_ | refine ER.assign rfl rfl rfl ?_))
  refine ER.callD rfl rfl rfl rfl rfl (none_ok hv) ?_
  (repeat (first | refine EK.seq ?_ | refine EK.region ?_ | refine ER.done ?_ | refine EK.skip ?_ | refine ER.move rfl rfl rfl ?_ | refine EK.condF rfl ?_))
  refine ER.callD rfl rfl rfl rfl rfl (live_ok c0 c13) ?_
  (repeat (first | refine EK.seq ?_ | refine EK.region ?_ | refine ER.done ?_ | refine ER.move rfl rfl rfl ?_ | refine ER.nilCheck rfl rfl rfl ?_ | refine ER.fieldAddr rfl rfl rfl ?_ | refine EK.condT rfl ?_))
  refine ER.callP rfl rfl rfl rfl rfl (step_ok (r := ⟨1, b, 0, 0⟩) hX T (rq_ok hb rfl (fun _ => rfl) (fun _ => rfl)) A.Q A.J) ?_ ?_
  · rintro ps h' δ' ⟨γ', rfl, hS, st, rfl⟩
    exact ⟨γ', rfl, st.al, hS, rfl⟩
  rintro w h1 δ1 ⟨γ', rfl, T', st, rfl⟩
  (repeat (first | refine EK.seq ?_ | refine EK.region ?_ | refine ER.done ?_ | refine ER.move rfl rfl rfl ?_ | refine ER.assign rfl rfl rfl ?_ | refine ER.extract rfl rfl rfl rfl ?_ | refine EK.ret ?_))
  exact EU.ret1 rfl rfl ⟨γ', rfl, T', st, rfl⟩
set_option maxRecDepth 8000 in
set_option maxHeartbeats 1000000 in
theorem cstoreT (hX : X.Ok) (T : Thr X i γ u L h) {b : Nat} {a : Int} (hb : X.isC b) (A : Asks X i γ u ⟨2, b, a, 0⟩) : CallW Try.prog false (SitT Try.prog (PX X) (i + 1)) 33 #[ptr b, ptr (γ.p.tb i), .int .i64 a] h ⟨0, γ⟩ (RetP (Did X i γ u L ⟨2, b, a, 0⟩ (fun _ => .tuple #[])) (Halt X i γ.p)) := by
  obtain ⟨v, hv⟩ := T.celC hb
  obtain ⟨w, t, o, c, b0, n, x, y, k, hat, hrow1⟩ := T.row
  have c0 : hcell h ⟨γ.p.tb i, 0, none⟩ = some (ptr γ.p.R) := hcell_of hrow1 rfl
  have c13 : hcell h ⟨γ.p.tb i, 13, none⟩ = some (.bool false) := hcell_of hrow1 rfl
  clear hrow1 hat
  refine CallW.start (n := 23) rfl rfl ?_
  (repeat (first | refine EK.seq ?_ | refine EK.region ?_ | refine ER.move rfl rfl rfl ?_))
  refine ER.callD rfl rfl rfl rfl rfl (none_ok hv) ?_
  (repeat (first | refine EK.seq ?_ | refine EK.region ?_ | refine ER.done ?_ | refine EK.skip ?_ | refine ER.move rfl rfl rfl ?_ | refine EK.condF rfl ?_))
  refine ER.callD rfl rfl rfl rfl rfl (live_ok c0 c13) ?_
  (repeat (first | refine EK.seq ?_ | refine EK.region ?_ | refine ER.done ?_ | refine ER.move rfl rfl rfl ?_ | refine ER.nilCheck rfl rfl rfl ?_ | refine ER.fieldAddr rfl rfl rfl ?_ | refine EK.condT rfl ?_))
  refine ER.callP rfl rfl rfl rfl rfl (step_ok (r := ⟨2, b, a, 0⟩) hX T (rq_ok hb rfl (fun e => absurd e (by decide)) (fun _ => rfl)) A.Q A.J) ?_ ?_
  · rintro ps h' δ' ⟨γ', rfl, hS, st, rfl⟩
    exact ⟨γ', rfl, st.al, hS, rfl⟩
  rintro w h1 δ1 ⟨γ', rfl, T', st, rfl⟩
  (repeat (first | refine ER.done ?_ | refine EK.ret ?_))
  exact EU.ret0 rfl ⟨γ', rfl, T', st, rfl⟩
set_option maxRecDepth 8000 in
set_option maxHeartbeats 1000000 in
theorem ccasT (hX : X.Ok) (T : Thr X i γ u L h) {b : Nat} {a c' : Int} (hb : X.isC b) (A : Asks X i γ u ⟨3, b, a, c'⟩) : CallW Try.prog false (SitT Try.prog (PX X) (i + 1)) 41 #[ptr b, ptr (γ.p.tb i), .int .i64 a, .int .i64 c'] h ⟨0, γ⟩ (RetP (Did X i γ u L ⟨3, b, a, c'⟩ (fun z => .bool (decide (z = a)))) (Halt X i γ.p)) := by
  obtain ⟨v, hv⟩ := T.celC hb
  obtain ⟨w, t, o, c, b0, n, x, y, k, hat, hrow1⟩ := T.row
  have c0 : hcell h ⟨γ.p.tb i, 0, none⟩ = some (ptr γ.p.R) := hcell_of hrow1 rfl
  have c13 : hcell h ⟨γ.p.tb i, 13, none⟩ = some (.bool false) := hcell_of hrow1 rfl
  clear hrow1 hat
  refine CallW.start (n := 39) rfl rfl ?_
  (repeat (first | refine EK.seq ?_ | refine EK.region ?_ | refine ER.done ?_ | refine ER.move rfl rfl rfl ?_ | refine ER.assign rfl rfl rfl ?_))
  refine ER.callD rfl rfl rfl rfl rfl (none_ok hv) ?_
  (repeat (first | refine EK.seq ?_ | refine EK.region ?_ | refine ER.done ?_ | refine EK.skip ?_ | refine ER.move rfl rfl rfl ?_ | refine EK.condF rfl ?_))
  refine ER.callD rfl rfl rfl rfl rfl (live_ok c0 c13) ?_
  (repeat (first | refine EK.seq ?_ | refine EK.region ?_ | refine ER.done ?_ | refine ER.move rfl rfl rfl ?_ | refine ER.nilCheck rfl rfl rfl ?_ | refine ER.fieldAddr rfl rfl rfl ?_ | refine EK.condT rfl ?_))
  refine ER.callP rfl rfl rfl rfl rfl (step_ok (r := ⟨3, b, a, c'⟩) hX T (rq_ok hb rfl (fun e => absurd e (by decide)) (fun e => absurd rfl e)) A.Q A.J) ?_ ?_
  · rintro ps h' δ' ⟨γ', rfl, hS, st, rfl⟩
    exact ⟨γ', rfl, st.al, hS, rfl⟩
  rintro w h1 δ1 ⟨γ', rfl, T', st, rfl⟩
  (repeat (first | refine EK.seq ?_ | refine EK.region ?_ | refine ER.done ?_ | refine ER.move rfl rfl rfl ?_ | refine ER.assign rfl rfl rfl ?_ | refine ER.extract rfl rfl rfl rfl ?_ | refine EK.ret ?_))
  refine EU.ret1 rfl rfl ⟨γ', rfl, T', st, ?_⟩
  by_cases e : γ'.p.val b = a
  · simp [behind, e]
  · simp [behind, e]
set_option maxRecDepth 8000 in
set_option maxHeartbeats 1000000 in
theorem caddT (hX : X.Ok) (T : Thr X i γ u L h) {b : Nat} {a : Int} (hb : X.isC b) (A : Asks X i γ u ⟨4, b, a, 0⟩) : CallW Try.prog false (SitT Try.prog (PX X) (i + 1)) 44 #[ptr b, ptr (γ.p.tb i), .int .i64 a] h ⟨0, γ⟩ (RetP (Did X i γ u L ⟨4, b, a, 0⟩ (fun z => .int .i64 (IntKind.i64.wrap (z + a)))) (Halt X i γ.p)) := by
  obtain ⟨v, hv⟩ := T.celC hb
  obtain ⟨w, t, o, c, b0, n, x, y, k, hat, hrow1⟩ := T.row
  have c0 : hcell h ⟨γ.p.tb i, 0, none⟩ = some (ptr γ.p.R) := hcell_of hrow1 rfl
  have c13 : hcell h ⟨γ.p.tb i, 13, none⟩ = some (.bool false) := hcell_of hrow1 rfl
  clear hrow1 hat
  refine CallW.start (n := 34) rfl rfl ?_
  (repeat (first | refine EK.seq ?_ | refine EK.region ?_ | refine ER.done ?_ | refine ER.move rfl rfl rfl ?_ | refine ER.assign rfl rfl rfl ?_))
  refine ER.callD rfl rfl rfl rfl rfl (none_ok hv) ?_
  (repeat (first | refine EK.seq ?_ | refine EK.region ?_ | refine ER.done ?_ | refine EK.skip ?_ | refine ER.move rfl rfl rfl ?_ | refine EK.condF rfl ?_))
  refine ER.callD rfl rfl rfl rfl rfl (live_ok c0 c13) ?_
  (repeat (first | refine EK.seq ?_ | refine EK.region ?_ | refine ER.done ?_ | refine ER.move rfl rfl rfl ?_ | refine ER.nilCheck rfl rfl rfl ?_ | refine ER.fieldAddr rfl rfl rfl ?_ | refine EK.condT rfl ?_))
  refine ER.callP rfl rfl rfl rfl rfl (step_ok (r := ⟨4, b, a, 0⟩) hX T (rq_ok hb rfl (fun e => absurd e (by decide)) (fun _ => rfl)) A.Q A.J) ?_ ?_
  · rintro ps h' δ' ⟨γ', rfl, hS, st, rfl⟩
    exact ⟨γ', rfl, st.al, hS, rfl⟩
  rintro w h1 δ1 ⟨γ', rfl, T', st, rfl⟩
  (repeat (first | refine EK.seq ?_ | refine EK.region ?_ | refine ER.done ?_ | refine ER.move rfl rfl rfl ?_ | refine ER.assign rfl rfl rfl ?_ | refine ER.extract rfl rfl rfl rfl ?_ | refine EK.ret ?_))
  exact EU.ret1 rfl rfl ⟨γ', rfl, T', st, rfl⟩
end
end
section
open Go Go.TJ Go.Conc Go.Proofs
inductive Pr (A : Type) where
  | done
  | step (r : Rq) (k : Int -> Pr A)
  | emit (a : A) (k : Pr A)
inductive Goes {A : Type} (i : Nat) : Pr A -> List Ev -> List A -> Pr A -> Prop
  | nil (p : Pr A) : Goes i p [] [] p
  | emit {a : A} {k q : Pr A} {l : List Ev} {o : List A} : Goes i k l o q -> Goes i (.emit a k) l (a :: o) q
  | step {r : Rq} {k : Int -> Pr A} {q : Pr A} {l : List Ev} {o : List A} (w : Int) : Goes i (k w) l o q -> Goes i (.step r k) (evOf i r w :: l) o q
section
variable {A : Type} {i : Nat} {p : Pr A} {l : List Ev} {o : List A}
theorem Goes.access {r : Rq} {k : Int -> Pr A} (g : Goes i p l o (.step r k)) (w : Int) : Goes i p (l ++ [evOf i r w]) o (k w) := by
  generalize hq : Pr.step r k = q at g
  induction g with
  | nil p => subst hq; exact .step w (.nil _)
  | emit _ ih => exact .emit (ih hq)
  | step w' _ ih => exact .step w' (ih hq)
theorem Goes.tell {a : A} {k : Pr A} (g : Goes i p l o (.emit a k)) : Goes i p l (o ++ [a]) k := by
  generalize hq : Pr.emit a k = q at g
  induction g with
  | nil p => subst hq; exact .emit (.nil _)
  | emit _ ih => exact .emit (ih hq)
  | step w' _ ih => exact .step w' (ih hq)
theorem Goes.det {q : Pr A} (g : Goes i p l o q) : ∀ {o' : List A} {q' : Pr A}, Goes i p l o' q' -> (∀ a k, q ≠ .emit a k) -> (∀ a k, q' ≠ .emit a k) -> o' = o /\ q' = q := by
  induction g with
  | nil p =>
    intro o' q' g' hq hq'
    cases g' with
    | nil => exact ⟨rfl, rfl⟩
    | emit _ => exact absurd rfl (hq _ _)
  | emit _ ih =>
    intro o' q' g' hq hq'
    cases g' with
    | nil => exact absurd rfl (hq' _ _)
    | emit h => obtain ⟨rfl, rfl⟩ := ih h hq hq'; exact ⟨rfl, rfl⟩
  | @step r k q l o w _ ih =>
    intro o' q' g' hq hq'
    generalize he : evOf i r w :: l = l' at g'
    generalize hp : Pr.step r k = p' at g'
    cases g' with
    | nil => cases he
    | emit h => cases hp
    | step w' h =>
      injection hp with h1 h2
      subst h1 h2
      injection he with h3 h4
      subst h4
      have : w = w' := by injection h3
      subst this
      exact ih h hq hq'
end
structure Prog (X : Us) {A : Type} (P : Nat -> Pr A) (told : X.U -> Nat -> List A) : Prop where
  Q : ∀ i l s u, X.Q i l s u ↔ ∃ p, Goes i (P i) l (told u i) p /\ (match s with | .born => told u i = [] | .stands r => ∃ k, p = .step r k | .over => p = .done)
  V : ∀ i u u', X.V i u u' -> told u' i = told u i
section
variable {X : Us} {A : Type} {P : Nat -> Pr A} {told : X.U -> Nat -> List A} {i : Nat} {γ γ' : GG X} {u : X.U} {L : List (Nat × Obj)} {h : Hp}
def Res (P : Nat -> Pr A) (told : X.U -> Nat -> List A) (i : Nat) (γ : GG X) (u : X.U) (p : Pr A) : Prop := Goes i (P i) (ownOf i (γ.p.acc i).log) (told u i) p
theorem Res.asks (R : Prog X P told) {r : Rq} {k : Int -> Pr A} (x : Res P told i γ u (.step r k)) (hJ : X.J (γ.p.acc i).log u (γ.p.acc i).val) : Asks X i γ u r := ⟨(R.Q _ _ _ _).2 ⟨_, x, k, rfl⟩, hJ⟩
theorem Res.did (R : Prog X P told) {r : Rq} {k : Int -> Pr A} (x : Res P told i γ u (.step r k)) (st : Stood X i γ u r γ') : Res P told i γ' γ'.p.u (k (γ'.p.val r.b)) := by
  unfold Res
  rw [st.after, R.V _ _ _ st.V]
  exact Goes.access x _
theorem Res.over (R : Prog X P told) (x : Res P told i γ u .done) : X.Q i (ownOf i (γ.p.acc i).log) .over u := (R.Q _ _ _ _).2 ⟨_, x, rfl⟩
theorem Res.born (_R : Prog X P told) (_T : Thr X i γ γ.p.u L h) (hb : γ.p.st i = .born) (ho : ownOf i γ.p.log = []) (ht : told γ.p.u i = []) : Res P told i γ γ.p.u (P i) := by
  unfold Res
  rw [acc_born _ _ hb, ho, ht]
  exact .nil _
end
theorem eaCallP {Γ : Type} {P : Program} {main : Bool} {S : Sit Γ} {f : FuncId} {n : Nat} {k : List Item} {env : Env} {h : Hp} {δ : Ix Γ} {R : Post Γ} {ops : Array Oper} {Z : Hp -> Prop} {z : Nat} (i : Nat) {d : Nat} {x : Operand} {args : Array Operand} {ats : Array TypeId} {ty : TypeId} {pos : String} {af : Array Edge} {g : Option (Nat × Bool)} {m : Nat} {listed l' : Array Bool} {fn : Func} [hf : IsFn P f fn] {c : FuncId} {cap ws : Array Value} {vs : List Value} [HasBody P c] {Q : Value -> Hp -> Ix Γ -> Prop} {Y : List PanicEntry -> Hp -> Ix Γ -> Prop}
    (hi : ops[i]? = some ⟨some d, .call { callee := .value x, args, argTypes := ats }, ty, pos, af, g⟩) (hr : Region.ready .any ops listed = [i]) (hl : listed.setIfInBounds i true = l') (hd : Nat.blt d n = true)
    (hw : wantE ops env g = some true) (hx : ev env x = some (.func (.func c) #[] cap)) (ha : evL env args.toList = some vs) (hws : vs.toArray ++ cap = ws) (hc : CallW P main S c ws h δ (RetP Q Y)) (hY : ∀ p h' δ', Y p h' δ' -> R (.pan p) h' δ')
    (hn : ∀ v h' δ', Q v h' δ' -> Z h' /\ EA P main S f n ops Z z m l' k ((d, v) :: env) [] h' δ' R) : EA P main S f n ops Z z (m + 1) listed k env [] h δ R := by
  subst hws
  refine EA.only i hi hr hl hw fun a ka => ?_
  refine semW_call rfl (ka.eval hx) (map_ofL (fun x v hx => ka.eval hx) ha) (hc.mono ?_)
  rintro (v | p) h' δ' hq
  · exact ⟨.inr (hn v h' δ' hq).1, (hn v h' δ' hq).2 _ (ka.put v hd)⟩
  · exact fun a' ha' => WU.pan0 (ha'.trans ka.defers) hf.out (hY _ _ _ hq)
end
section
open Go Go.TJ Go.Conc Go.Proofs
section
variable {A : Type}
def toldOf (i : Nat) (g : List (Nat × A)) : List A := (g.filter fun x => x.1 == i).map (·.2)
theorem toldOf_app {i : Nat} {g g' : List (Nat × A)} : toldOf i (g ++ g') = toldOf i g ++ toldOf i g' := by simp [toldOf]
theorem toldOf_own {i : Nat} : ∀ {es : List A}, toldOf i (es.map fun a => (i, a)) = es
  | [] => rfl
  | a :: es => by
    have ih := toldOf_own (i := i) (es := es)
    simp only [toldOf, List.map_cons, List.filter_cons, beq_self_eq_true, if_true] at ih ⊢
    rw [ih]
theorem toldOf_other {i j : Nat} (h : j ≠ i) : ∀ {es : List A}, toldOf j (es.map fun a => (i, a)) = []
  | [] => rfl
  | a :: es => by
    have ih := toldOf_other h (es := es)
    have e : (i == j) = false := by simpa using Ne.symm h
    simp only [toldOf, List.map_cons, List.filter_cons, e] at ih ⊢
    exact ih
def NoEm (p : Pr A) : Prop := ∀ a k, p ≠ .emit a k
def norm : Pr A -> List A × Pr A
  | .emit a k => (a :: (norm k).1, (norm k).2)
  | .done => ([], .done)
  | .step r k => ([], .step r k)
theorem norm_no : ∀ p : Pr A, NoEm (norm p).2
  | .emit _ k => norm_no k
  | .done => nofun
  | .step _ _ => nofun
theorem Goes.norm {i : Nat} {P : Pr A} {l : List Ev} : ∀ {p : Pr A} {o : List A}, Goes i P l o p -> Goes i P l (o ++ (norm p).1) (norm p).2
  | .done, o, g => by simpa [Go.Proofs.Ythkpbenhchkkoaa.norm] using g
  | .step _ _, o, g => by simpa [Go.Proofs.Ythkpbenhchkkoaa.norm] using g
  | .emit a k, o, g => by
    have := Goes.norm g.tell
    simpa [Go.Proofs.Ythkpbenhchkkoaa.norm] using this
inductive GReach (P : Nat -> Pr A) (v0 : Nat -> Int) : List Ev -> List (Nat × A) -> (Nat -> Pr A) -> (Nat -> Int) -> Prop
  | init : GReach P v0 [] [] P v0
  | step {l : List Ev} {g : List (Nat × A)} {S : Nat -> Pr A} {v : Nat -> Int} {i : Nat} {r : Rq} {k : Int -> Pr A} : GReach P v0 l g S v -> S i = .step r k ->
      GReach P v0 (l ++ [evOf i r (v r.b)]) (g ++ (norm (k (v r.b))).1.map fun a => (i, a)) (ut S i (norm (k (v r.b))).2) (ut v r.b (behind r.op (v r.b) r.arg r.new).1)
variable {P : Nat -> Pr A} {v0 v : Nat -> Int} {l : List Ev} {g : List (Nat × A)} {S : Nat -> Pr A}
theorem GReach.goes (h0 : ∀ i, NoEm (P i)) (x : GReach P v0 l g S v) : ∀ i, Goes i (P i) (ownOf i l) (toldOf i g) (S i) /\ NoEm (S i) := by
  induction x with
  | init => exact fun i => ⟨.nil _, h0 i⟩
  | @step l g S v i r k _ hS ih =>
    intro j
    by_cases e : j = i
    · subst e
      have g1 := (ih j).1
      rw [hS] at g1
      have g2 := (g1.access (v r.b)).norm
      rw [ut_same, toldOf_app, toldOf_own]
      refine ⟨?_, norm_no _⟩
      have : ownOf j (l ++ [evOf j r (v r.b)]) = ownOf j l ++ [evOf j r (v r.b)] := by simp [ownOf, evOf]
      rw [this]
      exact g2
    · rw [ut_ne _ _ e, toldOf_app, toldOf_other e, List.append_nil]
      have : ownOf j (l ++ [evOf i r (v r.b)]) = ownOf j l := by simp [ownOf, evOf, Ne.symm e]
      rw [this]
      exact ih j
theorem GReach.next (h0 : ∀ i, NoEm (P i)) (x : GReach P v0 l g S v) {i : Nat} {r : Rq} {k : Int -> Pr A} (h1 : Goes i (P i) (ownOf i l) (toldOf i g) (.step r k)) {es : List A} {p : Pr A} (hp : NoEm p) (h2 : Goes i (P i) (ownOf i l ++ [evOf i r (v r.b)]) (toldOf i g ++ es) p) :
    GReach P v0 (l ++ [evOf i r (v r.b)]) (g ++ es.map fun a => (i, a)) (ut S i p) (ut v r.b (behind r.op (v r.b) r.arg r.new).1) := by
  have g1 := x.goes h0 i
  have e1 : S i = .step r k := (h1.det g1.1 nofun g1.2).2
  have g2 := (h1.access (v r.b)).norm
  obtain ⟨e2, e3⟩ := g2.det h2 (norm_no _) hp
  have e4 : es = (norm (k (v r.b))).1 := List.append_cancel_left e2
  rw [e4, e3]
  exact .step x e1
def OneEm : Pr A -> Prop
  | .done => True
  | .emit _ k => NoEm k /\ OneEm k
  | .step _ k => ∀ z, OneEm (k z)
theorem norm_of_no : ∀ {p : Pr A}, NoEm p -> norm p = ([], p)
  | .done, _ => rfl
  | .step _ _, _ => rfl
  | .emit a k, h => absurd rfl (h a k)
theorem OneEm.norm : ∀ {p : Pr A}, OneEm p -> (norm p).1.length <= 1 /\ OneEm (norm p).2
  | .done, _ => ⟨by simp [Go.Proofs.Ythkpbenhchkkoaa.norm], trivial⟩
  | .step _ _, h => ⟨by simp [Go.Proofs.Ythkpbenhchkkoaa.norm], h⟩
  | .emit a k, h => by
    have e : Go.Proofs.Ythkpbenhchkkoaa.norm (.emit a k) = ([a], k) := by
      show (a :: (Go.Proofs.Ythkpbenhchkkoaa.norm k).1, (Go.Proofs.Ythkpbenhchkkoaa.norm k).2) = _
      rw [norm_of_no h.1]
    rw [e]
    exact ⟨by simp, h.2⟩
theorem GReach.few (h0 : ∀ i, OneEm (P i)) (x : GReach P v0 l g S v) : g.length <= l.length /\ ∀ i, OneEm (S i) := by
  induction x with
  | init => exact ⟨Nat.le_refl _, h0⟩
  | @step l g S v i r k _ hS ih =>
    obtain ⟨h1, h2⟩ := ih
    have h3 := h2 i
    rw [hS] at h3
    obtain ⟨h4, h5⟩ := (h3 (v r.b)).norm
    refine ⟨by simp only [List.length_append, List.length_map, List.length_singleton]; omega, fun j => ?_⟩
    by_cases e : j = i
    · subst e; rw [ut_same]; exact h5
    · rw [ut_ne _ _ e]; exact h2 j
end
end
section
open Go Go.TJ Go.Conc Go.Proofs
class HasE (X : Us) where
  E : Nat -> X.U -> X.U -> Prop
structure GC (A M : Type) where
  isC : Nat -> Prop
  P : Nat -> Pr A
  v0 : Nat -> Int
  Dom : M -> Nat -> Prop
  I : List (Nat × A) -> M -> Hp -> Prop
  JV : (Nat -> Int) -> Prop
def UsG {A M : Type} (c : GC A M) : Us where
  U := List (Nat × A) × M
  isC := c.isC
  Dom := fun u b => c.Dom u.2 b
  I := fun u h => c.I u.1 u.2 h
  J := fun l u v => (∃ S, GReach c.P c.v0 l u.1 S v) /\ c.JV v
  V := fun i u u' => toldOf i u'.1 = toldOf i u.1
  Q := fun i l s u => ∃ p, Goes i (c.P i) l (toldOf i u.1) p /\ (match s with | .born => toldOf i u.1 = [] | .stands r => ∃ k, p = .step r k | .over => p = .done)
section
variable {A M : Type} {c : GC A M} {i : Nat} {γ : GG (UsG c)} {u : (UsG c).U} {L : List (Nat × Obj)} {h : Hp}
theorem acc_over' {U : Type} (p : PS U) (i : Nat) (h : p.st i = .over) : p.acc i = p := by
  unfold PS.acc; rw [h]
end
end
section
open Go Go.TJ Go.Conc Go.Proofs
section
variable {A : Type}
inductive GR (P : Nat -> Pr A) (v0 : Nat -> Int) : List Ev -> List (Nat × A) -> (Nat -> Pr A) -> (Nat -> Int) -> Prop
  | init : GR P v0 [] [] P v0
  | tell {l : List Ev} {g : List (Nat × A)} {S : Nat -> Pr A} {v : Nat -> Int} (i : Nat) : GR P v0 l g S v ->
      GR P v0 l (g ++ (norm (S i)).1.map fun a => (i, a)) (ut S i (norm (S i)).2) v
  | step {l : List Ev} {g : List (Nat × A)} {S : Nat -> Pr A} {v : Nat -> Int} {i : Nat} {r : Rq} {k : Int -> Pr A} : GR P v0 l g S v -> S i = .step r k ->
      GR P v0 (l ++ [evOf i r (v r.b)]) (g ++ (norm (k (v r.b))).1.map fun a => (i, a)) (ut S i (norm (k (v r.b))).2) (ut v r.b (behind r.op (v r.b) r.arg r.new).1)
variable {P : Nat -> Pr A} {v0 v : Nat -> Int} {l : List Ev} {g : List (Nat × A)} {S : Nat -> Pr A}
theorem norm_self : ∀ {p : Pr A}, (norm p).1 = [] -> (norm p).2 = p
  | .done, _ => rfl
  | .step _ _, _ => rfl
  | .emit _ _, h => by cases h
theorem GR.goes (x : GR P v0 l g S v) : ∀ i, Goes i (P i) (ownOf i l) (toldOf i g) (S i) := by
  induction x with
  | init => exact fun i => .nil _
  | @tell l g S v i _ ih =>
    intro j
    by_cases e : j = i
    · subst e
      rw [ut_same, toldOf_app, toldOf_own]
      exact (ih j).norm
    · rw [ut_ne _ _ e, toldOf_app, toldOf_other e, List.append_nil]
      exact ih j
  | @step l g S v i r k _ hS ih =>
    intro j
    by_cases e : j = i
    · subst e
      have g1 := ih j
      rw [hS] at g1
      have g2 := (g1.access (v r.b)).norm
      rw [ut_same, toldOf_app, toldOf_own]
      have : ownOf j (l ++ [evOf j r (v r.b)]) = ownOf j l ++ [evOf j r (v r.b)] := by simp [ownOf, evOf]
      rw [this]
      exact g2
    · rw [ut_ne _ _ e, toldOf_app, toldOf_other e, List.append_nil]
      have : ownOf j (l ++ [evOf i r (v r.b)]) = ownOf j l := by simp [ownOf, evOf, Ne.symm e]
      rw [this]
      exact ih j
theorem GR.left (x : GR P v0 l g S v) {i : Nat} {p : Pr A} (h : Goes i (P i) (ownOf i l) (toldOf i g) p) (hp : NoEm p) : S i = p := by
  obtain ⟨e1, e2⟩ := h.det (x.goes i).norm hp (norm_no _)
  have e3 : (norm (S i)).1 = [] := List.append_cancel_left (e1.trans (List.append_nil _).symm)
  exact (norm_self e3).symm.trans e2
theorem GR.next (x : GR P v0 l g S v) {i : Nat} {r : Rq} {k : Int -> Pr A} (h1 : Goes i (P i) (ownOf i l) (toldOf i g) (.step r k)) {es : List A} {p : Pr A} (hp : NoEm p) (h2 : Goes i (P i) (ownOf i l ++ [evOf i r (v r.b)]) (toldOf i g ++ es) p) :
    GR P v0 (l ++ [evOf i r (v r.b)]) (g ++ es.map fun a => (i, a)) (ut S i p) (ut v r.b (behind r.op (v r.b) r.arg r.new).1) := by
  have e1 : S i = .step r k := x.left h1 nofun
  have g2 := (h1.access (v r.b)).norm
  obtain ⟨e2, e3⟩ := g2.det h2 (norm_no _) hp
  have e4 : es = (norm (k (v r.b))).1 := List.append_cancel_left e2
  rw [e4, e3]
  exact .step x e1
theorem GR.first (x : GR P v0 l g S v) {i : Nat} {es : List A} {p : Pr A} (hp : NoEm p) (h2 : Goes i (P i) (ownOf i l) (toldOf i g ++ es) p) :
    GR P v0 l (g ++ es.map fun a => (i, a)) (ut S i p) v := by
  obtain ⟨e2, e3⟩ := ((x.goes i).norm).det h2 (norm_no _) hp
  have e4 : es = (norm (S i)).1 := List.append_cancel_left e2
  rw [e4, e3]
  exact .tell i x
def Within : Nat -> Pr A -> Prop
  | _, .done => True
  | n, .emit _ k => Within n k
  | n, .step _ k => ∃ m, n = m + 1 /\ ∀ w, Within m (k w)
theorem Within.mono {n m : Nat} : ∀ {p : Pr A}, Within n p -> n <= m -> Within m p := by
  intro p
  induction p generalizing n m with
  | done => exact fun _ _ => by unfold Within; trivial
  | emit a k ih => exact fun h hm => ih (n := n) h hm
  | step r k ih =>
    rintro ⟨n', rfl, h⟩ hm
    exact ⟨m - 1, by omega, fun w => ih w (h w) (by omega)⟩
theorem Within.goes {i n : Nat} {p q : Pr A} {l : List Ev} {o : List A} (g : Goes i p l o q) : Within n p -> l.length <= n := by
  induction g generalizing n with
  | nil p => exact fun _ => Nat.zero_le _
  | emit _ ih => exact fun h => ih h
  | step w _ ih =>
    rintro ⟨m, rfl, h⟩
    have := ih (h w)
    simp only [List.length_cons]
    omega
end
def UsN {A M : Type} (c : GC A M) : Us where
  U := List (Nat × A) × M
  isC := c.isC
  Dom := fun u b => c.Dom u.2 b
  I := fun u h => c.I u.1 u.2 h
  J := fun l u v => (∃ S, GR c.P c.v0 l u.1 S v) /\ c.JV v
  V := fun i u u' => ∃ es : List (Nat × A), u'.1 = u.1 ++ es /\ ∀ x, x ∈ es -> x.1 ≠ i
  Q := fun i l s u => ∃ p, Goes i (c.P i) l (toldOf i u.1) p /\ (match s with | .born => toldOf i u.1 = [] | .stands r => ∃ k, p = .step r k | .over => p = .done)
instance {A M : Type} (c : GC A M) : HasE (UsN c) := ⟨fun i u u' => ∃ es : List A, (show List (Nat × A) × M from u').1 = (show List (Nat × A) × M from u).1 ++ es.map fun a => (i, a)⟩
section
variable {A M : Type} {c : GC A M} {i : Nat} {γ : GG (UsN c)} {u : (UsN c).U} {L : List (Nat × Obj)} {h : Hp}
theorem toldOf_none {i : Nat} {es : List (Nat × A)} (h : ∀ x, x ∈ es -> x.1 ≠ i) : toldOf i es = [] := by
  unfold toldOf
  rw [List.filter_eq_nil_iff.2 (fun x hx => by simpa using h x hx)]
  rfl
theorem usN_told {u u' : (UsN c).U} (hv : (UsN c).V i u u') : toldOf i u'.1 = toldOf i u.1 := by
  obtain ⟨es, e, h⟩ := hv
  rw [e, toldOf_app, toldOf_none h, List.append_nil]
theorem usN_ok (loc : ∀ g m h h', (∀ b, c.Dom m b -> h'[b]? = h[b]?) -> c.I g m h -> c.I g m h') (dis : ∀ m b, c.Dom m b -> ¬ c.isC b) : (UsN c).Ok where
  vrefl := fun _ _ => ⟨[], (List.append_nil _).symm, fun _ hx => by cases hx⟩
  vtrans := fun i a b d h1 h2 => by
    obtain ⟨e1, q1, n1⟩ := h1
    obtain ⟨e2, q2, n2⟩ := h2
    exact ⟨e1 ++ e2, by rw [q2, q1, List.append_assoc], fun x hx => (List.mem_append.1 hx).elim (n1 x) (n2 x)⟩
  loc := fun u h h' hb I => loc u.1 u.2 h h' hb I
  stab := fun i l s u u' hv hq => by
    have hv' : toldOf i u'.1 = toldOf i u.1 := usN_told hv
    show ∃ p, Goes i (c.P i) l (toldOf i u'.1) p /\ _
    rw [hv']
    exact hq
  dis := fun u b hd hc => dis u.2 b hd hc
theorem usN_prog : Prog (UsN c) c.P (fun u i => toldOf i u.1) where
  Q := fun _ _ _ _ => Iff.rfl
  V := fun _i _u _u' hv => usN_told hv
theorem nrefl {i : Nat} {u : (UsN c).U} : HasE.E (X := UsN c) i u u := ⟨[], by simp⟩
theorem usN_reach (T : Thr (UsN c) i γ u L h) {p : Pr A} (hg : Goes i (c.P i) (ownOf i (γ.p.acc i).log) (toldOf i u.1) p) (he : HasE.E (X := UsN c) i γ.p.u u) : ∃ S, GR c.P c.v0 (γ.p.acc i).log (u.1 ++ (norm p).1.map fun a => (i, a)) (ut S i (norm p).2) (γ.p.acc i).val := by
  obtain ⟨⟨S, R⟩, -⟩ := T.J
  obtain ⟨es, he'⟩ := he
  have he : u.1 = γ.p.u.1 ++ es.map fun a => (i, a) := he'
  replace hg := hg.norm
  have e0 : u.1 ++ (norm p).1.map (fun a => (i, a)) = γ.p.u.1 ++ (es ++ (norm p).1).map fun a => (i, a) := by rw [he, List.map_append, List.append_assoc]
  rw [he, toldOf_app, toldOf_own, List.append_assoc] at hg
  rw [e0]
  generalize es ++ (norm p).1 = es' at hg ⊢
  have np := norm_no p
  generalize (norm p).2 = p' at hg np ⊢
  have stay : (γ.p.acc i) = γ.p -> ∃ S, GR c.P c.v0 (γ.p.acc i).log (γ.p.u.1 ++ es'.map fun a => (i, a)) (ut S i p') (γ.p.acc i).val := fun e => by
    rw [e] at hg ⊢
    exact ⟨S, R.first np hg⟩
  obtain ⟨q, hq, hs⟩ := T.Q i
  cases hst : γ.p.st i with
  | born => exact stay (acc_born _ _ hst)
  | over => exact stay (acc_over' _ _ hst)
  | stands r =>
    rw [hst] at hs
    obtain ⟨k, rfl⟩ := hs
    rw [acc_stands _ _ hst] at hg ⊢
    have e1 : ownOf i (γ.p.log ++ [evOf i r (γ.p.val r.b)]) = ownOf i γ.p.log ++ [evOf i r (γ.p.val r.b)] := by simp [ownOf, evOf]
    dsimp only at hg ⊢
    rw [e1] at hg
    exact ⟨S, R.next hq np hg⟩
theorem usN_j (T : Thr (UsN c) i γ u L h) {p : Pr A} (hg : Goes i (c.P i) (ownOf i (γ.p.acc i).log) (toldOf i u.1) p) (hp : NoEm p) (he : HasE.E (X := UsN c) i γ.p.u u) (hv : c.JV (γ.p.acc i).val) : (UsN c).J (γ.p.acc i).log u (γ.p.acc i).val := by
  obtain ⟨S, R⟩ := usN_reach T hg he
  have e1 : (norm p) = ([], p) := norm_of_no hp
  rw [e1] at R
  have e2 : u.1 ++ ([] : List A).map (fun a => (i, a)) = u.1 := by simp
  rw [e2] at R
  exact ⟨⟨_, R⟩, hv⟩
end
end
section
open Go Go.TJ Go.Conc Go.Proofs
inductive PE where
  | app (l v : Nat)
  | put (e : Int)
  | tk (v l : Int) (is : Bool)
structure Thg where
  lv : Nat
  th : Int
  sn : Int
  tk : Bool
structure WS where
  ts : List Thg
  there : Int
  last : Nat -> Int
def WS.z : WS := ⟨[], 0, fun _ => 0⟩
def bump (x : Thg) : Thg := if x.tk then x else { x with sn := x.sn + 1 }
def gone : List Thg -> Nat -> List Thg
  | [], _ => []
  | x :: r, 0 => { x with tk := true } :: r.map bump
  | x :: r, i + 1 => bump x :: gone r i
def wstep (s : WS) : Nat × PE -> WS
  | (_, .app l _) => { s with ts := s.ts ++ [⟨l, s.there + 1, 0, false⟩] }
  | (_, .put e) => if e = 0 then { s with there := s.there + 1 } else { s with ts := s.ts.dropLast }
  | (_, .tk v l is) => if is then ⟨gone s.ts (v.toNat - 1), s.there - 1, ut s.last l.toNat v⟩ else s
def wfold (g : List (Nat × PE)) : WS := g.foldl wstep WS.z
theorem wfold_snoc {g : List (Nat × PE)} {x : Nat × PE} : wfold (g ++ [x]) = wstep (wfold g) x := by unfold wfold; rw [List.foldl_append]; rfl
structure WB (s : WS) : Prop where
  len : s.ts.length <= 401
  there : 0 <= s.there /\ s.there <= 401
  th : ∀ x, x ∈ s.ts -> 0 <= x.th /\ x.th <= 402
  sn : ∀ x, x ∈ s.ts -> x.tk = false -> -1000 <= x.sn /\ x.sn <= 1000
def wok (L : Nat) (s : WS) : Nat × PE -> Prop
  | (_, .app _ v) => WB s /\ v = s.ts.length + 1
  | (_, .put e) => WB s /\ s.ts ≠ [] /\ (e = 0 \/ e = 12)
  | (_, .tk v l is) => is = true -> WB s /\ ∃ (w b : Nat) (x : Thg), v = w /\ l = b /\ b < L /\ 1 <= w /\ s.ts[w - 1]? = some x /\ x.tk = false /\ x.lv = b /\ s.last b < w /\ x.sn <= x.th + 64 * ((L : Int) - 1 - b)
def wokl (L : Nat) (g : List (Nat × PE)) : Prop := ∀ g1 x g2, g = g1 ++ x :: g2 -> wok L (wfold g1) x
theorem wokl_nil {L : Nat} : wokl L [] := fun g1 x g2 e => by cases g1 <;> cases e
theorem wokl_snoc {L : Nat} {g : List (Nat × PE)} {x : Nat × PE} (h : wokl L g) (hx : wok L (wfold g) x) : wokl L (g ++ [x]) := by
  intro g1 y g2 e
  rcases List.eq_nil_or_concat g2 with rfl | ⟨g3, z, rfl⟩
  · obtain ⟨e1, e2⟩ := List.append_inj' e rfl
    injection e2 with e2 _
    subst e1 e2
    exact hx
  · rw [List.concat_eq_append, <- List.cons_append, <- List.append_assoc] at e
    obtain ⟨e1, e2⟩ := List.append_inj' e rfl
    exact h g1 y g3 e1
def unt (l : List Thg) : Nat := l.countP fun x => !x.tk
def tkn (l : List Thg) : Nat := l.countP fun x => x.tk
theorem bump_tk {x : Thg} : (bump x).tk = x.tk := by unfold bump; split <;> rfl
theorem bump_lv {x : Thg} : (bump x).lv = x.lv := by unfold bump; split <;> rfl
theorem bump_th {x : Thg} : (bump x).th = x.th := by unfold bump; split <;> rfl
theorem bump_sn {x : Thg} (h : x.tk = false) : (bump x).sn = x.sn + 1 := by unfold bump; rw [if_neg (by simp [h])]
theorem unt_bump (l : List Thg) : unt (l.map bump) = unt l := by
  unfold unt; rw [List.countP_map]; congr 1; funext x; simp [bump_tk]
theorem tkn_bump (l : List Thg) : tkn (l.map bump) = tkn l := by
  unfold tkn; rw [List.countP_map]; congr 1; funext x; simp [bump_tk]
theorem unt_cons {x : Thg} {l : List Thg} : unt (x :: l) = unt l + if x.tk then 0 else 1 := by
  unfold unt; rw [List.countP_cons]; cases x.tk <;> rfl
theorem tkn_cons {x : Thg} {l : List Thg} : tkn (x :: l) = tkn l + if x.tk then 1 else 0 := by
  unfold tkn; rw [List.countP_cons]
theorem unt_app {l l' : List Thg} : unt (l ++ l') = unt l + unt l' := List.countP_append
theorem tkn_app {l l' : List Thg} : tkn (l ++ l') = tkn l + tkn l' := List.countP_append
theorem tkn_le {l : List Thg} : tkn l <= l.length := List.countP_le_length
theorem gone_len : ∀ {l : List Thg} {i : Nat}, (gone l i).length = l.length
  | [], _ => rfl
  | x :: r, 0 => by simp [gone]
  | x :: r, i + 1 => by simp [gone, gone_len]
theorem gone_get : ∀ {l : List Thg} {i j : Nat}, (gone l i)[j]? = l[j]?.map fun x => if j = i then { x with tk := true } else bump x
  | [], _, _ => by simp [gone]
  | x :: r, 0, 0 => by simp [gone]
  | x :: r, 0, j + 1 => by simp [gone]
  | x :: r, i + 1, 0 => by simp [gone]
  | x :: r, i + 1, j + 1 => by simp [gone, gone_get (l := r)]
theorem gone_take : ∀ {l : List Thg} {i j : Nat}, (gone l i).take j = if i < j then gone (l.take j) i else (l.take j).map bump
  | [], i, j => by simp [gone]
  | x :: r, i, 0 => by simp
  | x :: r, 0, j + 1 => by simp [gone]
  | x :: r, i + 1, j + 1 => by
    simp only [gone, List.take_succ_cons, gone_take (l := r) (i := i) (j := j)]
    by_cases h : i < j
    · rw [if_pos h, if_pos (by omega)]
    · rw [if_neg h, if_neg (by omega)]; rfl
theorem gone_drop : ∀ {l : List Thg} {i j : Nat}, (gone l i).drop j = if j <= i then gone (l.drop j) (i - j) else (l.drop j).map bump
  | [], i, j => by simp [gone]
  | x :: r, i, 0 => by simp
  | x :: r, 0, j + 1 => by simp [gone]
  | x :: r, i + 1, j + 1 => by
    simp only [gone, List.drop_succ_cons, gone_drop (l := r) (i := i) (j := j)]
    by_cases h : j <= i
    · rw [if_pos h, if_pos (by omega), show i + 1 - (j + 1) = i - j by omega]
    · rw [if_neg h, if_neg (by omega)]
theorem unt_gone : ∀ {l : List Thg} {i : Nat} {x : Thg}, l[i]? = some x -> x.tk = false -> unt (gone l i) + 1 = unt l
  | [], _, _, h, _ => by cases h
  | y :: r, 0, x, h, hx => by
    have e : y = x := by simpa using h
    subst e
    simp [gone, unt_cons, unt_bump, hx]
  | y :: r, i + 1, x, h, hx => by
    have ih := unt_gone (l := r) (i := i) (x := x) (by simpa using h) hx
    simp only [gone, unt_cons, bump_tk]
    omega
theorem tkn_gone : ∀ {l : List Thg} {i : Nat} {x : Thg}, l[i]? = some x -> x.tk = false -> tkn (gone l i) = tkn l + 1
  | [], _, _, h, _ => by cases h
  | y :: r, 0, x, h, hx => by
    have e : y = x := by simpa using h
    subst e
    simp [gone, tkn_cons, tkn_bump, hx]
  | y :: r, i + 1, x, h, hx => by
    have ih := tkn_gone (l := r) (i := i) (x := x) (by simpa using h) hx
    simp only [gone, tkn_cons, bump_tk]
    omega
theorem unt_take_gone {l : List Thg} {i j : Nat} {x : Thg} (h : l[i]? = some x) (hx : x.tk = false) : unt ((gone l i).take j) + (if i < j then 1 else 0) = unt (l.take j) := by
  rw [gone_take]
  by_cases e : i < j
  · rw [if_pos e, if_pos e]
    exact unt_gone (by rw [List.getElem?_take_of_lt e]; exact h) hx
  · rw [if_neg e, if_neg e, unt_bump]; rfl
theorem tkn_drop_gone {l : List Thg} {i j : Nat} {x : Thg} (h : l[i]? = some x) (hx : x.tk = false) : tkn ((gone l i).drop j) = tkn (l.drop j) + (if j <= i then 1 else 0) := by
  rw [gone_drop]
  by_cases e : j <= i
  · rw [if_pos e, if_pos e]
    exact tkn_gone (by rw [List.getElem?_drop, show j + (i - j) = i by omega]; exact h) hx
  · rw [if_neg e, if_neg e, tkn_bump]; rfl
theorem tkn_far {l : List Thg} {w D : Nat} : tkn (l.drop w) <= D + tkn (l.drop (w + D)) := by
  have e : l.drop w = (l.drop w).take D ++ l.drop (w + D) := by
    rw [show l.drop (w + D) = (l.drop w).drop D by rw [List.drop_drop]]
    exact (List.take_append_drop _ _).symm
  have h := tkn_le (l := (l.drop w).take D)
  have h2 : ((l.drop w).take D).length <= D := by rw [List.length_take]; omega
  calc tkn (l.drop w) = tkn ((l.drop w).take D) + tkn (l.drop (w + D)) := by rw [<- tkn_app, <- e]
    _ <= _ := by omega
theorem tkn_drop_app {l : List Thg} {x : Thg} (hx : x.tk = false) (n : Nat) : tkn ((l ++ [x]).drop n) = tkn (l.drop n) := by
  rw [List.drop_append, tkn_app]
  have h2 : tkn (List.drop (n - l.length) [x]) = 0 := by
    rcases Nat.eq_zero_or_pos (n - l.length) with e | e
    · rw [e, List.drop_zero, tkn_cons, hx]; rfl
    · rw [List.drop_eq_nil_of_le (by rw [List.length_singleton]; exact e)]; rfl
  omega
def dD (L i : Nat) : Nat := 64 * (L - 1 - i)
structure LI (full : Prop) (L : Nat) (s : WS) (k : Nat) (fl : Bool) (q : Nat -> List Nat) (o : Nat -> Nat) : Prop where
  len : s.ts.length = k + (if fl then 1 else 0)
  thr : s.there = unt (s.ts.take k)
  fly : ∀ x, s.ts[k]? = some x -> x.tk = false
  item : ∀ i p w, i < L -> (q i)[p]? = some w -> 1 <= w /\ w <= k /\ ∃ x, s.ts[w - 1]? = some x /\ x.lv = i /\ (o i <= p -> x.tk = false)
  ta : full -> ∀ v, 1 <= v -> v <= k -> ∃ i p, i < L /\ (q i)[p]? = some v /\ (p < o i -> ∀ x, s.ts[v - 1]? = some x -> x.tk = true)
  last : ∀ i p w, i < L -> o i <= p -> (q i)[p]? = some w -> s.last i < w
  lle : ∀ i, s.last i <= k
  srt : ∀ (i p p' w w' : Nat), i < L -> (q i)[p]? = some w -> (q i)[p']? = some w' -> p < p' -> w < w'
  thb : ∀ (j : Nat) (x : Thg), s.ts[j]? = some x -> 0 <= x.th /\ x.th <= j + 1
  eq : ∀ (j : Nat) (x : Thg), s.ts[j]? = some x -> x.tk = false -> x.sn + (unt (s.ts.take j) : Int) = x.th - 1 + (tkn (s.ts.drop (j + 1)) : Int)
  far : ∀ i p w, i < L -> o i <= p -> (q i)[p]? = some w -> tkn (s.ts.drop (w + dD L i)) <= 1
section
variable {full : Prop} {L : Nat} {s : WS} {k : Nat} {fl : Bool} {q : Nat -> List Nat} {o : Nat -> Nat}
theorem LI.init {full : Prop} {L : Nat} : LI full L WS.z 0 false (fun _ => []) (fun _ => 0) :=
  ⟨rfl, rfl, fun x h => (by cases h), fun i p w _ h => (by simp at h), fun _ v h1 h2 => by omega, fun i p w _ _ h => (by simp at h), fun _ => Int.le_refl _, fun i p p' w w' _ h => (by simp at h), fun j x h => (by simp [WS.z] at h), fun j x h => (by simp [WS.z] at h), fun i p w _ _ h => (by simp at h)⟩
theorem LI.mono {o' : Nat -> Nat} (I : LI full L s k fl q o) (h : ∀ i, i < L -> o i <= o' i) : LI False L s k fl q o' :=
  ⟨I.len, I.thr, I.fly, fun i p w hi hw => by
    obtain ⟨h1, h2, x, h3, h4, h5⟩ := I.item i p w hi hw
    exact ⟨h1, h2, x, h3, h4, fun hp => h5 (Nat.le_trans (h i hi) hp)⟩, fun h => h.elim, fun i p w hi hp hw => I.last i p w hi (Nat.le_trans (h i hi) hp) hw, I.lle, I.srt, I.thb, I.eq, fun i p w hi hp hw => I.far i p w hi (Nat.le_trans (h i hi) hp) hw⟩
theorem LI.app (I : LI full L s k false q o) {j l v : Nat} : LI full L (wstep s (j, .app l v)) k true q o := by
  have len : s.ts.length = k := I.len
  have get : ∀ {j : Nat} {x : Thg}, s.ts[j]? = some x -> (s.ts ++ [⟨l, s.there + 1, 0, false⟩])[j]? = some x := fun {j x} h => by
    rw [List.getElem?_append_left (List.getElem?_eq_some_iff.1 h).1]; exact h
  have hun : unt (s.ts.take k) <= k := by
    have h1 : unt (s.ts.take k) <= (s.ts.take k).length := List.countP_le_length
    rw [List.length_take] at h1
    omega
  refine ⟨by show (s.ts ++ [_]).length = _; simp [len], ?_, fun x h => ?_, fun i p w hi hw => ?_, fun hf v h1 h2 => ?_, I.last, I.lle, I.srt, fun j x h => ?_, fun j x h hx => ?_, fun i p w hi hp hw => ?_⟩
  · show s.there = unt ((s.ts ++ [_]).take k)
    rw [List.take_append_of_le_length (by omega)]; exact I.thr
  · have h' : (s.ts ++ [⟨l, s.there + 1, 0, false⟩])[k]? = some x := h
    rw [List.getElem?_append_right (by omega), len, Nat.sub_self] at h'
    have e : (⟨l, s.there + 1, 0, false⟩ : Thg) = x := by simpa using h'
    rw [<- e]
  · obtain ⟨h1, h2, x, h3, h4⟩ := I.item i p w hi hw
    exact ⟨h1, h2, x, get h3, h4⟩
  · obtain ⟨i, p, hi, hw, hz⟩ := I.ta hf v h1 h2
    refine ⟨i, p, hi, hw, fun hp x hx => hz hp x ?_⟩
    have hx' : (s.ts ++ [⟨l, s.there + 1, 0, false⟩])[v - 1]? = some x := hx
    rwa [List.getElem?_append_left (by omega)] at hx'
  · have h' : (s.ts ++ [⟨l, s.there + 1, 0, false⟩])[j]? = some x := h
    by_cases hj : j < s.ts.length
    · rw [List.getElem?_append_left hj] at h'
      exact I.thb j x h'
    · have hj2 : j = s.ts.length := by
        have := (List.getElem?_eq_some_iff.1 h').1
        simp at this; omega
      subst hj2
      rw [List.getElem?_append_right (Nat.le_refl _), Nat.sub_self] at h'
      have e : (⟨l, s.there + 1, 0, false⟩ : Thg) = x := by simpa using h'
      subst e
      have h0 := I.thr
      show 0 <= s.there + 1 /\ s.there + 1 <= (s.ts.length : Int) + 1
      omega
  · have h' : (s.ts ++ [⟨l, s.there + 1, 0, false⟩])[j]? = some x := h
    show x.sn + unt ((s.ts ++ [_]).take j) = x.th - 1 + tkn ((s.ts ++ [_]).drop (j + 1))
    by_cases hj : j < s.ts.length
    · rw [List.getElem?_append_left hj] at h'
      rw [List.take_append_of_le_length (by omega), List.drop_append_of_le_length (by omega), tkn_app, tkn_cons]
      have := I.eq j x h' hx
      simpa [tkn] using this
    · have hj2 : j = s.ts.length := by
        have := (List.getElem?_eq_some_iff.1 h').1
        simp at this; omega
      subst hj2
      rw [List.getElem?_append_right (Nat.le_refl _), Nat.sub_self] at h'
      have e : (⟨l, s.there + 1, 0, false⟩ : Thg) = x := by simpa using h'
      subst e
      rw [List.take_append_of_le_length (Nat.le_refl _), List.take_length, List.drop_eq_nil_of_le (by simp)]
      have h0 := I.thr
      rw [<- len, List.take_length] at h0
      show (0 : Int) + unt s.ts = s.there + 1 - 1 + ((tkn [] : Nat) : Int)
      rw [h0]
      simp [tkn]
  · show tkn ((s.ts ++ [_]).drop _) <= 1
    rw [List.drop_append, tkn_app]
    have h1 := I.far i p w hi hp hw
    have h2 : tkn (List.drop (w + dD L i - s.ts.length) [(⟨l, s.there + 1, 0, false⟩ : Thg)]) = 0 := by
      rcases Nat.eq_zero_or_pos (w + dD L i - s.ts.length) with e | e
      · rw [e]; rfl
      · rw [List.drop_eq_nil_of_le (by rw [List.length_singleton]; exact e)]; rfl
    omega
theorem LI.putno (I : LI full L s k true q o) {j : Nat} {e : Int} (he : e ≠ 0) : LI full L (wstep s (j, .put e)) k false q o := by
  have len : s.ts.length = k + 1 := I.len
  have e1 : wstep s (j, .put e) = { s with ts := s.ts.take k } := by
    show (if e = 0 then _ else _ : WS) = _
    rw [if_neg he, List.dropLast_eq_take, len]; rfl
  rw [e1]
  have get : ∀ {j : Nat}, j < k -> (s.ts.take k)[j]? = s.ts[j]? := fun {j} h => List.getElem?_take_of_lt h
  have last : s.ts = s.ts.take k ++ s.ts.drop k := (List.take_append_drop _ _).symm
  obtain ⟨y, hy⟩ : ∃ y, s.ts[k]? = some y := ⟨_, List.getElem?_eq_getElem (by omega)⟩
  have hd : s.ts.drop k = [y] := by
    rw [List.drop_eq_getElem_cons (by omega), List.drop_eq_nil_of_le (by omega)]
    rw [List.getElem?_eq_getElem (by omega)] at hy
    injection hy with hy
    rw [hy]
  have hyt := I.fly y hy
  have cut : ∀ n, tkn ((s.ts.take k).drop n) = tkn (s.ts.drop n) := fun n => by
    by_cases hn : n <= k
    · have e2 : s.ts.drop n = (s.ts.take k).drop n ++ [y] := by
        have h0 : (s.ts.take k).length = k := by rw [List.length_take]; omega
        calc s.ts.drop n = (s.ts.take k ++ s.ts.drop k).drop n := by rw [<- last]
          _ = _ := by rw [List.drop_append_of_le_length (by omega), hd]
      rw [e2, tkn_app, tkn_cons, hyt]; rfl
    · rw [List.drop_eq_nil_of_le (by rw [List.length_take]; omega), List.drop_eq_nil_of_le (by omega)]
  refine ⟨by show (s.ts.take k).length = k + 0; rw [List.length_take]; omega, ?_, fun x h => ?_, fun i p w hi hw => ?_, fun hf v h1 h2 => ?_, I.last, I.lle, I.srt, fun j x h => ?_, fun j x h hx => ?_, fun i p w hi hp hw => ?_⟩
  · show s.there = unt ((s.ts.take k).take k)
    rw [List.take_take, Nat.min_self]; exact I.thr
  · have h' : (s.ts.take k)[k]? = some x := h
    rw [List.getElem?_take_eq_none (Nat.le_refl _)] at h'; cases h'
  · obtain ⟨h1, h2, x, h3, h4⟩ := I.item i p w hi hw
    exact ⟨h1, h2, x, (get (by omega)).trans h3, h4⟩
  · obtain ⟨i, p, hi, hw, hz⟩ := I.ta hf v h1 h2
    exact ⟨i, p, hi, hw, fun hp x hx => hz hp x ((get (by omega)).symm.trans hx)⟩
  · have h' : (s.ts.take k)[j]? = some x := h
    have hj : j < k := by
      have := (List.getElem?_eq_some_iff.1 h').1
      rw [List.length_take] at this; omega
    rw [get hj] at h'
    exact I.thb j x h'
  · have h' : (s.ts.take k)[j]? = some x := h
    have hj : j < k := by
      have := (List.getElem?_eq_some_iff.1 h').1
      rw [List.length_take] at this; omega
    rw [get hj] at h'
    show x.sn + unt ((s.ts.take k).take j) = x.th - 1 + tkn ((s.ts.take k).drop (j + 1))
    rw [List.take_take, Nat.min_eq_left (by omega), cut]
    exact I.eq j x h' hx
  · show tkn ((s.ts.take k).drop _) <= 1
    rw [cut]; exact I.far i p w hi hp hw
theorem app_get {A : Type} {l : List A} {y x : A} {p : Nat} (h : (l ++ [y])[p]? = some x) : l[p]? = some x \/ (p = l.length /\ x = y) := by
  rcases Nat.lt_or_ge p l.length with c | c
  · rw [List.getElem?_append_left c] at h; exact .inl h
  · rw [List.getElem?_append_right c] at h
    rcases Nat.eq_zero_or_pos (p - l.length) with z | z
    · rw [z] at h
      exact .inr ⟨by omega, by simpa using h.symm⟩
    · rw [List.getElem?_eq_none (by rw [List.length_singleton]; exact z)] at h; cases h
theorem get_app {A : Type} {l : List A} {y x : A} {p : Nat} (h : l[p]? = some x) : (l ++ [y])[p]? = some x := by
  rw [List.getElem?_append_left (List.getElem?_eq_some_iff.1 h).1]; exact h
def putQ (q : Nat -> List Nat) (l w : Nat) : Nat -> List Nat := ut q l (q l ++ [w])
theorem putQ_get {q : Nat -> List Nat} {l w i p x : Nat} (h : (putQ q l w i)[p]? = some x) : (q i)[p]? = some x \/ (i = l /\ p = (q l).length /\ x = w) := by
  unfold putQ at h
  by_cases e : i = l
  · subst e; rw [ut_same] at h
    exact (app_get h).imp id fun ⟨h1, h2⟩ => ⟨rfl, h1, h2⟩
  · rw [ut_ne _ _ e] at h; exact .inl h
theorem putQ_old {q : Nat -> List Nat} {l w i p x : Nat} (h : (q i)[p]? = some x) : (putQ q l w i)[p]? = some x := by
  unfold putQ
  by_cases e : i = l
  · subst e; rw [ut_same]; exact get_app h
  · rw [ut_ne _ _ e]; exact h
theorem putQ_new {q : Nat -> List Nat} {l w : Nat} : (putQ q l w l)[(q l).length]? = some w := by
  unfold putQ
  rw [ut_same, List.getElem?_append_right (Nat.le_refl _), Nat.sub_self]; rfl
theorem LI.put (I : LI full L s k true q o) {j l : Nat} (hl : l < L) (ho : o l <= (q l).length) (hlv : ∀ x, s.ts[k]? = some x -> x.lv = l) : LI full L (wstep s (j, .put 0)) (k + 1) false (putQ q l (k + 1)) o := by
  have len : s.ts.length = k + 1 := I.len
  obtain ⟨y, hy⟩ : ∃ y, s.ts[k]? = some y := ⟨_, List.getElem?_eq_getElem (by omega)⟩
  have e1 : wstep s (j, .put 0) = { s with there := s.there + 1 } := rfl
  rw [e1]
  have hd : s.ts = s.ts.take k ++ [y] := by
    have h1 : s.ts.drop k = [y] := by
      rw [List.drop_eq_getElem_cons (by omega), List.drop_eq_nil_of_le (by omega)]
      rw [List.getElem?_eq_getElem (by omega)] at hy
      injection hy with hy
      rw [hy]
    rw [<- h1, List.take_append_drop]
  refine ⟨len, ?_, fun x h => ?_, fun i p w hi hw => ?_, fun hf v h1 h2 => ?_, fun i p w hi hp hw => ?_, fun i => by have := I.lle i; show s.last i <= ((k + 1 : Nat) : Int); omega, fun i p p' w w' hi hw hw' hpp => ?_, I.thb, I.eq, fun i p w hi hp hw => ?_⟩
  · show s.there + 1 = unt (s.ts.take (k + 1))
    rw [show s.ts.take (k + 1) = s.ts by rw [<- len, List.take_length]]
    rw [hd, unt_app, unt_cons, I.fly y hy, I.thr]
    have : (unt ([] : List Thg)) = 0 := rfl
    rw [this]
    simp
  · have h' : s.ts[k + 1]? = some x := h
    rw [List.getElem?_eq_none (by omega)] at h'; cases h'
  · rcases putQ_get hw with c | ⟨rfl, rfl, rfl⟩
    · obtain ⟨h1, h2, h3⟩ := I.item i p w hi c
      exact ⟨h1, by omega, h3⟩
    · exact ⟨by omega, Nat.le_refl _, y, hy, hlv y hy, fun _ => I.fly y hy⟩
  · by_cases e : v <= k
    · obtain ⟨i, p, hi, hw, hz⟩ := I.ta hf v h1 e
      exact ⟨i, p, hi, putQ_old hw, hz⟩
    · obtain rfl : v = k + 1 := by omega
      exact ⟨l, _, hl, putQ_new, fun hp => by omega⟩
  · rcases putQ_get hw with c | ⟨rfl, rfl, rfl⟩
    · exact I.last i p w hi hp c
    · have := I.lle i
      show s.last i < ((k + 1 : Nat) : Int)
      omega
  · rcases putQ_get hw' with c' | ⟨rfl, rfl, rfl⟩
    · rcases putQ_get hw with c | ⟨rfl, rfl, rfl⟩
      · exact I.srt i p p' w w' hi c c' hpp
      · have := (List.getElem?_eq_some_iff.1 c').1; omega
    · rcases putQ_get hw with c | ⟨_, rfl, rfl⟩
      · have := (I.item i p w hi c).2.1; omega
      · omega
  · rcases putQ_get hw with c | ⟨rfl, rfl, rfl⟩
    · exact I.far i p w hi hp c
    · show tkn (s.ts.drop _) <= 1
      rw [List.drop_eq_nil_of_le (by omega)]; exact Nat.zero_le _
theorem LI.bnd (I : LI full L s k fl q o) (hk : k <= 400) : WB s := by
  have hlen := I.len
  have h401 : s.ts.length <= 401 := by split at hlen <;> omega
  have h0 := I.thr
  have hun : unt (s.ts.take k) <= k := by
    have h1 : unt (s.ts.take k) <= (s.ts.take k).length := List.countP_le_length
    rw [List.length_take] at h1
    omega
  refine ⟨h401, ⟨by omega, by omega⟩, fun x hx => ?_, fun x hx ht => ?_⟩
  · obtain ⟨j, hj, e⟩ := List.mem_iff_getElem.1 hx
    have := I.thb j x (by rw [<- e]; exact List.getElem?_eq_getElem hj)
    omega
  · obtain ⟨j, hj, e⟩ := List.mem_iff_getElem.1 hx
    have hg : s.ts[j]? = some x := by rw [<- e]; exact List.getElem?_eq_getElem hj
    have h1 := I.thb j x hg
    have h2 := I.eq j x hg ht
    have h3 : unt (s.ts.take j) <= (s.ts.take j).length := List.countP_le_length
    rw [List.length_take] at h3
    have h4 := tkn_le (l := s.ts.drop (j + 1))
    rw [List.length_drop] at h4
    omega
theorem LI.take (I : LI full L s k fl q o) {j b w : Nat} (hb : b < L) (hw : (q b)[o b]? = some w) (hk : k <= 400) (cov : ∀ i p v, i < L -> o i <= p -> (q i)[p]? = some v -> v ≠ w -> tkn (s.ts.drop (v + dD L i)) = 0 \/ w <= v + dD L i) :
    wok L s (j, .tk w b true) /\ LI full L (wstep s (j, .tk w b true)) k fl q (ut o b (o b + 1)) := by
  obtain ⟨w1, w2, x, hx, hlv, htk⟩ := I.item b _ w hb hw
  have htk := htk (Nat.le_refl _)
  have hlen := I.len
  have heq := I.eq (w - 1) x hx htk
  rw [show w - 1 + 1 = w by omega] at heq
  have hfar := tkn_far (l := s.ts) (w := w) (D := dD L b)
  have hf1 := I.far b _ w hb (Nat.le_refl _) hw
  have e1 : wstep s (j, .tk w b true) = ⟨gone s.ts (w - 1), s.there - 1, ut s.last b w⟩ := by
    have h1 : ((w : Int)).toNat = w := Int.toNat_natCast w
    have h2 : ((b : Int)).toNat = b := Int.toNat_natCast b
    simp only [wstep, if_true, h1, h2]
  have oo : ∀ i, o i <= ut o b (o b + 1) i := fun i => by
    by_cases e : i = b
    · subst e; rw [ut_same]; omega
    · rw [ut_ne _ _ e]; exact Nat.le_refl _
  have one : ∀ {i p v}, i < L -> ut o b (o b + 1) i <= p -> (q i)[p]? = some v -> v ≠ w := fun {i p v} hi hp hv e => by
    subst e
    obtain ⟨z1, z2, z3, z4, z5, z6⟩ := I.item i p v hi hv
    rw [hx] at z4
    injection z4 with z4
    subst z4
    have hib : i = b := z5.symm.trans hlv
    subst hib
    rw [ut_same] at hp
    have := I.srt i _ p _ _ hi hw hv (by omega)
    omega
  refine ⟨fun _ => ⟨I.bnd hk, w, b, x, rfl, rfl, hb, w1, hx, htk, hlv, I.last b _ w hb (Nat.le_refl _) hw, ?_⟩, ?_⟩
  · have : (dD L b : Int) = 64 * ((L : Int) - 1 - b) := by unfold dD; omega
    omega
  rw [e1]
  have gget : ∀ {j : Nat} {y : Thg}, s.ts[j]? = some y -> ∃ y', (gone s.ts (w - 1))[j]? = some y' /\ y'.lv = y.lv /\ (j ≠ w - 1 -> y'.tk = y.tk) := fun {j y} h => by
    rw [gone_get, h]
    by_cases e : j = w - 1
    · exact ⟨_, rfl, by dsimp only; rw [if_pos e], fun h => absurd e h⟩
    · exact ⟨_, rfl, by dsimp only; rw [if_neg e, bump_lv], fun _ => by dsimp only; rw [if_neg e, bump_tk]⟩
  refine ⟨by show (gone s.ts (w - 1)).length = _; rw [gone_len]; exact hlen, ?_, fun y h => ?_, fun i p v hi hv => ?_, fun hf v h1 h2 => ?_, fun i p v hi hp hv => ?_, fun i => ?_, I.srt, fun j y h => ?_, fun j y h hy => ?_, fun i p v hi hp hv => ?_⟩
  · have := unt_take_gone (j := k) hx htk
    rw [if_pos (by omega)] at this
    have h0 := I.thr
    show s.there - 1 = ((unt ((gone s.ts (w - 1)).take k) : Nat) : Int)
    omega
  · have h' : (gone s.ts (w - 1))[k]? = some y := h
    rw [gone_get] at h'
    obtain ⟨z, hz, e⟩ := Option.map_eq_some_iff.1 h'
    rw [if_neg (by omega)] at e
    rw [<- e, bump_tk]
    exact I.fly z hz
  · obtain ⟨h1, h2, y, h3, h4, h5⟩ := I.item i p v hi hv
    obtain ⟨y', g1, g2, g3⟩ := gget h3
    refine ⟨h1, h2, y', g1, g2.trans h4, fun hp => ?_⟩
    have := one hi hp hv
    rw [g3 (by omega)]
    exact h5 (Nat.le_trans (oo i) hp)
  · obtain ⟨i, p, hi, hv, hz⟩ := I.ta hf v h1 h2
    refine ⟨i, p, hi, hv, fun hp y hy => ?_⟩
    have hy' : (gone s.ts (w - 1))[v - 1]? = some y := hy
    rw [gone_get] at hy'
    obtain ⟨z, hz', e⟩ := Option.map_eq_some_iff.1 hy'
    by_cases e2 : v - 1 = w - 1
    · rw [if_pos e2] at e; rw [<- e]
    · rw [if_neg e2] at e
      rw [<- e, bump_tk]
      refine hz ?_ z hz'
      by_cases e3 : i = b
      · subst e3
        rw [ut_same] at hp
        rcases Nat.lt_or_ge p (o i) with c | c
        · exact c
        · obtain rfl : p = o i := by omega
          rw [hw] at hv
          injection hv with hv
          omega
      · rw [ut_ne _ _ e3] at hp; exact hp
  · show ut s.last b (w : Int) i < v
    have hne := one hi hp hv
    by_cases e : i = b
    · subst e
      rw [ut_same] at hp ⊢
      have := I.srt i _ p _ _ hi hw hv (by omega)
      omega
    · rw [ut_ne _ _ e]
      rw [ut_ne _ _ e] at hp
      exact I.last i p v hi hp hv
  · show ut s.last b (w : Int) i <= k
    by_cases e : i = b
    · subst e; rw [ut_same]; omega
    · rw [ut_ne _ _ e]; exact I.lle i
  · have h' : (gone s.ts (w - 1))[j]? = some y := h
    rw [gone_get] at h'
    obtain ⟨z, hz, e⟩ := Option.map_eq_some_iff.1 h'
    have := I.thb j z hz
    rw [<- e]
    split
    · exact this
    · rw [bump_th]; exact this
  · have h' : (gone s.ts (w - 1))[j]? = some y := h
    rw [gone_get] at h'
    obtain ⟨z, hz, e⟩ := Option.map_eq_some_iff.1 h'
    show y.sn + ((unt ((gone s.ts (w - 1)).take j) : Nat) : Int) = y.th - 1 + ((tkn ((gone s.ts (w - 1)).drop (j + 1)) : Nat) : Int)
    by_cases e2 : j = w - 1
    · rw [if_pos e2] at e; rw [<- e] at hy; cases hy
    · rw [if_neg e2] at e
      have hzt : z.tk = false := by rw [<- e, bump_tk] at hy; exact hy
      have h1 := I.eq j z hz hzt
      have h2 := unt_take_gone (j := j) hx htk
      have h3 := tkn_drop_gone (j := j + 1) hx htk
      rw [<- e, bump_sn hzt, bump_th]
      by_cases c : w - 1 < j
      · rw [if_pos c] at h2
        rw [if_neg (by omega)] at h3
        omega
      · rw [if_neg c] at h2
        rw [if_pos (by omega)] at h3
        omega
  · show tkn ((gone s.ts (w - 1)).drop (v + dD L i)) <= 1
    have h3 := tkn_drop_gone (j := v + dD L i) hx htk
    have hp' := Nat.le_trans (oo i) hp
    have h4 := I.far i p v hi hp' hv
    rcases cov i p v hi hp' hv (one hi hp hv) with c | c
    · split at h3 <;> omega
    · rw [if_neg (by omega)] at h3
      omega
end
end
section
open Go Go.TJ Go.Conc Go.Proofs
structure CodX (X : Us) [HasE X] {A : Type} (P : Nat -> Pr A) (told : X.U -> Nat -> List A) (V : List Ev -> (Nat -> Int) -> Prop) (M : Hp -> Prop) : Prop where
  ok : X.Ok
  prog : Prog X P told
  er : ∀ i u, HasE.E (X := X) i u u
  mem : ∀ u h, X.I u h -> M h
  jv : ∀ l u v, X.J l u v -> V l v
  j : ∀ {i : Nat} {γ : GG X} {u : X.U} {L : List (Nat × Obj)} {h : Hp} {r : Rq} {k : Int -> Pr A}, Thr X i γ u L h -> HasE.E (X := X) i γ.p.u u -> Goes i (P i) (ownOf i (γ.p.acc i).log) (told u i) (.step r k) -> X.J (γ.p.acc i).log u (γ.p.acc i).val
section
variable {X : Us} [HasE X] {A : Type} {P : Nat -> Pr A} {told : X.U -> Nat -> List A} {V : List Ev -> (Nat -> Int) -> Prop} {M : Hp -> Prop} {i : Nat} {γ γ' : GG X} {u : X.U} {L : List (Nat × Obj)} {h h' : Hp}
structure AtP (X : Us) [HasE X] {A : Type} (P : Nat -> Pr A) (told : X.U -> Nat -> List A) (i : Nat) (γ : GG X) (u : X.U) (L : List (Nat × Obj)) (h : Hp) (p : Pr A) : Prop where
  thr : Thr X i γ u L h
  res : Res P told i γ u p
  ext : HasE.E (X := X) i γ.p.u u
structure Nxt (X : Us) [HasE X] {A : Type} (P : Nat -> Pr A) (told : X.U -> Nat -> List A) (i : Nat) (γ : GG X) (u : X.U) (L : List (Nat × Obj)) (γ' : GG X) (h' : Hp) (p : Pr A) : Prop where
  al : Along X i γ.p γ'.p
  at_ : AtP X P told i γ' γ'.p.u L h' p
  V : X.V i u γ'.p.u
  len : (ownOf i (γ.p.acc i).log).length < (ownOf i (γ'.p.acc i).log).length
theorem Nxt.trans {γ1 γ2 : GG X} {h1 h2 : Hp} {p1 p2 : Pr A} (hX : X.Ok) (a : Nxt X P told i γ u L γ1 h1 p1) (b : Nxt X P told i γ1 γ1.p.u L γ2 h2 p2) : Nxt X P told i γ u L γ2 h2 p2 :=
  ⟨a.al.trans b.al, b.at_, hX.vtrans _ _ _ _ a.V b.V, Nat.lt_trans a.len b.len⟩
omit [HasE X] in
theorem own_le {l : List Ev} : (ownOf i l).length <= l.length := List.length_filter_le _ _
theorem AtP.len {p : Pr A} (a : AtP X P told i γ u L h p) : (ownOf i (γ.p.acc i).log).length <= 65536 := by
  have h1 : (ownOf i (γ.p.acc i).log).length <= (γ.p.acc i).log.length := own_le
  have h2 : (γ.p.acc i).log.length <= γ.p.log.length + 1 := by
    unfold PS.acc
    split
    · simp
    · omega
  have := a.thr.len
  omega
theorem Nxt.of (K : CodX X P told V M) {r : Rq} {k : Int -> Pr A} {h' : Hp} (a : AtP X P told i γ u L h (.step r k)) (T : Thr X i γ' γ'.p.u L h') (st : Stood X i γ u r γ') : Nxt X P told i γ u L γ' h' (k (γ'.p.val r.b)) /\ M h' /\ V γ'.p.log γ'.p.val /\ γ'.p.log.length < 65536 :=
  ⟨⟨st.al, ⟨T, a.res.did K.prog st, K.er _ _⟩, st.V, by rw [st.after]; simp⟩, K.mem _ _ T.I, K.jv _ _ _ T.J, T.len⟩
theorem loadC (K : CodX X P told V M) {b : Nat} {k : Int -> Pr A} (a : AtP X P told i γ u L h (.step ⟨1, b, 0, 0⟩ k)) (hb : X.isC b) {t : Nat} (ht : t = γ.p.tb i) : CallW Try.prog false (SitT Try.prog (PX X) (i + 1)) 35 #[ptr b, ptr t] h ⟨0, γ⟩ (RetP (fun w h' δ' => ∃ γ' : GG X, δ' = ⟨0, γ'⟩ /\ w = .int .i64 (γ'.p.val b) /\ Nxt X P told i γ u L γ' h' (k (γ'.p.val b)) /\ M h' /\ V γ'.p.log γ'.p.val /\ γ'.p.log.length < 65536) (Halt X i γ.p)) := by
  subst ht
  refine (cloadT K.ok a.thr hb (a.res.asks K.prog (K.j a.thr a.ext a.res))).conseqP ?_
  rintro w h' δ' ⟨γ', rfl, T, st, rfl⟩
  obtain ⟨x, y⟩ := Nxt.of K a T st
  exact ⟨γ', rfl, rfl, x, y⟩
theorem storeC (K : CodX X P told V M) {b : Nat} {v : Int} {k : Int -> Pr A} (a : AtP X P told i γ u L h (.step ⟨2, b, v, 0⟩ k)) (hb : X.isC b) {t : Nat} (ht : t = γ.p.tb i) : CallW Try.prog false (SitT Try.prog (PX X) (i + 1)) 33 #[ptr b, ptr t, .int .i64 v] h ⟨0, γ⟩ (RetP (fun w h' δ' => ∃ γ' : GG X, δ' = ⟨0, γ'⟩ /\ w = .tuple #[] /\ Nxt X P told i γ u L γ' h' (k (γ'.p.val b)) /\ M h' /\ V γ'.p.log γ'.p.val /\ γ'.p.log.length < 65536) (Halt X i γ.p)) := by
  subst ht
  refine (cstoreT K.ok a.thr hb (a.res.asks K.prog (K.j a.thr a.ext a.res))).conseqP ?_
  rintro w h' δ' ⟨γ', rfl, T, st, rfl⟩
  obtain ⟨x, y⟩ := Nxt.of K a T st
  exact ⟨γ', rfl, rfl, x, y⟩
theorem casC (K : CodX X P told V M) {b : Nat} {v c : Int} {k : Int -> Pr A} (a : AtP X P told i γ u L h (.step ⟨3, b, v, c⟩ k)) (hb : X.isC b) {t : Nat} (ht : t = γ.p.tb i) : CallW Try.prog false (SitT Try.prog (PX X) (i + 1)) 41 #[ptr b, ptr t, .int .i64 v, .int .i64 c] h ⟨0, γ⟩ (RetP (fun w h' δ' => ∃ γ' : GG X, δ' = ⟨0, γ'⟩ /\ w = .bool (decide (γ'.p.val b = v)) /\ Nxt X P told i γ u L γ' h' (k (γ'.p.val b)) /\ M h' /\ V γ'.p.log γ'.p.val /\ γ'.p.log.length < 65536) (Halt X i γ.p)) := by
  subst ht
  refine (ccasT K.ok a.thr hb (a.res.asks K.prog (K.j a.thr a.ext a.res))).conseqP ?_
  rintro w h' δ' ⟨γ', rfl, T, st, rfl⟩
  obtain ⟨x, y⟩ := Nxt.of K a T st
  exact ⟨γ', rfl, rfl, x, y⟩
theorem addC (K : CodX X P told V M) {b : Nat} {v : Int} {k : Int -> Pr A} (a : AtP X P told i γ u L h (.step ⟨4, b, v, 0⟩ k)) (hb : X.isC b) {t : Nat} (ht : t = γ.p.tb i) : CallW Try.prog false (SitT Try.prog (PX X) (i + 1)) 44 #[ptr b, ptr t, .int .i64 v] h ⟨0, γ⟩ (RetP (fun w h' δ' => ∃ γ' : GG X, δ' = ⟨0, γ'⟩ /\ w = .int .i64 (IntKind.i64.wrap (γ'.p.val b + v)) /\ Nxt X P told i γ u L γ' h' (k (γ'.p.val b)) /\ M h' /\ V γ'.p.log γ'.p.val /\ γ'.p.log.length < 65536) (Halt X i γ.p)) := by
  subst ht
  refine (caddT K.ok a.thr hb (a.res.asks K.prog (K.j a.thr a.ext a.res))).conseqP ?_
  rintro w h' δ' ⟨γ', rfl, T, st, rfl⟩
  obtain ⟨x, y⟩ := Nxt.of K a T st
  exact ⟨γ', rfl, rfl, x, y⟩
structure CallP (X : Us) [HasE X] {A : Type} (P : Nat -> Pr A) (told : X.U -> Nat -> List A) (i : Nat) (γ : GG X) (u : X.U) (L : List (Nat × Obj)) (γ' : GG X) (u' : X.U) (h' : Hp) (p : Pr A) : Prop where
  al : Along X i γ.p γ'.p
  at_ : AtP X P told i γ' u' L h' p
  V : X.V i u u'
omit [HasE X] in
theorem Thr.privs (T : Thr X i γ u L h) : (∀ q, q ∈ L -> h[q.1]? = some q.2 /\ ¬ X.Dom u q.1) /\ ∀ b, X.Dom u b -> b < h.size := by
  obtain ⟨s, M, g⟩ := T.gi
  have hn : i < ({ γ.p.acc i with u := u, prv := ut (γ.p.acc i).prv i L } : PS X.U).num := by show i < (γ.p.acc i).num; rw [(acc_same γ.p i).2.2.1]; exact T.lt
  refine ⟨fun q hq => ?_, fun b hb => (g.dom b hb).1⟩
  have := g.prv i hn q (by show q ∈ ut (γ.p.acc i).prv i L i; rw [ut_same]; exact hq)
  exact ⟨this.1, this.2.2.2.2⟩
omit [HasE X] in
theorem Thr.priv {L' : List (Nat × Obj)} (hX : X.Ok) (T : Thr X i γ u L h) (hu : Upd (fun b => ∃ q, q ∈ L /\ q.1 = b) h h') (h2 : ∀ q, q ∈ L' -> h'[q.1]? = some q.2 /\ ∃ q0, q0 ∈ L /\ q0.1 = q.1) : Thr X i γ u L' h' := by
  obtain ⟨p1, p3⟩ := T.privs
  refine T.user hX (u' := u) (L' := L') (hu.mono fun b _ e => .inr e) (fun b hb => ⟨.inl hb, Nat.lt_of_lt_of_le (p3 b hb) hu.size⟩) (fun q hq => ?_) (hX.loc _ _ _ (fun b hb => hu.2 b (p3 b hb) (fun ⟨q, hq, e⟩ => (p1 q hq).2 (e ▸ hb))) T.I) (fun x _ => hX.vrefl _ _)
  obtain ⟨y1, q0, hq0, e⟩ := h2 q hq
  exact ⟨y1, .inl ⟨q0, hq0, e⟩, by rw [<- e]; exact (p1 q0 hq0).2⟩
omit [HasE X] in
theorem Thr.priv1 {y : Nat} {o0 o : Obj} (hX : X.Ok) (T : Thr X i γ u ((y, o0) :: L) h) (hn : ∀ q, q ∈ L -> q.1 ≠ y) : Thr X i γ u ((y, o) :: L) (h.setIfInBounds y o) := by
  refine T.priv hX (Upd.set _ _ _ ⟨_, List.mem_cons_self, rfl⟩) fun q hq => ?_
  rcases List.mem_cons.1 hq with rfl | hq
  · exact ⟨get_set_same (T.privs.1 _ List.mem_cons_self).1, _, List.mem_cons_self, rfl⟩
  · exact ⟨by rw [get_set_ne _ (Ne.symm (hn q hq))]; exact (T.privs.1 q (List.mem_cons_of_mem _ hq)).1, q, List.mem_cons_of_mem _ hq, rfl⟩
omit [HasE X] in
theorem Thr.sub {L' : List (Nat × Obj)} (hX : X.Ok) (T : Thr X i γ u L h) (hs : ∀ q, q ∈ L' -> q ∈ L) : Thr X i γ u L' h :=
  T.priv hX (Upd.refl _ _) fun q hq => ⟨(T.privs.1 q (hs q hq)).1, q, hs q hq, rfl⟩
end
end
section
open Go Go.TJ Go.Proofs
abbrev Key := Nat × Nat × Nat
abbrev kTop : Key := (0, 0, 0)
abbrev kLvs : Key := (1, 0, 0)
abbrev kLev (i : Nat) : Key := (2, i + 1, 0)
abbrev kPls (i : Nat) : Key := (3, i + 1, 0)
abbrev kTk : Key := (4, 0, 0)
abbrev kIn (i : Nat) : Key := (5, i + 1, 0)
abbrev kOut (i : Nat) : Key := (6, i + 1, 0)
abbrev kTurn (i j : Nat) : Key := (7, i + 1, j)
abbrev kTick (i j : Nat) : Key := (8, i + 1, j)
abbrev kSlot (i j : Nat) : Key := (9, i + 1, j)
structure PG where
  L : Nat
  m : Nat
  capL : Nat
  capP : Nat -> Nat
  rL : List Value
  rP : Nat -> List Value
  B : Key -> Nat
def okP (L m : Nat) : Key -> Prop
  | (0, 0, 0) => True
  | (1, 0, 0) => True
  | (2, i + 1, 0) => i < L
  | (3, i + 1, 0) => i < L
  | (4, 0, 0) => True
  | (5, i + 1, 0) => i < L
  | (6, i + 1, 0) => i < L
  | (7, i + 1, j) => i < L /\ j < m
  | (8, i + 1, j) => i < L /\ j < m
  | (9, i + 1, j) => i < L /\ j < m
  | _ => False
def priO (G : PG) (v : Key -> Int) : Key -> Obj
  | (0, _, _) => .cells #[ptr (G.B kTk), .slice (some ⟨G.B kLvs, 0, none⟩) G.L G.capL] 133 (0, 0)
  | (1, _, _) => .cells (((List.range G.L).map fun i => ptr (G.B (kLev i))) ++ G.rL).toArray 134 (0, 0)
  | (2, 0, _) => cellO 0
  | (2, i + 1, _) => .cells #[ptr (G.B (kIn i)), ptr (G.B (kOut i)), .slice (some ⟨G.B (kPls i), 0, none⟩) G.m (G.capP i)] 137 (0, 0)
  | (3, 0, _) => cellO 0
  | (3, i + 1, _) => .cells (((List.range G.m).flatMap fun j => [ptr (G.B (kTurn i j)), ptr (G.B (kTick i j)), ptr (G.B (kSlot i j))]) ++ G.rP i).toArray 139 (0, 0)
  | k => cellO (v k)
abbrev priM (G : PG) (v : Key -> Int) : Mem Key := ⟨okP G.L G.m, G.B, priO G v⟩
abbrev Pri (h : Hp) (G : PG) (v : Key -> Int) : Prop := Rep h (priM G v)
def isV (k : Key) : Prop := 4 <= k.1
theorem priO_v {G : PG} {v : Key -> Int} {k : Key} (hk : isV k) : priO G v k = cellO (v k) := by
  obtain ⟨a, b, c⟩ := k
  unfold isV at hk
  dsimp only at hk
  rcases a with _ | _ | _ | _ | a
  · omega
  · omega
  · omega
  · omega
  · rfl
theorem priO_other {G : PG} {v v' : Key -> Int} {k : Key} (hk : ¬ isV k) : priO G v k = priO G v' k := by
  obtain ⟨a, b, c⟩ := k
  unfold isV at hk
  dsimp only at hk
  rcases a with _ | _ | _ | _ | a
  · rfl
  · rfl
  · rcases b with _ | b <;> rfl
  · rcases b with _ | b <;> rfl
  · omega
theorem Pri.val {h : Hp} {G : PG} {v : Key -> Int} (r : Pri h G v) {k : Key} (hk : okP G.L G.m k) (hv : isV k) : h[G.B k]? = some (cellO (v k)) := by
  have := r.has k hk
  rwa [show (priM G v).O k = cellO (v k) from priO_v hv] at this
theorem Pri.setv {h : Hp} {G : PG} {v : Key -> Int} (r : Pri h G v) {k : Key} (hk : okP G.L G.m k) (hv : isV k) (x : Int) : Pri (h.setIfInBounds (G.B k) (cellO x)) G (ut v k x) := by
  refine (Rep.set r hk (cellO x)).congr (fun _ y => y) (fun _ _ => rfl) (fun j _ => ?_)
  show priO G (ut v k x) j = ut (priO G v) k (cellO x) j
  by_cases e : j = k
  · subst e; rw [ut_same, priO_v hv, ut_same]
  · rw [ut_ne _ _ e]
    by_cases hj : isV j
    · rw [priO_v hj, priO_v hj, ut_ne _ _ e]
    · exact priO_other hj
theorem flat3_get {G : PG} {i j : Nat} : ∀ {m : Nat}, j < m -> ∀ t, t < 3 -> ((List.range m).flatMap fun j => [ptr (G.B (kTurn i j)), ptr (G.B (kTick i j)), ptr (G.B (kSlot i j))])[j * 3 + t]? = some (ptr (G.B (7 + t, i + 1, j)))
  | 0, h, _, _ => by omega
  | m + 1, h, t, ht => by
    have hl : ∀ m, ((List.range m).flatMap fun j => [ptr (G.B (kTurn i j)), ptr (G.B (kTick i j)), ptr (G.B (kSlot i j))]).length = m * 3 := by
      intro m
      induction m with
      | zero => rfl
      | succ m ih => rw [List.range_succ, List.flatMap_append, List.length_append, ih]; simp; omega
    rw [List.range_succ, List.flatMap_append]
    by_cases e : j = m
    · subst e
      rw [List.getElem?_append_right (by rw [hl]; omega), hl, show j * 3 + t - j * 3 = t by omega]
      rcases t with _ | _ | _ | t
      · rfl
      · rfl
      · rfl
      · omega
    · have : j * 3 + t < m * 3 := by omega
      rw [List.getElem?_append_left (by rw [hl]; exact this)]
      exact flat3_get (by omega) t ht
section
variable {h : Hp} {G : PG} {v : Key -> Int}
theorem Pri.ptk (r : Pri h G v) : hcell h ⟨G.B kTop, 0, none⟩ = some (ptr (G.B kTk)) := r.cell (k := kTop) trivial rfl rfl
theorem Pri.plv (r : Pri h G v) : hcell h ⟨G.B kTop, 1, none⟩ = some (.slice (some ⟨G.B kLvs, 0, none⟩) G.L G.capL) := r.cell (k := kTop) trivial rfl rfl
theorem Pri.plev (r : Pri h G v) {i : Nat} (hi : i < G.L) : hcell h ⟨G.B kLvs, 0 + i * 1, none⟩ = some (ptr (G.B (kLev i))) := r.cell (k := kLvs) trivial rfl (by
  rw [show 0 + i * 1 = i by omega]
  simp [List.getElem?_append_left, hi])
theorem Pri.pin (r : Pri h G v) {i : Nat} (hi : i < G.L) : hcell h ⟨G.B (kLev i), 0, none⟩ = some (ptr (G.B (kIn i))) := r.cell (k := kLev i) hi rfl rfl
theorem Pri.pout (r : Pri h G v) {i : Nat} (hi : i < G.L) : hcell h ⟨G.B (kLev i), 1, none⟩ = some (ptr (G.B (kOut i))) := r.cell (k := kLev i) hi rfl rfl
theorem Pri.ppls (r : Pri h G v) {i : Nat} (hi : i < G.L) : hcell h ⟨G.B (kLev i), 2, none⟩ = some (.slice (some ⟨G.B (kPls i), 0, none⟩) G.m (G.capP i)) := r.cell (k := kLev i) hi rfl rfl
theorem Pri.pplace (r : Pri h G v) {i j t : Nat} (hi : i < G.L) (hj : j < G.m) (ht : t < 3) : hcell h ⟨G.B (kPls i), 0 + j * 3 + t, none⟩ = some (ptr (G.B (7 + t, i + 1, j))) := r.cell (k := kPls i) hi rfl (by
  have hlen : ((List.range G.m).flatMap fun j => [ptr (G.B (kTurn i j)), ptr (G.B (kTick i j)), ptr (G.B (kSlot i j))])[j * 3 + t]? = some (ptr (G.B (7 + t, i + 1, j))) := flat3_get hj t ht
  rw [show 0 + j * 3 + t = j * 3 + t by omega]
  simp only [List.getElem?_toArray]
  rw [List.getElem?_append_left (by rcases Nat.lt_or_ge (j * 3 + t) ((List.range G.m).flatMap fun j => [ptr (G.B (kTurn i j)), ptr (G.B (kTick i j)), ptr (G.B (kSlot i j))]).length with x | x
                                    · exact x
                                    · rw [List.getElem?_eq_none x] at hlen; cases hlen)]
  exact hlen)
end
theorem mask {x m e : Nat} (hm : m = 2 ^ e) (he : e <= 62) (hx : x < 4611686018427387904) : bits .and .i64 (x : Int) ((m : Int) - 1) = ((x % m : Nat) : Int) := by
  subst hm
  have := and_mask (x := (x : Int)) he (by omega) (by omega)
  rw [show ((2 ^ e : Nat) : Int) = 2 ^ e by simp, this]
  simp
section
variable {Γ : Type} {main : Bool} {S : Sit Γ} {h : Hp} {δ : Ix Γ} {G : PG} {v : Key -> Int}
theorem at_ok {i p e : Nat} (r : Pri h G v) (hi : i < G.L) (hm : G.m = 2 ^ e) (he : e <= 12) (hp : p < 4611686018427387904) :
    CallW Try.prog main S 42 #[ptr (G.B (kLev i)), .int .i64 p] h δ (Ret (Det (.pointer (some ⟨G.B (kPls i), 0 + (p % G.m) * 3, none⟩)) h δ)) := by
  have hm0 : 0 < G.m := by rw [hm]; exact Nat.two_pow_pos e
  have hm1 : G.m <= 4096 := by have := Nat.pow_le_pow_right (n := 2) (by decide) he; omega
  have hlt : p % G.m < G.m := Nat.mod_lt _ hm0
  refine CallW.start (n := 18) rfl rfl ?_
  (repeat (first | refine EK.seq ?_ | refine EK.region ?_ | refine ER.done ?_ | refine ER.assign rfl rfl rfl ?_))
  refine EK.regionAny (fun h' => h' = h) ?_
  have hZ : h = h := rfl
  have hc := r.ppls hi
  refine EA.tMove 0 rfl (by kernel_rfl) rfl rfl rfl rfl hZ ?_
  refine EA.tNil 1 rfl (by kernel_rfl) rfl rfl rfl rfl hZ ?_
  refine EA.tField 2 rfl (by kernel_rfl) rfl rfl rfl rfl hZ ?_
  refine EA.tLoad 3 rfl (by kernel_rfl) rfl rfl rfl rfl (fun _ hz => hz ▸ hc) hZ ?_
  refine EA.tMove 4 rfl (by kernel_rfl) rfl rfl rfl rfl hZ ?_
  refine EA.tMove 5 rfl (by kernel_rfl) rfl rfl rfl rfl hZ ?_
  refine EA.tNil 6 rfl (by kernel_rfl) rfl rfl rfl rfl hZ ?_
  refine EA.tField 7 rfl (by kernel_rfl) rfl rfl rfl rfl hZ ?_
  refine EA.tLoad 8 rfl (by kernel_rfl) rfl rfl rfl rfl (fun _ hz => hz ▸ hc) hZ ?_
  refine EA.tLen1 9 rfl (by kernel_rfl) rfl rfl rfl rfl hZ ?_
  refine EA.tSub (kd := .i64) 10 rfl (by kernel_rfl) rfl rfl rfl rfl rfl (i64_in (by omega) (by omega)) hZ ?_
  refine EA.tBinI (kd := .i64) (v := .int .i64 ((p % G.m : Nat) : Int)) 11 rfl (by kernel_rfl) rfl rfl rfl rfl rfl (by rw [binOp_bits (.inl rfl), mask hm (by omega) hp]) hZ ?_
  refine EA.tIdxS 12 rfl (by kernel_rfl) rfl rfl rfl rfl rfl (by omega) (by omega) hZ ?_
  refine EA.tAssign 13 rfl (by kernel_rfl) rfl rfl rfl rfl hZ ?_
  refine EA.done (by kernel_rfl) ?_
  (repeat refine EK.ret ?_)
  exact EU.ret1 rfl rfl det
theorem vv {a b c : Nat} (h : 4 <= a) : isV (a, b, c) := h
abbrev PFree (S : Sit Γ) (γ : Γ) (G : PG) : Prop := ∀ k o, okP G.L G.m k -> ¬ S.still γ ⟨G.B k, o, none⟩
theorem Pri.own (_ : Pri h G v) {k : Key} (hk : okP G.L G.m k) : (priM G v).Own (G.B k) := ⟨k, hk, rfl⟩
abbrev PSet (G : PG) (v : Key -> Int) (h : Hp) (δ : Ix Γ) (k : Key) (y : Int) (w : Value) : Value -> Hp -> Ix Γ -> Prop := fun w' h' δ' => w' = w /\ δ' = δ /\ Pri h' G (ut v k y) /\ Upd (priM G v).Own h h'
theorem pload {k : Key} {x : Int} (r : Pri h G v) (hk : okP G.L G.m k) (hv : isV k) (hx : v k = x) : CallW Try.prog main S 35 #[ptr (G.B k), .pointer none] h δ (Ret (Det (.int .i64 x) h δ)) :=
  cload (hx ▸ r.val hk hv)
theorem pstore {k : Key} {y : Int} (r : Pri h G v) (hk : okP G.L G.m k) (hv : isV k) (hS : PFree S δ.g G) : CallW Try.prog main S 33 #[ptr (G.B k), .pointer none, .int .i64 y] h δ (Ret (PSet G v h δ k y (.tuple #[]))) :=
  (cstore (r.val hk hv) (fun o => hS k o hk)).conseq (by rintro _ _ _ ⟨rfl, rfl, rfl⟩; exact ⟨rfl, rfl, r.setv hk hv y, Upd.set _ _ _ (r.own hk)⟩)
theorem padd {k : Key} {x y z : Int} (r : Pri h G v) (hk : okP G.L G.m k) (hv : isV k) (hx : v k = x) (hz : IntKind.i64.wrap (x + y) = z) (hS : PFree S δ.g G) : CallW Try.prog main S 44 #[ptr (G.B k), .pointer none, .int .i64 y] h δ (Ret (PSet G v h δ k z (.int .i64 z))) :=
  (cadd hz (hx ▸ r.val hk hv) (fun o => hS k o hk)).conseq (by rintro _ _ _ ⟨rfl, rfl, rfl⟩; exact ⟨rfl, rfl, r.setv hk hv z, Upd.set _ _ _ (r.own hk)⟩)
theorem pcas {k : Key} {x y : Int} (r : Pri h G v) (hk : okP G.L G.m k) (hv : isV k) (hx : v k = x) (hS : PFree S δ.g G) : CallW Try.prog main S 41 #[ptr (G.B k), .pointer none, .int .i64 x, .int .i64 y] h δ (Ret (PSet G v h δ k y (.bool true))) :=
  (ccas_yes (hx ▸ r.val hk hv) (fun o => hS k o hk)).conseq (by rintro _ _ _ ⟨rfl, rfl, rfl⟩; exact ⟨rfl, rfl, r.setv hk hv y, Upd.set _ _ _ (r.own hk)⟩)
theorem claim_ok {i I e : Nat} (r : Pri h G v) (hi : i < G.L) (hm : G.m = 2 ^ e) (he : e <= 12) (hI : v (kIn i) = I) (hIb : I < 2305843009213693952) (hfree : v (kTurn i (I % G.m)) = I) (hS : PFree S δ.g G) :
    CallW Try.prog main S 43 #[ptr (G.B (kLev i)), .pointer none] h δ (Ret (PSet G v h δ (kIn i) ((I : Int) + 1) (.tuple #[.int .i64 I, .bool true]))) := by
  have hm0 : 0 < G.m := by rw [hm]; exact Nat.two_pow_pos e
  have hlt : I % G.m < G.m := Nat.mod_lt _ hm0
  refine CallW.start (n := 42) rfl rfl ?_
  (repeat (first | refine EK.seq ?_ | refine EK.region ?_ | refine ER.done ?_ | refine EK.block ?_ | refine ER.assign rfl rfl rfl ?_))
  refine EK.loop ?_
  (repeat (first | refine EK.seq ?_ | refine EK.region ?_ | refine EK.block ?_ | refine ER.move rfl rfl rfl ?_ | refine ER.nilCheck rfl rfl rfl ?_ | refine ER.fieldAddr rfl rfl rfl ?_))
  refine ER.load1 rfl rfl rfl (r.pin hi) ?_
  (repeat refine ER.move rfl rfl rfl ?_)
  refine ER.callD rfl rfl rfl rfl rfl (pload r (k := kIn i) hi (vv (by omega)) hI) ?_
  (repeat (first | refine EK.seq ?_ | refine EK.region ?_ | refine ER.done ?_ | refine ER.move rfl rfl rfl ?_ | refine ER.assign rfl rfl rfl ?_))
  refine ER.callD rfl rfl rfl rfl rfl (at_ok r hi hm he (by omega)) ?_
  (repeat (first | refine ER.nilCheck rfl rfl rfl ?_ | refine ER.fieldAddr rfl rfl rfl ?_))
  refine ER.load1 rfl rfl rfl (r.pplace (t := 0) hi hlt (by omega)) ?_
  (repeat refine ER.move rfl rfl rfl ?_)
  refine ER.callD rfl rfl rfl rfl rfl (pload r (k := kTurn i (I % G.m)) ⟨hi, hlt⟩ (vv (by omega)) hfree) ?_
  (repeat (first | refine EK.seq ?_ | refine EK.region ?_ | refine ER.done ?_ | refine EK.block ?_ | refine ER.move rfl rfl rfl ?_ | refine ER.assign rfl rfl rfl ?_ | refine ER.nilCheck rfl rfl rfl ?_ | refine ER.fieldAddr rfl rfl rfl ?_ | refine ER.cmpT rfl rfl rfl rfl rfl (by first | (dsimp only [cmpP]; omega) | exact rfl | exact Int.le_refl _) ?_ | refine ER.cmpF rfl rfl rfl rfl rfl (by first | (dsimp only [cmpP]; omega) | exact rfl | exact Int.le_refl _) ?_ | refine ER.sub' (kd := .i64) rfl rfl rfl rfl (i64_in (by omega) (by omega)) ?_ | refine EK.condF rfl ?_))
  refine ER.load1 rfl rfl rfl (r.pin hi) ?_
  (repeat (first | refine ER.move rfl rfl rfl ?_ | refine ER.add (kd := .i64) rfl rfl rfl rfl (i64_in (by omega) (by omega)) ?_))
  refine ER.callR rfl rfl rfl rfl rfl (pcas r (k := kIn i) hi (vv (by omega)) hI hS) ?_
  rintro _ h1 δ1 ⟨rfl, hδ, r1, u1⟩
  (repeat (first | refine EK.seq ?_ | refine EK.region ?_ | refine ER.done ?_ | refine ER.move rfl rfl rfl ?_ | refine ER.assign rfl rfl rfl ?_ | refine ER.pickT rfl rfl rfl rfl ?_ | refine EK.condT rfl ?_ | refine EK.ret ?_))
  exact EU.ret2 rfl rfl rfl ⟨rfl, hδ, r1, u1⟩
theorem put_arg {on : Int} {t x : Value} (r : Pri h G v) (ho : on < 0 \/ (G.L : Int) <= on) :
    CallW Try.prog main S 19 #[ptr (G.B kTop), t, .int .i64 on, x] h δ (Ret (Det (.int .i64 1) h δ)) := by
  refine CallW.start (n := 87) rfl rfl ?_
  (repeat (first | refine EK.seq ?_ | refine EK.region ?_ | refine ER.done ?_ | refine ER.move rfl rfl rfl ?_ | refine ER.assign rfl rfl rfl ?_ | refine ER.nilCheck rfl rfl rfl ?_ | refine ER.fieldAddr rfl rfl rfl ?_ | refine ER.eqV rfl rfl rfl rfl rfl ?_))
  refine ER.load1 rfl rfl rfl r.ptk ?_
  by_cases h0 : on < 0
  · (repeat (first | refine EK.seq ?_ | refine EK.region ?_ | refine ER.done ?_ | refine EK.skip ?_ | refine ER.move rfl rfl rfl ?_ | refine ER.assign rfl rfl rfl ?_ | refine ER.no rfl rfl ?_ | refine ER.eqV rfl rfl rfl rfl rfl ?_ | refine ER.pickT rfl rfl rfl rfl ?_ | refine ER.pickF rfl rfl rfl rfl ?_ | refine ER.cmpT rfl rfl rfl rfl rfl (by first | (dsimp only [cmpP]; omega) | exact rfl | exact Int.le_refl _) ?_ | refine EK.condT rfl ?_ | refine EK.condF rfl ?_ | refine EK.ret ?_))
    exact EU.ret1 rfl rfl det
  · have h1 : (G.L : Int) <= on := ho.resolve_left h0
    (repeat (first | refine EK.seq ?_ | refine EK.region ?_ | refine ER.done ?_ | refine EK.skip ?_ | refine ER.move rfl rfl rfl ?_ | refine ER.nilCheck rfl rfl rfl ?_ | refine ER.fieldAddr rfl rfl rfl ?_ | refine ER.eqV rfl rfl rfl rfl rfl ?_ | refine ER.pickF rfl rfl rfl rfl ?_ | refine ER.cmpF rfl rfl rfl rfl rfl (by first | (dsimp only [cmpP]; omega) | exact rfl | exact Int.le_refl _) ?_ | refine EK.condF rfl ?_))
    refine ER.load1 rfl rfl rfl r.plv ?_
    (repeat (first | refine EK.seq ?_ | refine EK.region ?_ | refine ER.done ?_ | refine ER.assign rfl rfl rfl ?_ | refine ER.pickF rfl rfl rfl rfl ?_ | refine ER.cmpT rfl rfl rfl rfl rfl (by first | (dsimp only [cmpP]; omega) | exact rfl | exact Int.le_refl _) ?_ | refine ER.len1 rfl rfl rfl ?_ | refine EK.condT rfl ?_ | refine EK.ret ?_))
    exact EU.ret1 rfl rfl det
def putV (m : Nat) (v : Key -> Int) (i I : Nat) (K x : Int) : Key -> Int :=
  ut (ut (ut (ut (ut v (kIn i) ((I : Int) + 1)) kTk (K + 1)) (kTick i (I % m)) (K + 1)) (kSlot i (I % m)) x) (kTurn i (I % m)) ((I : Int) + 1)
set_option maxHeartbeats 1000000 in
theorem put_ok {i I e : Nat} {K x : Int} (r : Pri h G v) (hi : i < G.L) (hm : G.m = 2 ^ e) (he : e <= 12) (hI : v (kIn i) = I) (hIb : I < 2305843009213693952) (hfree : v (kTurn i (I % G.m)) = I) (hK : v kTk = K) (hK0 : 0 <= K) (hK1 : K < 2305843009213693952) (hS : PFree S δ.g G) :
    CallW Try.prog main S 19 #[ptr (G.B kTop), .pointer none, .int .i64 i, .int .i64 x] h δ (Ret fun w h' δ' => w = .int .i64 0 /\ δ' = δ /\ Pri h' G (putV G.m v i I K x) /\ Upd (priM G v).Own h h') := by
  have hm0 : 0 < G.m := by rw [hm]; exact Nat.two_pow_pos e
  have hlt : I % G.m < G.m := Nat.mod_lt _ hm0
  refine CallW.start (n := 87) rfl rfl ?_
  (repeat (first | refine EK.seq ?_ | refine EK.region ?_ | refine ER.done ?_ | refine ER.move rfl rfl rfl ?_ | refine ER.assign rfl rfl rfl ?_ | refine ER.nilCheck rfl rfl rfl ?_ | refine ER.fieldAddr rfl rfl rfl ?_ | refine ER.eqV rfl rfl rfl rfl rfl ?_))
  refine ER.load1 rfl rfl rfl r.ptk ?_
  (repeat (first | refine EK.seq ?_ | refine EK.region ?_ | refine ER.done ?_ | refine EK.skip ?_ | refine ER.move rfl rfl rfl ?_ | refine ER.nilCheck rfl rfl rfl ?_ | refine ER.fieldAddr rfl rfl rfl ?_ | refine ER.eqV rfl rfl rfl rfl rfl ?_ | refine ER.pickF rfl rfl rfl rfl ?_ | refine ER.cmpF rfl rfl rfl rfl rfl (by first | (dsimp only [cmpP]; omega) | exact rfl | exact Int.le_refl _) ?_ | refine EK.condF rfl ?_))
  refine ER.load1 rfl rfl rfl r.plv ?_
  (repeat (first | refine EK.seq ?_ | refine EK.region ?_ | refine ER.done ?_ | refine EK.skip ?_ | refine ER.move rfl rfl rfl ?_ | refine ER.nilCheck rfl rfl rfl ?_ | refine ER.fieldAddr rfl rfl rfl ?_ | refine ER.pickF rfl rfl rfl rfl ?_ | refine ER.cmpF rfl rfl rfl rfl rfl (by first | (dsimp only [cmpP]; omega) | exact rfl | exact Int.le_refl _) ?_ | refine ER.len1 rfl rfl rfl ?_ | refine EK.condF rfl ?_))
  refine ER.load1 rfl rfl rfl r.plv ?_
  (repeat (first | refine ER.move rfl rfl rfl ?_ | refine ER.indexSl rfl rfl rfl rfl (by omega) (by omega) ?_))
  refine ER.load1 rfl rfl rfl (r.plev hi) ?_
  refine ER.makeF rfl rfl rfl rfl rfl rfl ?_
  (repeat (first | refine EK.seq ?_ | refine EK.region ?_ | refine ER.done ?_ | refine ER.move rfl rfl rfl ?_ | refine ER.assign rfl rfl rfl ?_))
  refine ER.callFR rfl rfl rfl rfl rfl (claim_ok r hi hm he hI hIb hfree hS) ?_
  rintro _ h1 δ1 ⟨rfl, rfl, r1, u1⟩
  (repeat (first | refine EK.seq ?_ | refine EK.region ?_ | refine ER.done ?_ | refine EK.skip ?_ | refine ER.move rfl rfl rfl ?_ | refine ER.assign rfl rfl rfl ?_ | refine ER.nilCheck rfl rfl rfl ?_ | refine ER.fieldAddr rfl rfl rfl ?_ | refine ER.notB rfl rfl rfl ?_ | refine ER.extract rfl rfl rfl rfl ?_ | refine EK.condF rfl ?_))
  refine ER.load1 rfl rfl rfl r1.plv ?_
  (repeat (first | refine ER.move rfl rfl rfl ?_ | refine ER.indexSl rfl rfl rfl rfl (by omega) (by omega) ?_))
  refine ER.load1 rfl rfl rfl (r1.plev hi) ?_
  (repeat refine ER.move rfl rfl rfl ?_)
  refine ER.callD rfl rfl rfl rfl rfl (at_ok r1 hi hm he (by omega)) ?_
  (repeat (first | refine EK.seq ?_ | refine EK.region ?_ | refine ER.done ?_ | refine ER.move rfl rfl rfl ?_ | refine ER.assign rfl rfl rfl ?_ | refine ER.nilCheck rfl rfl rfl ?_ | refine ER.fieldAddr rfl rfl rfl ?_))
  refine ER.load1 rfl rfl rfl r1.ptk ?_
  (repeat refine ER.move rfl rfl rfl ?_)
  refine ER.callR rfl rfl rfl rfl rfl (padd (z := K + 1) r1 (k := kTk) trivial (vv (by omega)) ((ut_ne _ _ (by simp)).trans hK) (i64_in (by omega) (by omega)) hS) ?_
  rintro _ h2 δ2 ⟨rfl, rfl, r2, u2⟩
  (repeat (first | refine EK.seq ?_ | refine EK.region ?_ | refine ER.done ?_ | refine ER.move rfl rfl rfl ?_ | refine ER.assign rfl rfl rfl ?_ | refine ER.nilCheck rfl rfl rfl ?_ | refine ER.fieldAddr rfl rfl rfl ?_))
  refine ER.load1 rfl rfl rfl (r2.pplace (t := 1) hi hlt (by omega)) ?_
  (repeat refine ER.move rfl rfl rfl ?_)
  refine ER.callR rfl rfl rfl rfl rfl (pstore r2 (k := kTick i (I % G.m)) ⟨hi, hlt⟩ (vv (by omega)) hS) ?_
  rintro _ h3 δ3 ⟨rfl, rfl, r3, u3⟩
  (repeat (first | refine EK.seq ?_ | refine EK.region ?_ | refine ER.done ?_ | refine ER.move rfl rfl rfl ?_ | refine ER.nilCheck rfl rfl rfl ?_ | refine ER.fieldAddr rfl rfl rfl ?_))
  refine ER.load1 rfl rfl rfl (r3.pplace (t := 2) hi hlt (by omega)) ?_
  (repeat refine ER.move rfl rfl rfl ?_)
  refine ER.callR rfl rfl rfl rfl rfl (pstore r3 (k := kSlot i (I % G.m)) ⟨hi, hlt⟩ (vv (by omega)) hS) ?_
  rintro _ h4 δ4 ⟨rfl, rfl, r4, u4⟩
  (repeat (first | refine EK.seq ?_ | refine EK.region ?_ | refine ER.done ?_ | refine ER.move rfl rfl rfl ?_ | refine ER.nilCheck rfl rfl rfl ?_ | refine ER.fieldAddr rfl rfl rfl ?_))
  refine ER.load1 rfl rfl rfl (r4.pplace (t := 0) hi hlt (by omega)) ?_
  (repeat (first | refine ER.move rfl rfl rfl ?_ | refine ER.add (kd := .i64) rfl rfl rfl rfl (i64_in (by omega) (by omega)) ?_))
  refine ER.callR rfl rfl rfl rfl rfl (pstore r4 (k := kTurn i (I % G.m)) ⟨hi, hlt⟩ (vv (by omega)) hS) ?_
  rintro _ h5 δ5 ⟨rfl, rfl, r5, u5⟩
  (repeat (first | refine EK.seq ?_ | refine EK.region ?_ | refine ER.done ?_ | refine ER.assign rfl rfl rfl ?_ | refine EK.ret ?_))
  exact EU.ret1 rfl rfl ⟨rfl, rfl, r5, (((u1.trans u2).trans u3).trans u4).trans u5⟩
end
end
section
open Go Go.TJ Go.Proofs
abbrev Hd := Bool × Int × Int
def hrowH (x : Hd) : List Value := [.bool x.1, .int .i64 x.2.1, .int .i64 x.2.2]
def cellsH (H : Nat -> Hd) : List Value := (List.range 8).flatMap fun i => hrowH (H i)
def headsO (H : Nat -> Hd) : Obj := .cells (cellsH H).toArray 142 (0, 0)
theorem cellsH_len (H : Nat -> Hd) : (cellsH H).length = 24 := rfl
theorem lt8 {i : Nat} (hi : i < 8) : i = 0 \/ i = 1 \/ i = 2 \/ i = 3 \/ i = 4 \/ i = 5 \/ i = 6 \/ i = 7 := by omega
theorem cellsH_get (H : Nat -> Hd) {i t : Nat} (hi : i < 8) (ht : t < 3) : (cellsH H)[i * 3 + t]? = (hrowH (H i))[t]? := by
  have h3 : t = 0 \/ t = 1 \/ t = 2 := by omega
  rcases lt8 hi with rfl | rfl | rfl | rfl | rfl | rfl | rfl | rfl <;> rcases h3 with rfl | rfl | rfl <;> rfl
theorem cellsH_set (H : Nat -> Hd) {i : Nat} (hi : i < 8) (x : Hd) : (cellsH H).take (i * 3) ++ hrowH x ++ (cellsH H).drop (i * 3 + 3) = cellsH (up H i x) := by
  rcases lt8 hi with rfl | rfl | rfl | rfl | rfl | rfl | rfl | rfl <;> rfl
theorem cellsH_one (H : Nat -> Hd) : ∀ v ∈ cellsH H, OneCell v := by
  intro v hv
  obtain ⟨i, _, hi⟩ := List.mem_flatMap.mp hv
  simp only [hrowH, List.mem_cons, List.not_mem_nil, or_false] at hi
  rcases hi with rfl | rfl | rfl <;> exact ⟨nofun, nofun⟩
theorem heads_row {h : Hp} {b : Nat} {H : Nat -> Hd} (hb : h[b]? = some (headsO H)) {i : Nat} (hi : i < 8) : hrow h b (0 + i * 3) (hrowH (H i)) := fun t v hv => by
  have ht : t < 3 := by
    rcases Nat.lt_or_ge t 3 with x | x
    · exact x
    · rw [List.getElem?_eq_none (by exact x)] at hv; cases hv
  refine hcell_of hb ?_
  simp only [List.getElem?_toArray]
  rw [show 0 + i * 3 + t = i * 3 + t by omega, cellsH_get H hi ht, hv]
theorem heads_all {h : Hp} {b : Nat} {H : Nat -> Hd} (hb : h[b]? = some (headsO H)) : hrow h b 0 (cellsH H) := hrow_block (rest := []) (by rw [List.append_nil]; exact hb)
theorem heads_put {h : Hp} {H : Nat -> Hd} {i : Nat} (hi : i < 8) (x : Hd) : hsetRow (h.push (headsO H)) h.size (0 + i * 3) (hrowH x) = h.push (headsO (up H i x)) := by
  unfold headsO
  rw [hsetRow_block (hrowH x) _ _ _ (get_push_new _ _) (by rw [cellsH_len]; show 0 + i * 3 + 3 <= 24; omega), push_set, Nat.zero_add]
  rw [<- cellsH_set H hi x]
  rfl
def hdF (G : PG) (v : Key -> Int) (oN : Nat -> Nat) (i q : Nat) : Hd :=
  if i <= q /\ q < G.L /\ v (kTurn q (oN q % G.m)) = oN q + 1 then (true, (oN q : Int), v (kTick q (oN q % G.m))) else (false, 0, 0)
def bst (H : Nat -> Hd) : Nat -> Option Nat
  | 0 => none
  | n + 1 => if (H n).1 = true /\ ∀ b, bst H n = some b -> 64 * ((n : Int) - b) > (H n).2.2 - (H b).2.2 then some n else bst H n
def bv : Option Nat -> Int
  | none => -1
  | some b => b
theorem bst_lt {H : Nat -> Hd} : ∀ {n b : Nat}, bst H n = some b -> b < n /\ (H b).1 = true
  | 0, _, h => by cases h
  | n + 1, b, h => by
    unfold bst at h
    split at h
    · rename_i hc; cases h; exact ⟨by omega, hc.1⟩
    · have := bst_lt h; exact ⟨by omega, this.2⟩
theorem hdF_step {G : PG} {v : Key -> Int} {oN : Nat -> Nat} {n : Nat} (h : n < G.L) : hdF G v oN n = up (hdF G v oN (n + 1)) n (if v (kTurn n (oN n % G.m)) = oN n + 1 then (true, (oN n : Int), v (kTick n (oN n % G.m))) else (false, 0, 0)) := by
  funext q
  by_cases e : q = n
  · subst e
    rw [up_same]
    unfold hdF
    by_cases e : v (kTurn q (oN q % G.m)) = oN q + 1
    · rw [if_pos ⟨Nat.le_refl _, h, e⟩, if_pos e]
    · rw [if_neg (fun x => e x.2.2), if_neg e]
  · rw [up_ne _ _ e]
    unfold hdF
    by_cases hq : n + 1 <= q
    · simp only [hq, show n <= q by omega, true_and]
    · rw [if_neg (fun x => by omega), if_neg (fun x => hq x.1)]
section
variable {Γ : Type} {main : Bool} {S : Sit Γ} {h : Hp} {δ : Ix Γ} {G : PG} {v : Key -> Int}
set_option maxRecDepth 8000 in
set_option maxHeartbeats 2000000 in
theorem looks_ok {e : Nat} {oN : Nat -> Nat} (r : Pri h G v) (hm : G.m = 2 ^ e) (he : e <= 12) (hL1 : 1 <= G.L) (hL : G.L <= 8) (hO : ∀ q, q < G.L -> v (kOut q) = oN q /\ oN q < 2305843009213693952)
    (hT : ∀ q j, q < G.L -> -2305843009213693952 <= v (kTick q j) /\ v (kTick q j) <= 2305843009213693952) (hF : ∀ b o, h.size <= b -> ¬ S.still δ.g ⟨b, o, none⟩) :
    CallW Try.prog main S 40 #[ptr (G.B kTop), .pointer none] h δ
      (Ret fun w h' δ' => δ' = δ /\ Upd (fun _ => False) h h' /\ w = .tuple #[.agg (cellsH (hdF G v oN 0)).toArray, .int .i64 (bv (bst (hdF G v oN 0) 8))]) := by
  have hm0 : 0 < G.m := by rw [hm]; exact Nat.two_pow_pos e
  have hH0 : hdF G v oN G.L = fun _ => (false, 0, 0) := by
    funext q; unfold hdF; rw [if_neg (by omega)]
  refine CallW.start (n := 88) rfl rfl ?_
  (repeat (first | refine EK.seq ?_ | refine EK.region ?_ | refine ER.done ?_ | refine ER.move rfl rfl rfl ?_ | refine ER.assign rfl rfl rfl ?_ | refine ER.nilCheck rfl rfl rfl ?_ | refine ER.fieldAddr rfl rfl rfl ?_ | refine ER.allocA rfl rfl ?_))
  have r1 : Pri (h.push (headsO (hdF G v oN G.L))) G v := r.upd0 (Upd.push _ _)
  change ER _ _ _ _ _ _ _ _ _ _ (h.push (headsO fun _ => (false, 0, 0))) _ _
  rw [<- hH0]
  refine ER.load1 rfl rfl rfl r1.plv ?_
  (repeat (first | refine ER.done ?_ | refine EK.block ?_ | refine ER.assign rfl rfl rfl ?_ | refine ER.sub' (kd := .i64) rfl rfl rfl rfl (i64_in (by omega) (by omega)) ?_ | refine ER.len1 rfl rfl rfl ?_))
  refine EK.loopInv (fun i : Nat => [(6, .int .i64 ((i : Int) - 1)), (0, ptr (G.B kTop)), (1, .pointer none), (4, ptr h.size), (5, .int .i64 0)]) (fun i h' δ' => h' = h.push (headsO (hdF G v oN i)) /\ δ' = δ /\ i <= G.L) (fun i => i) G.L ⟨rfl, rfl, rfl, rfl, rfl, trivial⟩ ⟨rfl, rfl, Nat.le_refl _⟩ ?_
  clear r1
  rintro i _ δi ⟨rfl, hδi, hi⟩ again
  obtain rfl : δ = δi := hδi.symm
  have r1 : Pri (h.push (headsO (hdF G v oN i))) G v := r.upd0 (Upd.push _ _)
  rcases i with _ | n
  · obtain ⟨H, hH⟩ : ∃ H, H = hdF G v oN 0 := ⟨_, rfl⟩
    rw [<- hH]
    have hTk : ∀ q, -2305843009213693952 <= (H q).2.2 /\ (H q).2.2 <= 2305843009213693952 := fun q => by
      rw [hH]; unfold hdF
      by_cases hc : 0 <= q /\ q < G.L /\ v (kTurn q (oN q % G.m)) = oN q + 1
      · rw [if_pos hc]; exact hT q _ hc.2.1
      · rw [if_neg hc]; exact ⟨by dsimp only; omega, by dsimp only; omega⟩
    have hb1 := get_push_new h (headsO H)
    have u1 : Upd (fun _ => False) h (h.push (headsO H)) := Upd.push _ _
    generalize h.push (headsO H) = h1 at hb1 u1 ⊢
    clear r1 again hi
    (repeat (first | refine EK.seq ?_ | refine EK.region ?_ | refine ER.done ?_ | refine EK.block ?_ | refine ER.move rfl rfl rfl ?_ | refine ER.assign rfl rfl rfl ?_ | refine ER.nilCheck rfl rfl rfl ?_ | refine ER.cmpF rfl rfl rfl rfl rfl (by first | (dsimp only [cmpP]; omega) | exact rfl | exact Int.le_refl _) ?_ | refine EK.condF rfl ?_ | refine EK.exit rfl ?_))
    refine EK.loopInv (fun n : Nat => [(58, .int .i64 n), (5, .int .i64 (bv (bst H n))), (0, ptr (G.B kTop)), (1, .pointer none), (4, ptr h.size)]) (fun n h' δ' => h'[h.size]? = some (headsO H) /\ Upd (fun _ => False) h h' /\ δ' = δ /\ n <= 8) (fun n => 8 - n) 0 ⟨rfl, rfl, rfl, rfl, rfl, trivial⟩ ⟨hb1, u1, rfl, by omega⟩ ?_
    clear hb1 u1
    rintro n h2 δ2 ⟨hb2, u2, hδ2, hn8⟩ again
    obtain rfl : δ = δ2 := hδ2.symm
    have hsz := u2.size
    by_cases hn : n < 8
    · (repeat (first | refine EK.seq ?_ | refine EK.region ?_ | refine ER.done ?_ | refine EK.skip ?_ | refine EK.block ?_ | refine ER.cmpT rfl rfl rfl rfl rfl (by first | (dsimp only [cmpP]; omega) | exact rfl | exact Int.le_refl _) ?_ | refine EK.condT rfl ?_))
      refine EK.regionAny (fun h' => hrow h' h.size (0 + n * 3) (hrowH (H n))) ?_
      have hZ := heads_row hb2 hn
      refine EA.tMove 0 rfl (by kernel_rfl) rfl rfl rfl rfl hZ ?_
      refine EA.tNil 1 rfl (by kernel_rfl) rfl rfl rfl rfl hZ ?_
      refine EA.tIdxA 2 rfl (by kernel_rfl) rfl rfl rfl rfl rfl (by omega) (by omega) hZ ?_
      refine EA.tLoadN (vs := hrowH (H n)) 3 rfl (by kernel_rfl) rfl rfl rfl rfl rfl (fun _ hz => hz) hZ ?_
      have hZ : hrow (h2.push (.cells #[.bool false, .int .i64 0, .int .i64 0] 141)) h.size (0 + n * 3) (hrowH (H n)) := fun i w hw => hcell_push (hZ i w hw)
      refine EA.val (v := ptr h2.size) (h' := h2.push (.cells #[.bool false, .int .i64 0, .int .i64 0] 141)) 4 rfl (by kernel_rfl) rfl rfl rfl (fun ρ Q X hρ hq => sem_allocA hq) hZ ?_
      refine EA.tAssign 5 rfl (by kernel_rfl) rfl rfl rfl rfl hZ ?_
      have hrs : hsetRow (h2.push (.cells #[.bool false, .int .i64 0, .int .i64 0] 141)) h2.size 0 (hrowH (H n)) = h2.push (.cells (hrowH (H n)).toArray 141) := hsetRow_push (c := [.bool false, .int .i64 0, .int .i64 0]) rfl
      have hlth := lt_of_get hb2
      refine EA.unit 6 rfl (by kernel_rfl) rfl rfl (fun ρ Q X hρ hq => sem_storeN (hρ _ _ rfl) (hρ _ _ rfl) rfl (by simp [hrowH, OneCell]) (fun j hj => ⟨?_, hfroz_of (get_push_new _ _), hF _ _ hsz⟩) hq) ?_ ?_
      · have hj3 : j < 3 := hj
        have hb := get_push_new h2 (.cells #[.bool false, .int .i64 0, .int .i64 0] 141 (0, 0))
        rcases (show j = 0 \/ j = 1 \/ j = 2 by omega) with rfl | rfl | rfl <;> exact ⟨_, hcell_of hb rfl⟩
      · rw [hrs]
        exact fun i w hw => hcell_push (heads_row hb2 hn i w hw)
      refine EA.done (by kernel_rfl) ?_
      rw [hrs]
      have hb3 := get_push (.cells (hrowH (H n)).toArray 141) hb2
      have hc3 := get_push_new h2 (.cells (hrowH (H n)).toArray 141)
      have u3 := u2.trans (Upd.push (T := fun _ => False) h2 (.cells (hrowH (H n)).toArray 141))
      generalize h2.push (.cells (hrowH (H n)).toArray 141) = h3 at hb3 hc3 u3 ⊢
      have c0 : hcell h3 ⟨h2.size, 0 + 0, none⟩ = some (.bool (H n).1) := hcell_of hc3 rfl
      have c2 : hcell h3 ⟨h2.size, 0 + 2, none⟩ = some (.int .i64 (H n).2.2) := hcell_of hc3 rfl
      clear hc3 hZ hb2 u2 hrs
      have hTn := hTk n
      have fin : ∀ o : Option Nat, bst H (n + 1) = o -> EK Try.prog main S 40 88 _ [(58, .int .i64 ((n : Int) + 1)), (5, .int .i64 (bv o)), (0, ptr (G.B kTop)), (1, .pointer none), (4, ptr h.size)] [] h3 δ _ := fun o ho => by
        subst ho
        exact EK.back (again (n + 1) _ _ (by omega) ⟨hb3, u3, rfl, by omega⟩) ⟨rfl, rfl, rfl, rfl, rfl, trivial⟩
      (repeat refine EK.seq ?_)
      refine EK.regionAny (fun h' => h' = h3) ?_
      have hZ : h3 = h3 := rfl
      refine EA.tField 0 rfl (by kernel_rfl) rfl rfl rfl rfl hZ ?_
      refine EA.tLoad 1 rfl (by kernel_rfl) rfl rfl rfl rfl (fun _ hz => hz ▸ c0) hZ ?_
      cases hthere : (H n).1
      · have hbn : bst H (n + 1) = bst H n := by
          show (if (H n).1 = true /\ _ then some n else bst H n) = _
          rw [if_neg (fun x => by rw [hthere] at x; cases x.1)]
        refine EA.tMove 2 rfl (by kernel_rfl) rfl rfl rfl rfl hZ ?_
        refine EA.takeNo 3 rfl (by kernel_rfl) rfl rfl rfl hZ ?_
        refine EA.takeNo 4 rfl (by kernel_rfl) rfl rfl rfl hZ ?_
        refine EA.takeNo 5 rfl (by kernel_rfl) rfl rfl rfl hZ ?_
        refine EA.takeNo 6 rfl (by kernel_rfl) rfl rfl rfl hZ ?_
        refine EA.takeNo 7 rfl (by kernel_rfl) rfl rfl rfl hZ ?_
        refine EA.takeNo 8 rfl (by kernel_rfl) rfl rfl rfl hZ ?_
        refine EA.takeNo 9 rfl (by kernel_rfl) rfl rfl rfl hZ ?_
        refine EA.takeNo 10 rfl (by kernel_rfl) rfl rfl rfl hZ ?_
        refine EA.takeNo 11 rfl (by kernel_rfl) rfl rfl rfl hZ ?_
        refine EA.takeNo 12 rfl (by kernel_rfl) rfl rfl rfl hZ ?_
        refine EA.takeNo 13 rfl (by kernel_rfl) rfl rfl rfl hZ ?_
        refine EA.takeNo 14 rfl (by kernel_rfl) rfl rfl rfl hZ ?_
        refine EA.takeNo 15 rfl (by kernel_rfl) rfl rfl rfl hZ ?_
        refine EA.takeNo 16 rfl (by kernel_rfl) rfl rfl rfl hZ ?_
        refine EA.takeNo 17 rfl (by kernel_rfl) rfl rfl rfl hZ ?_
        refine EA.takeNo 18 rfl (by kernel_rfl) rfl rfl rfl hZ ?_
        refine EA.tPickF 19 rfl (by kernel_rfl) rfl rfl rfl rfl rfl hZ ?_
        refine EA.done (by kernel_rfl) ?_
        (repeat (first | refine EK.region ?_ | refine ER.done ?_ | refine EK.skip ?_ | refine EK.inBlock ?_ | refine ER.move rfl rfl rfl ?_ | refine ER.add (kd := .i64) rfl rfl rfl rfl (i64_in (by omega) (by omega)) ?_ | refine EK.condF rfl ?_))
        exact EK.back (fin _ hbn) ⟨rfl, rfl, rfl, rfl, rfl, trivial⟩
      · cases hbe : bst H n with
        | none =>
          have hbn : bst H (n + 1) = some n := by
            show (if (H n).1 = true /\ _ then some n else bst H n) = _
            rw [if_pos ⟨hthere, fun b hb => by rw [hbe] at hb; cases hb⟩]
          have hm1 : (bv none : Int) = -1 := rfl
          refine EA.tMove 2 rfl (by kernel_rfl) rfl rfl rfl rfl hZ ?_
          refine EA.tMove 3 rfl (by kernel_rfl) rfl rfl rfl rfl hZ ?_
          refine EA.tCmpT 4 rfl (by kernel_rfl) rfl rfl rfl rfl rfl rfl (by first | (dsimp only [cmpP]; omega) | exact rfl | exact Int.le_refl _) hZ ?_
          refine EA.tMove 5 rfl (by kernel_rfl) rfl rfl rfl rfl hZ ?_
          refine EA.takeNo 6 rfl (by kernel_rfl) rfl rfl rfl hZ ?_
          refine EA.takeNo 7 rfl (by kernel_rfl) rfl rfl rfl hZ ?_
          refine EA.takeNo 8 rfl (by kernel_rfl) rfl rfl rfl hZ ?_
          refine EA.takeNo 9 rfl (by kernel_rfl) rfl rfl rfl hZ ?_
          refine EA.takeNo 10 rfl (by kernel_rfl) rfl rfl rfl hZ ?_
          refine EA.takeNo 11 rfl (by kernel_rfl) rfl rfl rfl hZ ?_
          refine EA.takeNo 12 rfl (by kernel_rfl) rfl rfl rfl hZ ?_
          refine EA.takeNo 13 rfl (by kernel_rfl) rfl rfl rfl hZ ?_
          refine EA.takeNo 14 rfl (by kernel_rfl) rfl rfl rfl hZ ?_
          refine EA.takeNo 15 rfl (by kernel_rfl) rfl rfl rfl hZ ?_
          refine EA.takeNo 16 rfl (by kernel_rfl) rfl rfl rfl hZ ?_
          refine EA.takeNo 17 rfl (by kernel_rfl) rfl rfl rfl hZ ?_
          refine EA.tPickT 18 rfl (by kernel_rfl) rfl rfl rfl rfl rfl hZ ?_
          refine EA.tPickT 19 rfl (by kernel_rfl) rfl rfl rfl rfl rfl hZ ?_
          refine EA.done (by kernel_rfl) ?_
          (repeat (first | refine EK.region ?_ | refine ER.done ?_ | refine EK.inBlock ?_ | refine ER.move rfl rfl rfl ?_ | refine ER.assign rfl rfl rfl ?_ | refine ER.add (kd := .i64) rfl rfl rfl rfl (i64_in (by omega) (by omega)) ?_ | refine EK.condT rfl ?_))
          exact EK.back (fin _ hbn) ⟨rfl, rfl, rfl, rfl, rfl, trivial⟩
        | some b =>
          have hbb : (bv (some b) : Int) = b := rfl
          have hb8 := (bst_lt hbe).1
          have hTb := hTk b
          have c4 : hcell h3 ⟨h.size, 0 + b * 3 + 2, none⟩ = some (.int .i64 (H b).2.2) := heads_row hb3 (i := b) (by omega) 2 _ rfl
          rw [hbb]
          refine EA.tMove 2 rfl (by kernel_rfl) rfl rfl rfl rfl hZ ?_
          refine EA.tMove 3 rfl (by kernel_rfl) rfl rfl rfl rfl hZ ?_
          refine EA.tCmpF 4 rfl (by kernel_rfl) rfl rfl rfl rfl rfl rfl (by first | (dsimp only [cmpP]; omega) | exact rfl | exact Int.le_refl _) hZ ?_
          refine EA.tMove 5 rfl (by kernel_rfl) rfl rfl rfl rfl hZ ?_
          refine EA.tMove 6 rfl (by kernel_rfl) rfl rfl rfl rfl hZ ?_
          refine EA.tMove 7 rfl (by kernel_rfl) rfl rfl rfl rfl hZ ?_
          refine EA.tSub (kd := .i64) 8 rfl (by kernel_rfl) rfl rfl rfl rfl rfl (i64_in (by omega) (by omega)) hZ ?_
          refine EA.tMul (kd := .i64) 9 rfl (by kernel_rfl) rfl rfl rfl rfl rfl (i64_in (by omega) (by omega)) hZ ?_
          refine EA.tField 10 rfl (by kernel_rfl) rfl rfl rfl rfl hZ ?_
          refine EA.tLoad 11 rfl (by kernel_rfl) rfl rfl rfl rfl (fun _ hz => hz ▸ c2) hZ ?_
          refine EA.tMove 12 rfl (by kernel_rfl) rfl rfl rfl rfl hZ ?_
          refine EA.tIdxA 13 rfl (by kernel_rfl) rfl rfl rfl rfl rfl (by omega) (by omega) hZ ?_
          refine EA.tField 14 rfl (by kernel_rfl) rfl rfl rfl rfl hZ ?_
          refine EA.tLoad 15 rfl (by kernel_rfl) rfl rfl rfl rfl (fun _ hz => hz ▸ c4) hZ ?_
          refine EA.tSub (kd := .i64) 16 rfl (by kernel_rfl) rfl rfl rfl rfl rfl (i64_in (by omega) (by omega)) hZ ?_
          by_cases hgo : 64 * ((n : Int) - b) > (H n).2.2 - (H b).2.2
          · have hbn : bst H (n + 1) = some n := by
              show (if (H n).1 = true /\ _ then some n else bst H n) = _
              rw [if_pos ⟨hthere, fun b' hb' => by rw [hbe] at hb'; cases hb'; exact hgo⟩]
            refine EA.tCmpT 17 rfl (by kernel_rfl) rfl rfl rfl rfl rfl rfl (by first | (dsimp only [cmpP]; omega) | exact rfl | exact Int.le_refl _) hZ ?_
            refine EA.tPickF 18 rfl (by kernel_rfl) rfl rfl rfl rfl rfl hZ ?_
            refine EA.tPickT 19 rfl (by kernel_rfl) rfl rfl rfl rfl rfl hZ ?_
            refine EA.done (by kernel_rfl) ?_
            (repeat (first | refine EK.region ?_ | refine ER.done ?_ | refine EK.inBlock ?_ | refine ER.move rfl rfl rfl ?_ | refine ER.assign rfl rfl rfl ?_ | refine ER.add (kd := .i64) rfl rfl rfl rfl (i64_in (by omega) (by omega)) ?_ | refine EK.condT rfl ?_))
            exact EK.back (fin _ hbn) ⟨rfl, rfl, rfl, rfl, rfl, trivial⟩
          · have hbn : bst H (n + 1) = some b := by
              show (if (H n).1 = true /\ _ then some n else bst H n) = _
              rw [if_neg (fun x => hgo (x.2 b hbe)), hbe]
            refine EA.tCmpF 17 rfl (by kernel_rfl) rfl rfl rfl rfl rfl rfl (by first | (dsimp only [cmpP]; omega) | exact rfl | exact Int.le_refl _) hZ ?_
            refine EA.tPickF 18 rfl (by kernel_rfl) rfl rfl rfl rfl rfl hZ ?_
            refine EA.tPickT 19 rfl (by kernel_rfl) rfl rfl rfl rfl rfl hZ ?_
            refine EA.done (by kernel_rfl) ?_
            (repeat (first | refine EK.region ?_ | refine ER.done ?_ | refine EK.skip ?_ | refine EK.inBlock ?_ | refine ER.move rfl rfl rfl ?_ | refine ER.add (kd := .i64) rfl rfl rfl rfl (i64_in (by omega) (by omega)) ?_ | refine EK.condF rfl ?_))
            exact EK.back (fin _ hbn) ⟨rfl, rfl, rfl, rfl, rfl, trivial⟩
    · obtain rfl : n = 8 := by omega
      (repeat (first | refine EK.seq ?_ | refine EK.region ?_ | refine ER.done ?_ | refine ER.cmpF rfl rfl rfl rfl rfl (by first | (dsimp only [cmpP]; omega) | exact rfl | exact Int.le_refl _) ?_ | refine EK.condF rfl ?_ | refine EK.exit rfl ?_))
      refine ER.loadN (vs := cellsH H) rfl rfl rfl rfl (heads_all hb2) ?_
      (repeat refine ER.move rfl rfl rfl ?_)
      refine ER.storeN (vs := cellsH H) rfl rfl rfl rfl (cellsH_one H) (fun j hj => ⟨?_, hfroz_of hb2, hF _ _ (Nat.le_refl _)⟩) ?_
      · have hj3 : j < (cellsH H).length := hj
        exact ⟨_, heads_all hb2 j _ (List.getElem?_eq_getElem hj3)⟩
      rw [hsetRow_block (cellsH H) 0 _ _ hb2 (by rw [Nat.zero_add]; exact Nat.le_refl _)]
      have e1 : List.take 0 (cellsH H) ++ cellsH H ++ List.drop (0 + (cellsH H).length) (cellsH H) = cellsH H := by simp
      rw [e1]
      have hb4 : (h2.setIfInBounds h.size (headsO H))[h.size]? = some (headsO H) := get_set_same hb2
      have u4 : Upd (fun _ => False) h (h2.setIfInBounds h.size (headsO H)) := u2.over (Upd.set (T := fun b => b = h.size) _ _ _ rfl) (fun b hb => by omega)
      change ER _ _ _ _ _ _ _ _ _ _ (h2.setIfInBounds h.size (headsO H)) _ _
      generalize h2.setIfInBounds h.size (headsO H) = h5 at hb4 u4 ⊢
      (repeat (first | refine ER.done ?_ | refine ER.assign rfl rfl rfl ?_ | refine EK.ret ?_))
      exact EU.retCell (vs := cellsH H) rfl rfl rfl (heads_all hb4) rfl ⟨rfl, u4, rfl⟩
  · have ex : (((n + 1 : Nat) : Int) - 1) = (n : Int) := by omega
    rw [ex]
    have hn : n < G.L := by omega
    obtain ⟨hOn, hOb⟩ := hO n hn
    have hlt : oN n % G.m < G.m := Nat.mod_lt _ hm0
    have hstep := hdF_step (v := v) (oN := oN) hn
    (repeat (first | refine EK.seq ?_ | refine EK.region ?_ | refine ER.done ?_ | refine EK.skip ?_ | refine EK.block ?_ | refine ER.move rfl rfl rfl ?_ | refine ER.nilCheck rfl rfl rfl ?_ | refine ER.fieldAddr rfl rfl rfl ?_ | refine ER.cmpT rfl rfl rfl rfl rfl (by first | (dsimp only [cmpP]; omega) | exact rfl | exact Int.le_refl _) ?_ | refine EK.condT rfl ?_))
    refine ER.load1 rfl rfl rfl r1.plv ?_
    (repeat (first | refine ER.move rfl rfl rfl ?_ | refine ER.indexSl rfl rfl rfl rfl (by omega) (by omega) ?_))
    refine ER.load1 rfl rfl rfl (r1.plev hn) ?_
    (repeat (first | refine EK.seq ?_ | refine EK.region ?_ | refine ER.done ?_ | refine ER.move rfl rfl rfl ?_ | refine ER.assign rfl rfl rfl ?_ | refine ER.nilCheck rfl rfl rfl ?_ | refine ER.fieldAddr rfl rfl rfl ?_))
    refine ER.load1 rfl rfl rfl (r1.pout hn) ?_
    (repeat refine ER.move rfl rfl rfl ?_)
    refine ER.callD rfl rfl rfl rfl rfl (pload r1 (k := kOut n) hn (vv (by omega)) hOn) ?_
    (repeat (first | refine EK.seq ?_ | refine EK.region ?_ | refine ER.done ?_ | refine ER.move rfl rfl rfl ?_ | refine ER.assign rfl rfl rfl ?_))
    refine ER.callD rfl rfl rfl rfl rfl (at_ok r1 hn hm he (by omega)) ?_
    (repeat (first | refine ER.nilCheck rfl rfl rfl ?_ | refine ER.fieldAddr rfl rfl rfl ?_))
    refine ER.load1 rfl rfl rfl (r1.pplace (t := 0) hn hlt (by omega)) ?_
    (repeat refine ER.move rfl rfl rfl ?_)
    refine ER.callD rfl rfl rfl rfl rfl (pload r1 (k := kTurn n (oN n % G.m)) ⟨hn, hlt⟩ (vv (by omega)) rfl) ?_
    by_cases ht : v (kTurn n (oN n % G.m)) = oN n + 1
    · rw [if_pos ht] at hstep
      (repeat (first | refine EK.region ?_ | refine ER.done ?_ | refine ER.move rfl rfl rfl ?_ | refine ER.cmpT rfl rfl rfl rfl rfl (by first | (dsimp only [cmpP]; omega) | exact rfl | exact Int.le_refl _) ?_ | refine ER.add (kd := .i64) rfl rfl rfl rfl (i64_in (by omega) (by omega)) ?_ | refine EK.condT rfl ?_))
      refine ER.callD rfl rfl rfl rfl rfl (at_ok r1 hn hm he (by omega)) ?_
      (repeat (first | refine ER.nilCheck rfl rfl rfl ?_ | refine ER.fieldAddr rfl rfl rfl ?_))
      refine ER.load1 rfl rfl rfl (r1.pplace (t := 1) hn hlt (by omega)) ?_
      (repeat refine ER.move rfl rfl rfl ?_)
      refine ER.callD rfl rfl rfl rfl rfl (pload r1 (k := kTick n (oN n % G.m)) ⟨hn, hlt⟩ (vv (by omega)) rfl) ?_
      skip
      refine ER.buildS (cells := #[.bool true, .int .i64 (oN n), .int .i64 (v (kTick n (oN n % G.m)))]) rfl rfl rfl rfl ?_
      (repeat refine ER.indexArr rfl rfl rfl rfl (by omega) (by omega) ?_)
      have hrw := heads_row (get_push_new h (headsO (hdF G v oN (n + 1)))) (i := n) (by omega)
      refine ER.storeN (vs := hrowH (true, (oN n : Int), v (kTick n (oN n % G.m)))) rfl rfl rfl rfl (by simp [hrowH, OneCell]) (fun j hj => ⟨?_, hfroz_of (get_push_new _ _), hF _ _ (Nat.le_refl _)⟩) ?_
      · have hj3 : j < 3 := hj
        rcases (show j = 0 \/ j = 1 \/ j = 2 by omega) with rfl | rfl | rfl
        · exact ⟨_, hrw 0 _ rfl⟩
        · exact ⟨_, hrw 1 _ rfl⟩
        · exact ⟨_, hrw 2 _ rfl⟩
      change ER _ _ _ _ _ _ _ _ _ _ (hsetRow (h.push (headsO (hdF G v oN (n + 1)))) h.size (0 + n * 3) (hrowH (true, (oN n : Int), v (kTick n (oN n % G.m))))) _ _
      rw [heads_put (by omega), <- hstep]
      (repeat (first | refine EK.region ?_ | refine ER.done ?_ | refine EK.inBlock ?_ | refine ER.move rfl rfl rfl ?_ | refine ER.assign rfl rfl rfl ?_ | refine ER.sub' (kd := .i64) rfl rfl rfl rfl (i64_in (by omega) (by omega)) ?_))
      exact EK.back (again n _ _ (by omega) ⟨rfl, rfl, by omega⟩) ⟨rfl, rfl, rfl, rfl, rfl, trivial⟩
    · rw [if_neg ht] at hstep
      have hz : hdF G v oN (n + 1) n = (false, 0, 0) := by unfold hdF; rw [if_neg (by omega)]
      have hs2 : hdF G v oN n = hdF G v oN (n + 1) := by
        rw [hstep, <- hz]; funext q
        by_cases e : q = n
        · subst e; rw [up_same]
        · rw [up_ne _ _ e]
      (repeat (first | refine EK.region ?_ | refine ER.done ?_ | refine EK.skip ?_ | refine EK.inBlock ?_ | refine ER.move rfl rfl rfl ?_ | refine ER.assign rfl rfl rfl ?_ | refine ER.cmpF rfl rfl rfl rfl rfl (by first | (dsimp only [cmpP]; omega) | exact rfl | exact Int.le_refl _) ?_ | refine ER.add (kd := .i64) rfl rfl rfl rfl (i64_in (by omega) (by omega)) ?_ | refine ER.sub' (kd := .i64) rfl rfl rfl rfl (i64_in (by omega) (by omega)) ?_ | refine EK.condF rfl ?_))
      exact EK.back (again n _ _ (by omega) ⟨by rw [hs2], rfl, by omega⟩) ⟨rfl, rfl, rfl, rfl, rfl, trivial⟩
theorem heads_new {H : Nat -> Hd} : hsetRow (h.push (headsO fun _ => (false, 0, 0))) h.size 0 (cellsH H) = h.push (headsO H) := hsetRow_push (c := cellsH fun _ => (false, 0, 0)) rfl
theorem take_none {e : Nat} {oN : Nat -> Nat} (r : Pri h G v) (hm : G.m = 2 ^ e) (he : e <= 12) (hL1 : 1 <= G.L) (hL : G.L <= 8) (hO : ∀ q, q < G.L -> v (kOut q) = oN q /\ oN q < 2305843009213693952)
    (hT : ∀ q j, q < G.L -> -2305843009213693952 <= v (kTick q j) /\ v (kTick q j) <= 2305843009213693952) (hF : ∀ b o, h.size <= b -> ¬ S.still δ.g ⟨b, o, none⟩) (hb : bst (hdF G v oN 0) 8 = none) :
    CallW Try.prog main S 17 #[ptr (G.B kTop), .pointer none] h δ (Ret fun w h' δ' => w = .tuple #[.int .i64 0, .int .i64 0, .bool false] /\ δ' = δ /\ Upd (fun _ => False) h h') := by
  refine CallW.start (n := 75) rfl rfl ?_
  (repeat (first | refine EK.seq ?_ | refine EK.region ?_ | refine ER.done ?_ | refine ER.move rfl rfl rfl ?_ | refine ER.assign rfl rfl rfl ?_ | refine ER.nilCheck rfl rfl rfl ?_ | refine ER.fieldAddr rfl rfl rfl ?_ | refine ER.eqV rfl rfl rfl rfl rfl ?_))
  refine ER.load1 rfl rfl rfl r.ptk ?_
  (repeat (first | refine ER.done ?_ | refine EK.skip ?_ | refine EK.block ?_ | refine ER.eqV rfl rfl rfl rfl rfl ?_ | refine ER.pickF rfl rfl rfl rfl ?_ | refine EK.condF rfl ?_))
  refine EK.loop ?_
  (repeat (first | refine EK.seq ?_ | refine EK.region ?_ | refine EK.block ?_ | refine ER.move rfl rfl rfl ?_))
  refine ER.callR rfl rfl rfl rfl rfl (looks_ok r hm he hL1 hL hO hT hF) ?_
  rintro _ h1 δ1 ⟨rfl, u1, rfl⟩
  rw [hb]
  generalize hdF G v oN 0 = H
  have hsz := u1.size
  (repeat (first | refine ER.move rfl rfl rfl ?_ | refine ER.extract rfl rfl rfl rfl ?_ | refine ER.allocA rfl rfl ?_))
  change ER _ _ _ _ _ _ _ _ _ _ (h1.push (headsO fun _ => (false, 0, 0))) _ _
  refine ER.storeN (vs := cellsH H) rfl rfl rfl rfl (cellsH_one H) (fun j hj => ⟨?_, hfroz_of (get_push_new _ _), hF _ _ hsz⟩) ?_
  · exact ⟨_, heads_all (get_push_new h1 (headsO fun _ => (false, 0, 0))) j _ (List.getElem?_eq_getElem (show j < (cellsH fun _ => (false, 0, 0)).length from hj))⟩
  rw [heads_new]
  have hv : (bv none : Int) = -1 := rfl
  (repeat (first | refine EK.seq ?_ | refine EK.region ?_ | refine ER.done ?_ | refine ER.move rfl rfl rfl ?_ | refine ER.assign rfl rfl rfl ?_ | refine ER.cmpT rfl rfl rfl rfl rfl (by first | (dsimp only [cmpP]; omega) | exact rfl | exact Int.le_refl _) ?_ | refine EK.condT rfl ?_ | refine EK.ret ?_))
  exact EU.ret3 rfl rfl rfl rfl ⟨rfl, rfl, u1.trans (Upd.push _ _)⟩
def takeV (m : Nat) (v : Key -> Int) (b o : Nat) : Key -> Int := ut (ut v (kOut b) ((o : Int) + 1)) (kTurn b (o % m)) ((o : Int) + m)
set_option maxRecDepth 8000 in
set_option maxHeartbeats 2000000 in
theorem take_ok {e b : Nat} {oN : Nat -> Nat} (r : Pri h G v) (hm : G.m = 2 ^ e) (he : e <= 12) (hL1 : 1 <= G.L) (hL : G.L <= 8) (hO : ∀ q, q < G.L -> v (kOut q) = oN q /\ oN q < 2305843009213693952)
    (hT : ∀ q j, q < G.L -> -2305843009213693952 <= v (kTick q j) /\ v (kTick q j) <= 2305843009213693952) (hF : ∀ b o, h.size <= b -> ¬ S.still δ.g ⟨b, o, none⟩) (hS : PFree S δ.g G) (hb : bst (hdF G v oN 0) 8 = some b) :
    CallW Try.prog main S 17 #[ptr (G.B kTop), .pointer none] h δ (Ret fun w h' δ' => w = .tuple #[.int .i64 (v (kSlot b (oN b % G.m))), .int .i64 b, .bool true] /\ δ' = δ /\ Pri h' G (takeV G.m v b (oN b)) /\ Upd (priM G v).Own h h') := by
  have hm0 : 0 < G.m := by rw [hm]; exact Nat.two_pow_pos e
  have hm1 : G.m <= 4096 := by have := Nat.pow_le_pow_right (n := 2) (by decide) he; omega
  have hlt : oN b % G.m < G.m := Nat.mod_lt _ hm0
  obtain ⟨hb8, hbt⟩ := bst_lt hb
  have hbH : b < G.L /\ hdF G v oN 0 b = (true, (oN b : Int), v (kTick b (oN b % G.m))) := by
    unfold hdF at hbt ⊢
    by_cases hc : 0 <= b /\ b < G.L /\ v (kTurn b (oN b % G.m)) = oN b + 1
    · rw [if_pos hc]; exact ⟨hc.2.1, rfl⟩
    · rw [if_neg hc] at hbt; cases hbt
  obtain ⟨hbL, hbe⟩ := hbH
  obtain ⟨hOb, hOl⟩ := hO b hbL
  refine CallW.start (n := 75) rfl rfl ?_
  (repeat (first | refine EK.seq ?_ | refine EK.region ?_ | refine ER.done ?_ | refine ER.move rfl rfl rfl ?_ | refine ER.assign rfl rfl rfl ?_ | refine ER.nilCheck rfl rfl rfl ?_ | refine ER.fieldAddr rfl rfl rfl ?_ | refine ER.eqV rfl rfl rfl rfl rfl ?_))
  refine ER.load1 rfl rfl rfl r.ptk ?_
  (repeat (first | refine ER.done ?_ | refine EK.skip ?_ | refine EK.block ?_ | refine ER.eqV rfl rfl rfl rfl rfl ?_ | refine ER.pickF rfl rfl rfl rfl ?_ | refine EK.condF rfl ?_))
  refine EK.loop ?_
  (repeat (first | refine EK.seq ?_ | refine EK.region ?_ | refine EK.block ?_ | refine ER.move rfl rfl rfl ?_))
  refine ER.callR rfl rfl rfl rfl rfl (looks_ok r hm he hL1 hL hO hT hF) ?_
  rintro _ h1 δ1 ⟨rfl, u1, rfl⟩
  rw [hb]
  generalize hdF G v oN 0 = H at hbe
  have hsz := u1.size
  (repeat (first | refine ER.move rfl rfl rfl ?_ | refine ER.extract rfl rfl rfl rfl ?_ | refine ER.allocA rfl rfl ?_))
  change ER _ _ _ _ _ _ _ _ _ _ (h1.push (headsO fun _ => (false, 0, 0))) _ _
  refine ER.storeN (vs := cellsH H) rfl rfl rfl rfl (cellsH_one H) (fun j hj => ⟨?_, hfroz_of (get_push_new _ _), hF _ _ hsz⟩) ?_
  · exact ⟨_, heads_all (get_push_new h1 (headsO fun _ => (false, 0, 0))) j _ (List.getElem?_eq_getElem (show j < (cellsH fun _ => (false, 0, 0)).length from hj))⟩
  rw [heads_new]
  have hb2 := get_push_new h1 (headsO H)
  have u2 : Upd (fun _ => False) h (h1.push (headsO H)) := u1.trans (Upd.push _ _)
  have r2 : Pri (h1.push (headsO H)) G v := r.upd0 u2
  generalize h1.push (headsO H) = h2 at hb2 u2 r2 ⊢
  have hv : (bv (some b) : Int) = b := rfl
  rw [hv]
  have cA : hcell h2 ⟨h1.size, 0 + b * 3 + 1, none⟩ = some (.int .i64 (oN b : Int)) := by
    have := heads_row hb2 hb8 1 _ rfl
    rw [hbe] at this
    exact this
  have cL := r2.plv
  have cV := r2.plev hbL
  (repeat (first | refine EK.seq ?_ | refine EK.region ?_ | refine ER.done ?_ | refine EK.skip ?_ | refine ER.move rfl rfl rfl ?_ | refine ER.assign rfl rfl rfl ?_ | refine ER.cmpF rfl rfl rfl rfl rfl (by first | (dsimp only [cmpP]; omega) | exact rfl | exact Int.le_refl _) ?_ | refine EK.condF rfl ?_))
  refine EK.regionAny (fun h' => h' = h2) ?_
  have hZ : h2 = h2 := rfl
  refine EA.tMove 0 rfl (by kernel_rfl) rfl rfl rfl rfl hZ ?_
  refine EA.tNil 1 rfl (by kernel_rfl) rfl rfl rfl rfl hZ ?_
  refine EA.tField 2 rfl (by kernel_rfl) rfl rfl rfl rfl hZ ?_
  refine EA.tLoad 3 rfl (by kernel_rfl) rfl rfl rfl rfl (fun _ hz => hz ▸ cL) hZ ?_
  refine EA.tMove 4 rfl (by kernel_rfl) rfl rfl rfl rfl hZ ?_
  refine EA.tIdxS 5 rfl (by kernel_rfl) rfl rfl rfl rfl rfl (by omega) (by omega) hZ ?_
  refine EA.tLoad 6 rfl (by kernel_rfl) rfl rfl rfl rfl (fun _ hz => hz ▸ cV) hZ ?_
  refine EA.tMove 7 rfl (by kernel_rfl) rfl rfl rfl rfl hZ ?_
  refine EA.tIdxA 8 rfl (by kernel_rfl) rfl rfl rfl rfl rfl (by omega) (by omega) hZ ?_
  refine EA.tField 9 rfl (by kernel_rfl) rfl rfl rfl rfl hZ ?_
  refine EA.tLoad 10 rfl (by kernel_rfl) rfl rfl rfl rfl (fun _ hz => hz ▸ cA) hZ ?_
  refine EA.tAssign 11 rfl (by kernel_rfl) rfl rfl rfl rfl hZ ?_
  refine EA.tAssign 12 rfl (by kernel_rfl) rfl rfl rfl rfl hZ ?_
  refine EA.done (by kernel_rfl) ?_
  clear hZ
  (repeat (first | refine EK.seq ?_ | refine EK.region ?_ | refine ER.move rfl rfl rfl ?_ | refine ER.nilCheck rfl rfl rfl ?_ | refine ER.fieldAddr rfl rfl rfl ?_))
  refine ER.load1 rfl rfl rfl (r2.pout hbL) ?_
  (repeat (first | refine ER.move rfl rfl rfl ?_ | refine ER.add (kd := .i64) rfl rfl rfl rfl (i64_in (by omega) (by omega)) ?_))
  refine ER.callR rfl rfl rfl rfl rfl (pcas r2 (k := kOut b) hbL (vv (by omega)) hOb hS) ?_
  rintro _ h3 δ3 ⟨rfl, rfl, r3, u3⟩
  (repeat (first | refine EK.seq ?_ | refine EK.region ?_ | refine ER.done ?_ | refine EK.skip ?_ | refine ER.move rfl rfl rfl ?_ | refine ER.notB rfl rfl rfl ?_ | refine EK.condF rfl ?_))
  refine ER.callD rfl rfl rfl rfl rfl (at_ok r3 hbL hm he (by omega)) ?_
  (repeat (first | refine ER.nilCheck rfl rfl rfl ?_ | refine ER.fieldAddr rfl rfl rfl ?_))
  refine ER.load1 rfl rfl rfl (r3.pplace (t := 2) hbL hlt (by omega)) ?_
  (repeat refine ER.move rfl rfl rfl ?_)
  refine ER.callD rfl rfl rfl rfl rfl (pload r3 (k := kSlot b (oN b % G.m)) ⟨hbL, hlt⟩ (vv (by omega)) (ut_ne _ _ (by simp))) ?_
  (repeat (first | refine EK.seq ?_ | refine ER.done ?_ | refine ER.assign rfl rfl rfl ?_))
  have cP := r3.ppls hbL
  have cT := r3.pplace (t := 0) hbL hlt (by omega)
  refine EK.regionAny (fun h' => hcell h' ⟨G.B (kLev b), 2, none⟩ = some (.slice (some ⟨G.B (kPls b), 0, none⟩) G.m (G.capP b)) /\ hcell h' ⟨G.B (kPls b), 0 + (oN b % G.m) * 3 + 0, none⟩ = some (ptr (G.B (kTurn b (oN b % G.m))))) ?_
  have hZ := And.intro cP cT
  refine EA.tMove 0 rfl (by kernel_rfl) rfl rfl rfl rfl hZ ?_
  refine EA.tMove 1 rfl (by kernel_rfl) rfl rfl rfl rfl hZ ?_
  refine EA.tMove 6 rfl (by kernel_rfl) rfl rfl rfl rfl hZ ?_
  refine EA.tMove 7 rfl (by kernel_rfl) rfl rfl rfl rfl hZ ?_
  refine EA.tMove 8 rfl (by kernel_rfl) rfl rfl rfl rfl hZ ?_
  refine EA.tNil 9 rfl (by kernel_rfl) rfl rfl rfl rfl hZ ?_
  refine EA.tField 10 rfl (by kernel_rfl) rfl rfl rfl rfl hZ ?_
  refine EA.tLoad 11 rfl (by kernel_rfl) rfl rfl rfl rfl (fun _ hz => hz.1) hZ ?_
  refine EA.tLen1 12 rfl (by kernel_rfl) rfl rfl rfl rfl hZ ?_
  refine EA.tAdd (kd := .i64) 13 rfl (by kernel_rfl) rfl rfl rfl rfl rfl (i64_in (by omega) (by omega)) hZ ?_
  refine EA.callD 2 rfl (by kernel_rfl) rfl rfl rfl rfl rfl rfl (at_ok r3 hbL hm he (by omega)) hZ ?_
  refine EA.tNil 3 rfl (by kernel_rfl) rfl rfl rfl rfl hZ ?_
  refine EA.tField 4 rfl (by kernel_rfl) rfl rfl rfl rfl hZ ?_
  refine EA.tLoad 5 rfl (by kernel_rfl) rfl rfl rfl rfl (fun _ hz => hz.2) hZ ?_
  refine EA.callR 14 rfl (by kernel_rfl) rfl rfl rfl rfl rfl rfl (pstore r3 (k := kTurn b (oN b % G.m)) ⟨hbL, hlt⟩ (vv (by omega)) hS) ?_
  rintro _ h4 δ4 ⟨rfl, rfl, r4, u4⟩
  refine ⟨⟨r4.ppls hbL, r4.pplace (t := 0) hbL hlt (by omega)⟩, ?_⟩
  refine EA.done (by kernel_rfl) ?_
  (repeat (first | refine EK.seq ?_ | refine EK.region ?_ | refine ER.done ?_ | refine ER.move rfl rfl rfl ?_ | refine ER.assign rfl rfl rfl ?_ | refine EK.ret ?_))
  exact EU.ret3 rfl rfl rfl rfl ⟨rfl, rfl, r4, ((u2.mono (fun _ _ x => x.elim)).trans u3).trans u4⟩
end
end
section
open Go Go.TJ Go.Conc Go.Proofs
def pj (m : Nat) (p : Int) : Nat := (p % m).toNat
theorem pj_nat {m P : Nat} : pj m (P : Int) = P % m := by unfold pj; omega
theorem pj_lt {m : Nat} (hm : 0 < m) (p : Int) : pj m p < m := by
  have := Int.emod_nonneg p (by omega : (m : Int) ≠ 0)
  have := Int.emod_lt_of_pos p (by omega : 0 < (m : Int))
  unfold pj; omega
section
variable {A : Type}
def putP (G : PG) (i : Nat) (v : Int) (k : Int -> Pr A) : Nat -> Pr A
  | 0 => .done
  | f + 1 => .step ⟨1, G.B (kIn i), 0, 0⟩ fun p => .step ⟨1, G.B (kTurn i (pj G.m p)), 0, 0⟩ fun t =>
      if IntKind.i64.wrap (t - p) < 0 then k 12
      else if IntKind.i64.wrap (t - p) = 0 then .step ⟨3, G.B (kIn i), p, p + 1⟩ fun w =>
        if w = p then .step ⟨4, G.B kTk, 1, 0⟩ fun x => .step ⟨2, G.B (kTick i (pj G.m p)), x + 1, 0⟩ fun _ => .step ⟨2, G.B (kSlot i (pj G.m p)), v, 0⟩ fun _ => .step ⟨2, G.B (kTurn i (pj G.m p)), p + 1, 0⟩ fun _ => k 0
        else putP G i v k f
      else putP G i v k f
def looksP (G : PG) (K : (Nat -> Hd) -> Pr A) : Nat -> (Nat -> Hd) -> Pr A
  | 0, H => K H
  | n + 1, H => .step ⟨1, G.B (kOut n), 0, 0⟩ fun p => .step ⟨1, G.B (kTurn n (pj G.m p)), 0, 0⟩ fun t =>
      if t = p + 1 then .step ⟨1, G.B (kTick n (pj G.m p)), 0, 0⟩ fun x => looksP G K n (up H n (true, p, x)) else looksP G K n H
def gotP (G : PG) (k : Int -> Int -> Bool -> Pr A) (again : Pr A) (H : Nat -> Hd) (b : Nat) : Pr A :=
  .step ⟨3, G.B (kOut b), (H b).2.1, (H b).2.1 + 1⟩ fun w => if w = (H b).2.1 then .step ⟨1, G.B (kSlot b (pj G.m (H b).2.1)), 0, 0⟩ fun v => .step ⟨2, G.B (kTurn b (pj G.m (H b).2.1)), (H b).2.1 + G.m, 0⟩ fun _ => k v b true else again
def chooseP (G : PG) (k : Int -> Int -> Bool -> Pr A) (again : Pr A) (H : Nat -> Hd) : Pr A :=
  match bst H 8 with
  | none => k 0 0 false
  | some b => gotP G k again H b
def H0 : Nat -> Hd := fun _ => (false, 0, 0)
def takeP (G : PG) (k : Int -> Int -> Bool -> Pr A) : Nat -> Pr A
  | 0 => .done
  | f + 1 => looksP G (chooseP G k (takeP G k f)) G.L H0
end
def PriH (G : PG) (h : Hp) : Prop := ∀ k, okP G.L G.m k -> ¬ isV k -> h[G.B k]? = some (priO G (fun _ => 0) k)
theorem nv {a b c : Nat} (h : a < 4) : ¬ isV (a, b, c) := fun x => by have : 4 <= a := x; omega
section
variable {h : Hp} {G : PG}
theorem PriH.ptk (r : PriH G h) : hcell h ⟨G.B kTop, 0, none⟩ = some (ptr (G.B kTk)) := hcell_of (r kTop trivial (nv (by omega))) rfl
theorem PriH.plv (r : PriH G h) : hcell h ⟨G.B kTop, 1, none⟩ = some (.slice (some ⟨G.B kLvs, 0, none⟩) G.L G.capL) := hcell_of (r kTop trivial (nv (by omega))) rfl
theorem PriH.plev (r : PriH G h) {i : Nat} (hi : i < G.L) : hcell h ⟨G.B kLvs, 0 + i * 1, none⟩ = some (ptr (G.B (kLev i))) := hcell_of (r kLvs trivial (nv (by omega))) (by
  rw [show 0 + i * 1 = i by omega]
  simp [List.getElem?_append_left, hi])
theorem PriH.pin (r : PriH G h) {i : Nat} (hi : i < G.L) : hcell h ⟨G.B (kLev i), 0, none⟩ = some (ptr (G.B (kIn i))) := hcell_of (r (kLev i) hi (nv (by omega))) rfl
theorem PriH.pout (r : PriH G h) {i : Nat} (hi : i < G.L) : hcell h ⟨G.B (kLev i), 1, none⟩ = some (ptr (G.B (kOut i))) := hcell_of (r (kLev i) hi (nv (by omega))) rfl
theorem PriH.ppls (r : PriH G h) {i : Nat} (hi : i < G.L) : hcell h ⟨G.B (kLev i), 2, none⟩ = some (.slice (some ⟨G.B (kPls i), 0, none⟩) G.m (G.capP i)) := hcell_of (r (kLev i) hi (nv (by omega))) rfl
theorem PriH.pplace (r : PriH G h) {i j t : Nat} (hi : i < G.L) (hj : j < G.m) (ht : t < 3) : hcell h ⟨G.B (kPls i), 0 + j * 3 + t, none⟩ = some (ptr (G.B (7 + t, i + 1, j))) := hcell_of (r (kPls i) hi (nv (by omega))) (by
  have hlen : ((List.range G.m).flatMap fun j => [ptr (G.B (kTurn i j)), ptr (G.B (kTick i j)), ptr (G.B (kSlot i j))])[j * 3 + t]? = some (ptr (G.B (7 + t, i + 1, j))) := flat3_get hj t ht
  rw [show 0 + j * 3 + t = j * 3 + t by omega]
  simp only [List.getElem?_toArray]
  rw [List.getElem?_append_left (by rcases Nat.lt_or_ge (j * 3 + t) ((List.range G.m).flatMap fun j => [ptr (G.B (kTurn i j)), ptr (G.B (kTick i j)), ptr (G.B (kSlot i j))]).length with x | x
                                    · exact x
                                    · rw [List.getElem?_eq_none x] at hlen; cases hlen)]
  exact hlen)
end
def isB (k : Key) : Prop := k.1 = 4 \/ k.1 = 5 \/ k.1 = 6 \/ k.1 = 8
structure JPr (G : PG) (l : List Ev) (v : Nat -> Int) : Prop where
  tk : 0 <= v (G.B kTk) /\ v (G.B kTk) <= 401
  inn : ∀ i, i < G.L -> 0 <= v (G.B (kIn i)) /\ v (G.B (kIn i)) <= 401
  out : ∀ i, i < G.L -> 0 <= v (G.B (kOut i)) /\ v (G.B (kOut i)) <= 401
  ti : ∀ i j, i < G.L -> j < G.m -> 0 <= v (G.B (kTick i j)) /\ v (G.B (kTick i j)) <= 70000
theorem okP_key {L m : Nat} {k : Key} (hk : okP L m k) (hb : isB k) : k = kTk \/ (∃ i, i < L /\ k = kIn i) \/ (∃ i, i < L /\ k = kOut i) \/ ∃ i j, i < L /\ j < m /\ k = kTick i j := by
  obtain ⟨a, b, c⟩ := k
  have hb' : a = 4 \/ a = 5 \/ a = 6 \/ a = 8 := hb
  rcases hb' with rfl | rfl | rfl | rfl
  · rcases b with _ | b <;> rcases c with _ | c
    · exact .inl rfl
    · exact hk.elim
    · exact hk.elim
    · exact hk.elim
  · rcases b with _ | b <;> rcases c with _ | c
    · exact hk.elim
    · exact hk.elim
    · exact .inr (.inl ⟨b, hk, rfl⟩)
    · exact hk.elim
  · rcases b with _ | b <;> rcases c with _ | c
    · exact hk.elim
    · exact hk.elim
    · exact .inr (.inr (.inl ⟨b, hk, rfl⟩))
    · exact hk.elim
  · rcases b with _ | b
    · exact hk.elim
    · exact .inr (.inr (.inr ⟨b, c, hk.1, hk.2, rfl⟩))
theorem JPr.bnd {G : PG} {l : List Ev} {v : Nat -> Int} (J : JPr G l v) (_hl : l.length < 65536) {k : Key} (hk : okP G.L G.m k) (hb : isB k) : 0 <= v (G.B k) /\ v (G.B k) <= 70000 := by
  rcases okP_key hk hb with rfl | ⟨i, hi, rfl⟩ | ⟨i, hi, rfl⟩ | ⟨i, j, hi, hj, rfl⟩
  · have := J.tk; omega
  · have := J.inn i hi; omega
  · have := J.out i hi; omega
  · exact J.ti i j hi hj
end
section
open Go Go.TJ Go.Conc Go.Proofs
section
variable {A : Type} (G : PG)
def put6 (i : Nat) (p : Int) (k : Int -> Pr A) : Pr A := .step ⟨2, G.B (kTurn i (pj G.m p)), p + 1, 0⟩ fun _ => k 0
def put5 (i : Nat) (v p : Int) (k : Int -> Pr A) : Pr A := .step ⟨2, G.B (kSlot i (pj G.m p)), v, 0⟩ fun _ => put6 G i p k
def put4 (i : Nat) (v p x : Int) (k : Int -> Pr A) : Pr A := .step ⟨2, G.B (kTick i (pj G.m p)), x + 1, 0⟩ fun _ => put5 G i v p k
def put3 (i : Nat) (v p : Int) (k : Int -> Pr A) : Pr A := .step ⟨4, G.B kTk, 1, 0⟩ fun x => put4 G i v p x k
def put2 (i : Nat) (v p : Int) (k : Int -> Pr A) (f : Nat) : Pr A := .step ⟨3, G.B (kIn i), p, p + 1⟩ fun w => if w = p then put3 G i v p k else putP G i v k f
def put1 (i : Nat) (v p : Int) (k : Int -> Pr A) (f : Nat) : Pr A := .step ⟨1, G.B (kTurn i (pj G.m p)), 0, 0⟩ fun t => if IntKind.i64.wrap (t - p) < 0 then k 12 else if IntKind.i64.wrap (t - p) = 0 then put2 G i v p k f else putP G i v k f
def look2 (K : (Nat -> Hd) -> Pr A) (n : Nat) (H : Nat -> Hd) (p : Int) : Pr A := .step ⟨1, G.B (kTick n (pj G.m p)), 0, 0⟩ fun x => looksP G K n (up H n (true, p, x))
def look1 (K : (Nat -> Hd) -> Pr A) (n : Nat) (H : Nat -> Hd) (p : Int) : Pr A := .step ⟨1, G.B (kTurn n (pj G.m p)), 0, 0⟩ fun t => if t = p + 1 then look2 G K n H p else looksP G K n H
theorem looksP_succ {K : (Nat -> Hd) -> Pr A} {n : Nat} {H : Nat -> Hd} : looksP G K (n + 1) H = .step ⟨1, G.B (kOut n), 0, 0⟩ fun p => look1 G K n H p := rfl
def got3 (k : Int -> Int -> Bool -> Pr A) (b : Nat) (p v : Int) : Pr A := .step ⟨2, G.B (kTurn b (pj G.m p)), p + G.m, 0⟩ fun _ => k v b true
def got2 (k : Int -> Int -> Bool -> Pr A) (b : Nat) (p : Int) : Pr A := .step ⟨1, G.B (kSlot b (pj G.m p)), 0, 0⟩ fun v => got3 G k b p v
theorem gotP_eq {k : Int -> Int -> Bool -> Pr A} {again : Pr A} {H : Nat -> Hd} {b : Nat} : gotP G k again H b = .step ⟨3, G.B (kOut b), (H b).2.1, (H b).2.1 + 1⟩ fun w => if w = (H b).2.1 then got2 G k b (H b).2.1 else again := rfl
end
section
variable (G : PG) (F : Nat)
def putterP : List Nat -> Nat -> Pr PE
  | [], _ => .done
  | l :: r, k => .emit (.app l (k + 1)) (putP G l ((k + 1 : Nat) : Int) (fun e => .emit (.put e) (putterP r (if e = 0 then k + 1 else k))) F)
def takerP : Nat -> Pr PE
  | 0 => .done
  | n + 1 => takeP G (fun v l is => .emit (.tk v l is) (takerP n)) F
def kPut (r : List Nat) (k : Nat) (e : Int) : Pr PE := .emit (.put e) (putterP G F r (if e = 0 then k + 1 else k))
def kTak (n : Nat) (v l : Int) (is : Bool) : Pr PE := .emit (.tk v l is) (takerP G F n)
end
structure PP where
  G : PG
  f : Nat
  puts : List Nat
  tak : Nat
def PP.F (c : PP) : Nat := c.f + 1
def PP.P (c : PP) : Nat -> Pr PE
  | 0 => putterP c.G c.F c.puts 0
  | 1 => takerP c.G c.F c.tak
  | _ => .done
structure PP.Ok (c : PP) : Prop where
  inj : ∀ j k, okP c.G.L c.G.m j -> okP c.G.L c.G.m k -> c.G.B j = c.G.B k -> j = k
  L1 : 1 <= c.G.L
  L8 : c.G.L <= 8
  m2 : 2 <= c.G.m
  m4 : c.G.m <= 4096
  puts : c.puts.length <= 400
  lv : ∀ l, l ∈ c.puts -> l < c.G.L
inductive PC where
  | fin
  | raw (r : List Nat)
  | p0 (l : Nat) (r : List Nat)
  | p1 (l : Nat) (r : List Nat) (p : Nat)
  | p2 (l : Nat) (r : List Nat) (p : Nat)
  | p3 (l : Nat) (r : List Nat) (p : Nat)
  | p4 (l : Nat) (r : List Nat) (p : Nat)
  | p5 (l : Nat) (r : List Nat) (p : Nat)
  | p6 (l : Nat) (r : List Nat) (p : Nat)
inductive TC where
  | fin
  | raw (n : Nat)
  | l0 (r n : Nat) (H : Nat -> Hd)
  | l1 (r n : Nat) (H : Nat -> Hd) (p : Nat)
  | l2 (r n : Nat) (H : Nat -> Hd) (p : Nat)
  | c (r : Nat) (H : Nat -> Hd) (b : Nat)
  | d (r b p : Nat)
  | e (r b p w : Nat)
section
variable (c : PP)
def kC (r : Nat) : (Nat -> Hd) -> Pr PE := chooseP c.G (kTak c.G c.F r) (takeP c.G (kTak c.G c.F r) c.f)
def pRes (k : Nat) : PC -> Pr PE
  | .fin => .done
  | .raw r => putterP c.G c.F r k
  | .p0 l r => putP c.G l ((k + 1 : Nat) : Int) (kPut c.G c.F r k) c.F
  | .p1 l r p => put1 c.G l ((k + 1 : Nat) : Int) p (kPut c.G c.F r k) c.f
  | .p2 l r p => put2 c.G l ((k + 1 : Nat) : Int) p (kPut c.G c.F r k) c.f
  | .p3 l r p => put3 c.G l ((k + 1 : Nat) : Int) p (kPut c.G c.F r k)
  | .p4 l r p => put4 c.G l ((k + 1 : Nat) : Int) p k (kPut c.G c.F r k)
  | .p5 l r p => put5 c.G l ((k + 1 : Nat) : Int) p (kPut c.G c.F r k)
  | .p6 l r p => put6 c.G l p (kPut c.G c.F r k)
def tRes : TC -> Pr PE
  | .fin => .done
  | .raw n => takerP c.G c.F n
  | .l0 r n H => looksP c.G (kC c r) (n + 1) H
  | .l1 r n H p => look1 c.G (kC c r) n H p
  | .l2 r n H p => look2 c.G (kC c r) n H p
  | .c r H b => gotP c.G (kTak c.G c.F r) (takeP c.G (kTak c.G c.F r) c.f) H b
  | .d r b p => got2 c.G (kTak c.G c.F r) b p
  | .e r b p w => got3 c.G (kTak c.G c.F r) b p w
def pnext : List Nat -> PC
  | [] => .fin
  | l :: r => .p0 l r
def ptell (k : Nat) : List Nat -> List PE
  | [] => []
  | l :: _ => [.app l (k + 1)]
def tnext : Nat -> TC
  | 0 => .fin
  | n + 1 => .l0 n (c.G.L - 1) H0
end
section
variable {c : PP}
theorem norm_put {r : List Nat} {k : Nat} : norm (putterP c.G c.F r k) = (ptell k r, pRes c k (pnext r)) := by
  cases r with
  | nil => rfl
  | cons l r => rfl
theorem norm_kPut {r : List Nat} {k : Nat} {e : Int} : norm (kPut c.G c.F r k e) = (.put e :: ptell (if e = 0 then k + 1 else k) r, pRes c (if e = 0 then k + 1 else k) (pnext r)) := by
  unfold kPut norm
  rw [norm_put]
theorem norm_tak (h : 1 <= c.G.L) {n : Nat} : norm (takerP c.G c.F n) = ([], tRes c (tnext c n)) := by
  cases n with
  | zero => rfl
  | succ n =>
    obtain ⟨L, hL⟩ : ∃ L, c.G.L = L + 1 := ⟨c.G.L - 1, by omega⟩
    show norm (looksP c.G _ c.G.L H0) = ([], looksP c.G _ (c.G.L - 1 + 1) H0)
    rw [hL]
    rfl
theorem norm_kTak (h : 1 <= c.G.L) {n : Nat} {v l : Int} {is : Bool} : norm (kTak c.G c.F n v l is) = ([.tk v l is], tRes c (tnext c n)) := by
  unfold kTak norm
  rw [norm_tak h]
end
structure RI (L m k : Nat) (q : Nat -> List Nat) (t o : Nat -> Nat) (c : Key -> Int) (cl : Option Nat) : Prop where
  to : ∀ i, i < L -> t i <= o i /\ o i <= (q i).length
  room : ∀ i, i < L -> (q i).length + (if cl = some i then 1 else 0) <= t i + m
  inn : ∀ i, i < L -> c (kIn i) = (((q i).length + (if cl = some i then 1 else 0) : Nat) : Int)
  out : ∀ i, i < L -> c (kOut i) = (o i : Int)
  full : ∀ i p w, i < L -> t i <= p -> (q i)[p]? = some w -> c (kTurn i (p % m)) = (p : Int) + 1 /\ c (kTick i (p % m)) = (w : Int) /\ c (kSlot i (p % m)) = (w : Int)
  free : ∀ i p, i < L -> (q i).length <= p -> p < t i + m -> c (kTurn i (p % m)) = (p : Int)
  tick : ∀ i j, i < L -> j < m -> 0 <= c (kTick i j) /\ c (kTick i j) <= 401
  many : ∀ i, i < L -> (q i).length <= k
theorem mod_ne {m a b t : Nat} (hab : a ≠ b) (h1 : t <= a) (h2 : a < t + m) (h3 : t <= b) (h4 : b < t + m) : a % m ≠ b % m := by
  intro e
  have e1 := Nat.div_add_mod a m
  have e2 := Nat.div_add_mod b m
  rcases Nat.lt_trichotomy (a / m) (b / m) with c | c | c
  · have := Nat.mul_le_mul_left m (show a / m + 1 <= b / m from c)
    rw [Nat.mul_add, Nat.mul_one] at this
    omega
  · rw [c] at e1; omega
  · have := Nat.mul_le_mul_left m (show b / m + 1 <= a / m from c)
    rw [Nat.mul_add, Nat.mul_one] at this
    omega
theorem get_lt {A : Type} {l : List A} {p : Nat} {x : A} (h : l[p]? = some x) : p < l.length := (List.getElem?_eq_some_iff.1 h).1
section
variable {L m k l : Nat} {q : Nat -> List Nat} {t o : Nat -> Nat} {c : Key -> Int} {cl : Option Nat}
theorem RI.other (I : RI L m k q t o c cl) {x : Key} {v : Int} (h : x.1 ≠ 5 /\ x.1 ≠ 6 /\ x.1 ≠ 7 /\ x.1 ≠ 8 /\ x.1 ≠ 9) : RI L m k q t o (ut c x v) cl := by
  have ne : ∀ y : Key, y.1 = 5 \/ y.1 = 6 \/ y.1 = 7 \/ y.1 = 8 \/ y.1 = 9 -> ut c x v y = c y := fun y hy => ut_ne _ _ fun e => by rw [e] at hy; omega
  refine ⟨I.to, I.room, fun i hi => ?_, fun i hi => ?_, fun i p w hi hp hw => ?_, fun i p hi h1 h2 => ?_, fun i j hi hj => ?_, I.many⟩
  · rw [ne _ (by simp)]; exact I.inn i hi
  · rw [ne _ (by simp)]; exact I.out i hi
  · rw [ne _ (by simp), ne _ (by simp), ne _ (by simp)]; exact I.full i p w hi hp hw
  · rw [ne _ (by simp)]; exact I.free i p hi h1 h2
  · rw [ne _ (by simp)]; exact I.tick i j hi hj
theorem kne {a b x y z w : Nat} (h : x ≠ y \/ a ≠ b \/ z ≠ w) : ((a, x, z) : Key) ≠ (b, y, w) := fun e => by
  injection e with e1 e2
  injection e2 with e2 e3
  omega
theorem RI.claim (I : RI L m k q t o c none) (hl : l < L) (hr : (q l).length < t l + m) : RI L m k q t o (ut c (kIn l) (((q l).length : Int) + 1)) (some l) := by
  have ne : ∀ y : Key, y.1 ≠ 5 -> ut c (kIn l) (((q l).length : Int) + 1) y = c y := fun y hy => ut_ne _ _ fun e => by rw [e] at hy; exact hy rfl
  refine ⟨I.to, fun i hi => ?_, fun i hi => ?_, fun i hi => ?_, fun i p w hi hp hw => ?_, fun i p hi h1 h2 => ?_, fun i j hi hj => ?_, I.many⟩
  · by_cases e : l = i
    · subst e; rw [if_pos rfl]; omega
    · rw [if_neg (fun x => e (by injection x))]; have := I.room i hi; simpa using this
  · by_cases e : l = i
    · subst e; rw [ut_same, if_pos rfl]; omega
    · rw [ut_ne _ _ (kne (.inl (by omega))), if_neg (fun x => e (by injection x))]; have := I.inn i hi; simpa using this
  · rw [ne _ (by simp)]; exact I.out i hi
  · rw [ne _ (by simp), ne _ (by simp), ne _ (by simp)]; exact I.full i p w hi hp hw
  · rw [ne _ (by simp)]; exact I.free i p hi h1 h2
  · rw [ne _ (by simp)]; exact I.tick i j hi hj
theorem RI.lay (I : RI L m k q t o c (some l)) {a : Nat} (ha : a = 8 \/ a = 9) {x : Int} (hx : 0 <= x /\ x <= 401) (hl : l < L) : RI L m k q t o (ut c (a, l + 1, (q l).length % m) x) (some l) := by
  have hr := I.room l hl
  rw [if_pos rfl] at hr
  have ne : ∀ y : Key, y.1 ≠ 8 -> y.1 ≠ 9 -> ut c (a, l + 1, (q l).length % m) x y = c y := fun y h8 h9 => ut_ne _ _ fun e => by rw [e] at h8 h9; exact ha.elim (fun z => h8 z) (fun z => h9 z)
  refine ⟨I.to, I.room, fun i hi => ?_, fun i hi => ?_, fun i p w hi hp hw => ?_, fun i p hi h1 h2 => ?_, fun i j hi hj => ?_, I.many⟩
  · rw [ne _ (by simp) (by simp)]; exact I.inn i hi
  · rw [ne _ (by simp) (by simp)]; exact I.out i hi
  · have hlt := get_lt hw
    have : ∀ z, ((z, i + 1, p % m) : Key) ≠ (a, l + 1, (q l).length % m) := fun z => by
      by_cases e : i = l
      · subst e
        exact kne (.inr (.inr (mod_ne (t := t i) (by omega) hp (by omega) (by omega) (by omega))))
      · exact kne (.inl (by omega))
    rw [ut_ne _ _ (this 7), ut_ne _ _ (this 8), ut_ne _ _ (this 9)]; exact I.full i p w hi hp hw
  · rw [ne _ (by simp) (by simp)]; exact I.free i p hi h1 h2
  · by_cases e : (kTick i j) = (a, l + 1, (q l).length % m)
    · rw [e, ut_same]; exact hx
    · rw [ut_ne _ _ e]; exact I.tick i j hi hj
theorem RI.put (I : RI L m k q t o c (some l)) (hl : l < L) (h1 : c (kTick l ((q l).length % m)) = ((k + 1 : Nat) : Int)) (h2 : c (kSlot l ((q l).length % m)) = ((k + 1 : Nat) : Int)) : RI L m (k + 1) (putQ q l (k + 1)) t o (ut c (kTurn l ((q l).length % m)) (((q l).length : Int) + 1)) none := by
  have hr := I.room l hl
  rw [if_pos rfl] at hr
  have hto := I.to l hl
  have len : ∀ i, (putQ q l (k + 1) i).length = (q i).length + if some l = some i then 1 else 0 := fun i => by
    unfold putQ
    by_cases e : l = i
    · subst e; rw [ut_same, if_pos rfl]; simp
    · rw [ut_ne _ _ (Ne.symm e), if_neg (fun x => e (by injection x))]; rfl
  have ne : ∀ y : Key, y.1 ≠ 7 -> ut c (kTurn l ((q l).length % m)) (((q l).length : Int) + 1) y = c y := fun y h7 => ut_ne _ _ fun e => by rw [e] at h7; exact h7 rfl
  have net : ∀ i p, t i <= p -> p < t i + m -> (i = l -> p ≠ (q l).length) -> ut c (kTurn l ((q l).length % m)) (((q l).length : Int) + 1) (kTurn i (p % m)) = c (kTurn i (p % m)) := fun i p p1 p2 p3 => by
    refine ut_ne _ _ ?_
    by_cases e : i = l
    · subst e
      exact kne (.inr (.inr (mod_ne (t := t i) (p3 rfl) p1 p2 (by omega) (by omega))))
    · exact kne (.inl (by omega))
  refine ⟨fun i hi => ?_, fun i hi => ?_, fun i hi => ?_, fun i hi => ?_, fun i p w hi hp hw => ?_, fun i p hi h1 h2 => ?_, fun i j hi hj => ?_, fun i hi => ?_⟩
  · have := I.to i hi
    rw [len]; omega
  · have := I.room i hi
    rw [len]; simpa using this
  · rw [ne _ (by simp), I.inn i hi, len]; simp
  · rw [ne _ (by simp)]; exact I.out i hi
  · have hro := I.room i hi
    rcases putQ_get hw with hw | ⟨rfl, rfl, rfl⟩
    · have hlt := get_lt hw
      rw [net i p hp (by split at hro <;> omega) (fun e => by subst e; omega), ne _ (by simp), ne _ (by simp)]
      exact I.full i p w hi hp hw
    · rw [ut_same, ne _ (by simp), ne _ (by simp)]
      exact ⟨rfl, h1, h2⟩
  · rw [len] at h1
    have := I.to i hi
    rw [net i p (by omega) h2 (fun e => by subst e; rw [if_pos rfl] at h1; omega)]
    exact I.free i p hi (by omega) h2
  · rw [ne _ (by simp)]; exact I.tick i j hi hj
  · have := I.many i hi
    rw [len]; split <;> omega
theorem RI.take (I : RI L m k q t o c cl) {b : Nat} (hb : b < L) (ho : o b < (q b).length) : RI L m k q t (ut o b (o b + 1)) (ut c (kOut b) ((o b : Int) + 1)) cl := by
  have ne : ∀ y : Key, y.1 ≠ 6 -> ut c (kOut b) ((o b : Int) + 1) y = c y := fun y hy => ut_ne _ _ fun e => by rw [e] at hy; exact hy rfl
  refine ⟨fun i hi => ?_, I.room, fun i hi => ?_, fun i hi => ?_, fun i p w hi hp hw => ?_, fun i p hi h1 h2 => ?_, fun i j hi hj => ?_, I.many⟩
  · have := I.to i hi
    by_cases e : i = b
    · subst e; rw [ut_same]; omega
    · rw [ut_ne _ _ e]; exact this
  · rw [ne _ (by simp)]; exact I.inn i hi
  · by_cases e : i = b
    · subst e; rw [ut_same, ut_same]; omega
    · rw [ut_ne _ _ e, ut_ne _ _ (kne (.inl (by omega)))]; exact I.out i hi
  · rw [ne _ (by simp), ne _ (by simp), ne _ (by simp)]; exact I.full i p w hi hp hw
  · rw [ne _ (by simp)]; exact I.free i p hi h1 h2
  · rw [ne _ (by simp)]; exact I.tick i j hi hj
theorem RI.give (I : RI L m k q t o c cl) {b : Nat} (hb : b < L) (ht : t b < o b) : RI L m k q (ut t b (t b + 1)) o (ut c (kTurn b (t b % m)) ((t b : Int) + m)) cl := by
  have htb := I.to b hb
  have hrb := I.room b hb
  have ne : ∀ y : Key, y.1 ≠ 7 -> ut c (kTurn b (t b % m)) ((t b : Int) + m) y = c y := fun y hy => ut_ne _ _ fun e => by rw [e] at hy; exact hy rfl
  have tt : ∀ i, t i <= ut t b (t b + 1) i := fun i => by
    by_cases e : i = b
    · subst e; rw [ut_same]; omega
    · rw [ut_ne _ _ e]; exact Nat.le_refl _
  have net : ∀ i p, t i <= p -> p < t i + m -> (i = b -> p ≠ t b) -> ut c (kTurn b (t b % m)) ((t b : Int) + m) (kTurn i (p % m)) = c (kTurn i (p % m)) := fun i p p1 p2 p3 => by
    refine ut_ne _ _ ?_
    by_cases e : i = b
    · subst e
      exact kne (.inr (.inr (mod_ne (t := t i) (p3 rfl) p1 p2 (Nat.le_refl _) (by omega))))
    · exact kne (.inl (by omega))
  refine ⟨fun i hi => ?_, fun i hi => ?_, fun i hi => ?_, fun i hi => ?_, fun i p w hi hp hw => ?_, fun i p hi h1 h2 => ?_, fun i j hi hj => ?_, I.many⟩
  · have := I.to i hi
    by_cases e : i = b
    · subst e; rw [ut_same]; omega
    · rw [ut_ne _ _ e]; exact this
  · have := I.room i hi
    have := tt i
    omega
  · rw [ne _ (by simp)]; exact I.inn i hi
  · rw [ne _ (by simp)]; exact I.out i hi
  · have hlt := get_lt hw
    have hro := I.room i hi
    have h0 := Nat.le_trans (tt i) hp
    rw [net i p h0 (by omega) (fun e => by subst e; rw [ut_same] at hp; omega), ne _ (by simp), ne _ (by simp)]
    exact I.full i p w hi h0 hw
  · by_cases e : i = b
    · subst e
      rw [ut_same] at h2
      by_cases e2 : p = t i + m
      · subst e2
        rw [Nat.add_mod_right, ut_same]; omega
      · have := I.to i hi
        rw [net i p (by omega) (by omega) (fun _ => by omega)]
        exact I.free i p hi h1 (by omega)
    · rw [ut_ne _ _ e] at h2
      have := I.to i hi
      rw [net i p (by omega) h2 (fun x => absurd x e)]
      exact I.free i p hi h1 h2
  · rw [ne _ (by simp)]; exact I.tick i j hi hj
end
end
section
open Go Go.TJ Go.Conc Go.Proofs
structure PA where
  k : Nat
  q : Nat -> List Nat
  t : Nat -> Nat
  o : Nat -> Nat
  c : Key -> Int
def pcl : PC -> Option Nat
  | .p3 l _ _ => some l
  | .p4 l _ _ => some l
  | .p5 l _ _ => some l
  | .p6 l _ _ => some l
  | _ => none
def pfl : PC -> Bool
  | .fin => false
  | .raw _ => false
  | _ => true
def ptk : PC -> Nat
  | .p4 _ _ _ => 1
  | .p5 _ _ _ => 1
  | .p6 _ _ _ => 1
  | _ => 0
structure PK (c : PP) (A : PA) (s : WS) (l : Nat) (r : List Nat) : Prop where
  hl : l < c.G.L
  hn : A.k + 1 + r.length <= c.puts.length
  hr : ∀ x, x ∈ r -> x < c.G.L
  hlv : ∀ x, s.ts[A.k]? = some x -> x.lv = l
def PT (c : PP) (A : PA) (s : WS) : PC -> Prop
  | .fin => A.k <= c.puts.length
  | .raw r => A.k + r.length <= c.puts.length /\ ∀ x, x ∈ r -> x < c.G.L
  | .p0 l r => PK c A s l r
  | .p1 l r p => PK c A s l r /\ p = (A.q l).length
  | .p2 l r p => PK c A s l r /\ p = (A.q l).length /\ p < A.t l + c.G.m
  | .p3 l r p => PK c A s l r /\ p = (A.q l).length
  | .p4 l r p => PK c A s l r /\ p = (A.q l).length
  | .p5 l r p => PK c A s l r /\ p = (A.q l).length /\ A.c (kTick l (p % c.G.m)) = ((A.k + 1 : Nat) : Int)
  | .p6 l r p => PK c A s l r /\ p = (A.q l).length /\ A.c (kTick l (p % c.G.m)) = ((A.k + 1 : Nat) : Int) /\ A.c (kSlot l (p % c.G.m)) = ((A.k + 1 : Nat) : Int)
structure Scn (L : Nat) (q : Nat -> List Nat) (o : Nat -> Nat) (f : Nat -> Nat) (H : Nat -> Hd) (n : Nat) : Prop where
  seen : ∀ i, i < L -> n <= i -> ((H i).1 = true /\ ∃ w : Nat, (q i)[o i]? = some w /\ (H i).2.1 = (o i : Int) /\ (H i).2.2 = (w : Int)) \/ ((H i).1 = false /\ ∀ p v, o i <= p -> (q i)[p]? = some v -> f (v + dD L i) = 0)
  rest : ∀ i, i < n \/ L <= i -> (H i).1 = false
def Cov (L : Nat) (q : Nat -> List Nat) (t : Nat -> Nat) (f : Nat -> Nat) (w : Nat) : Prop := ∀ i p v, i < L -> t i <= p -> (q i)[p]? = some v -> v ≠ w -> f (v + dD L i) = 0 \/ w <= v + dD L i
def TT (L : Nat) (q : Nat -> List Nat) (t o : Nat -> Nat) (f : Nat -> Nat) : TC -> Prop
  | .fin => ∀ i, o i = t i
  | .raw _ => ∀ i, o i = t i
  | .l0 _ n H => (∀ i, o i = t i) /\ n < L /\ Scn L q o f H (n + 1)
  | .l1 _ n H p => (∀ i, o i = t i) /\ n < L /\ Scn L q o f H (n + 1) /\ p = o n
  | .l2 _ n H p => (∀ i, o i = t i) /\ n < L /\ Scn L q o f H (n + 1) /\ p = o n /\ ∃ w, (q n)[p]? = some w
  | .c _ H b => (∀ i, o i = t i) /\ Scn L q o f H 0 /\ bst H 8 = some b
  | .d _ b p => (∀ i, o i = t i + if i = b then 1 else 0) /\ b < L /\ p = t b /\ ∃ w, (q b)[p]? = some w /\ Cov L q t f w
  | .e _ b p w => (∀ i, o i = t i + if i = b then 1 else 0) /\ b < L /\ p = t b /\ (q b)[p]? = some w /\ Cov L q t f w
def fT (s : WS) (n : Nat) : Nat := tkn (s.ts.drop n)
structure PInv (c : PP) (g : List (Nat × PE)) (S : Nat -> Pr PE) (v : Nat -> Int) (A : PA) (pc : PC) (tc : TC) : Prop where
  res0 : S 0 = pRes c A.k pc
  res1 : S 1 = tRes c tc
  out : ∀ i, 2 <= i -> S i = .done
  cel : ∀ x, okP c.G.L c.G.m x -> isV x -> v (c.G.B x) = A.c x
  li : LI True c.G.L (wfold g) A.k (pfl pc) A.q A.t
  ri : RI c.G.L c.G.m A.k A.q A.t A.o A.c (pcl pc)
  tk : A.c kTk = ((A.k + ptk pc : Nat) : Int)
  pt : PT c A (wfold g) pc
  tt : TT c.G.L A.q A.t A.o (fT (wfold g)) tc
  ok : wokl c.G.L g
section
variable {L : Nat} {q q' : Nat -> List Nat} {t o : Nat -> Nat} {f f' : Nat -> Nat} {k : Nat}
theorem TT.keep {tc : TC} (x : TT L q t o f tc) (hf : ∀ n, f' n = f n) (hq : ∀ i p v : Nat, i < L -> (q i)[p]? = some v -> (q' i)[p]? = some v) (hn : ∀ i p v : Nat, i < L -> (q' i)[p]? = some v -> (q i)[p]? = some v \/ f' (v + dD L i) = 0) : TT L q' t o f' tc := by
  have sc : ∀ {H n}, Scn L q o f H n -> Scn L q' o f' H n := fun {H n} s => ⟨fun i hi hn' => (s.seen i hi hn').imp (fun ⟨h1, w, h2, h3⟩ => ⟨h1, w, hq i _ w hi h2, h3⟩) fun ⟨h1, h2⟩ => ⟨h1, fun p v hp hv => (hn i p v hi hv).elim (fun z => by rw [hf]; exact h2 p v hp z) id⟩, s.rest⟩
  have cv : ∀ {w}, Cov L q t f w -> Cov L q' t f' w := fun {w} s i p v hi hp hv hne => (hn i p v hi hv).elim (fun z => by rw [hf]; exact s i p v hi hp z hne) fun z => .inl z
  cases tc with
  | fin => exact x
  | raw n => exact x
  | l0 r n H => exact ⟨x.1, x.2.1, sc x.2.2⟩
  | l1 r n H p => exact ⟨x.1, x.2.1, sc x.2.2.1, x.2.2.2⟩
  | l2 r n H p => obtain ⟨x1, x2, x3, x4, w, x5⟩ := x; exact ⟨x1, x2, sc x3, x4, w, hq n _ w x2 x5⟩
  | c r H b => exact ⟨x.1, sc x.2.1, x.2.2⟩
  | d r b p => obtain ⟨x1, x2, x3, w, x4, x5⟩ := x; exact ⟨x1, x2, x3, w, hq b _ w x2 x4, cv x5⟩
  | e r b p w => obtain ⟨x1, x2, x3, x4, x5⟩ := x; exact ⟨x1, x2, x3, hq b _ w x2 x4, cv x5⟩
end
section
variable {c : PP} {g : List (Nat × PE)} {S : Nat -> Pr PE} {v : Nat -> Int} {A : PA} {pc : PC} {tc : TC}
theorem PT.keep {A' : PA} {s s' : WS} (x : PT c A s pc) (hk : A'.k = A.k) (hq : A'.q = A.q) (ht : ∀ i, A.t i <= A'.t i) (hc : ∀ y : Key, y.1 = 8 \/ y.1 = 9 -> A'.c y = A.c y) (hs : ∀ y, s'.ts[A.k]? = some y -> ∃ z, s.ts[A.k]? = some z /\ y.lv = z.lv) : PT c A' s' pc := by
  have pk : ∀ {l r}, PK c A s l r -> PK c A' s' l r := fun {l r} z => ⟨z.hl, by rw [hk]; exact z.hn, z.hr, fun y hy => by
    rw [hk] at hy
    obtain ⟨w, h1, h2⟩ := hs y hy
    rw [h2]; exact z.hlv w h1⟩
  cases pc with
  | fin => show A'.k <= c.puts.length; rw [hk]; exact x
  | raw r => show A'.k + _ <= c.puts.length /\ _; rw [hk]; exact x
  | p0 l r => exact pk x
  | p1 l r p => exact ⟨pk x.1, by rw [hq]; exact x.2⟩
  | p2 l r p => obtain ⟨x1, x2, x3⟩ := x; exact ⟨pk x1, by rw [hq]; exact x2, by have := ht l; omega⟩
  | p3 l r p => exact ⟨pk x.1, by rw [hq]; exact x.2⟩
  | p4 l r p => exact ⟨pk x.1, by rw [hq]; exact x.2⟩
  | p5 l r p => obtain ⟨x1, x2, x3⟩ := x; exact ⟨pk x1, by rw [hq]; exact x2, by rw [hc _ (.inl rfl), hk]; exact x3⟩
  | p6 l r p => obtain ⟨x1, x2, x3, x4⟩ := x; exact ⟨pk x1, by rw [hq]; exact x2, by rw [hc _ (.inl rfl), hk]; exact x3, by rw [hc _ (.inr rfl), hk]; exact x4⟩
theorem PInv.pmove (I : PInv c g S v A pc tc) (pc' : PC) {v' : Nat -> Int} (c' : Key -> Int) (hcel : ∀ x, okP c.G.L c.G.m x -> isV x -> v' (c.G.B x) = c' x) (hf : pfl pc' = pfl pc) (ri : RI c.G.L c.G.m A.k A.q A.t A.o c' (pcl pc')) (tk : c' kTk = ((A.k + ptk pc' : Nat) : Int)) (pt : PT c { A with c := c' } (wfold g) pc') :
    PInv c g (ut S 0 (pRes c A.k pc')) v' { A with c := c' } pc' tc :=
  ⟨ut_same _ _ _, (ut_ne _ _ (by omega)).trans I.res1, fun i hi => (ut_ne _ _ (by omega)).trans (I.out i hi), hcel, by rw [hf]; exact I.li, ri, tk, pt, I.tt, I.ok⟩
theorem PInv.tmove (I : PInv c g S v A pc tc) (tc' : TC) {v' : Nat -> Int} (o' : Nat -> Nat) (c' : Key -> Int) (hcel : ∀ x, okP c.G.L c.G.m x -> isV x -> v' (c.G.B x) = c' x) (ri : RI c.G.L c.G.m A.k A.q A.t o' c' (pcl pc)) (hc : ∀ y : Key, y.1 = 4 \/ y.1 = 8 \/ y.1 = 9 -> c' y = A.c y) (tt : TT c.G.L A.q A.t o' (fT (wfold g)) tc') :
    PInv c g (ut S 1 (tRes c tc')) v' { A with o := o', c := c' } pc tc' :=
  ⟨(ut_ne _ _ (by omega)).trans I.res0, ut_same _ _ _, fun i hi => (ut_ne _ _ (by omega)).trans (I.out i hi), hcel, I.li, ri, (hc kTk (.inl rfl)).trans I.tk, I.pt.keep rfl rfl (fun _ => Nat.le_refl _) (fun y hy => hc y (.inr hy)) (fun y hy => ⟨y, hy, rfl⟩), tt, I.ok⟩
theorem PInv.pgo (ok : c.Ok) (I : PInv c g S v A pc tc) {r : List Nat} (hf : pfl pc = false) (hcl : pcl pc = none) (htk : ptk pc = 0) (hn : A.k + r.length <= c.puts.length) (hr : ∀ x, x ∈ r -> x < c.G.L) :
    PInv c (g ++ (ptell A.k r).map fun e => (0, e)) (ut S 0 (pRes c A.k (pnext r))) v A (pnext r) tc := by
  have li := I.li
  have ri := I.ri
  have tk := I.tk
  rw [hf] at li
  rw [hcl] at ri
  rw [htk] at tk
  cases r with
  | nil =>
    have e : g ++ (ptell A.k []).map (fun e => ((0 : Nat), e)) = g := by simp [ptell]
    rw [e]
    exact ⟨ut_same _ _ _, (ut_ne _ _ (by omega)).trans I.res1, fun i hi => (ut_ne _ _ (by omega)).trans (I.out i hi), I.cel, li, ri, tk, show A.k <= c.puts.length by simpa using hn, I.tt, I.ok⟩
  | cons l r =>
    have e : g ++ (ptell A.k (l :: r)).map (fun e => ((0 : Nat), e)) = g ++ [(0, .app l (A.k + 1))] := rfl
    rw [e]
    have ew : wfold (g ++ [(0, .app l (A.k + 1))]) = wstep (wfold g) (0, .app l (A.k + 1)) := wfold_snoc
    have p4 := ok.puts
    have len : (wfold g).ts.length = A.k := li.len
    refine ⟨ut_same _ _ _, (ut_ne _ _ (by omega)).trans I.res1, fun i hi => (ut_ne _ _ (by omega)).trans (I.out i hi), I.cel, ?_, ri, tk, ⟨hr l List.mem_cons_self, by simp at hn; omega, fun x hx => hr x (List.mem_cons_of_mem _ hx), fun x hx => ?_⟩, ?_, wokl_snoc I.ok ⟨li.bnd (by omega), by rw [len]⟩⟩
    · rw [ew]; exact li.app
    · rw [ew] at hx
      have hx' : ((wfold g).ts ++ [⟨l, (wfold g).there + 1, 0, false⟩])[A.k]? = some x := hx
      rw [List.getElem?_append_right (by omega), len, Nat.sub_self] at hx'
      have e2 : (⟨l, (wfold g).there + 1, 0, false⟩ : Thg) = x := by simpa using hx'
      rw [<- e2]
    · rw [ew]
      exact I.tt.keep (fun n => tkn_drop_app rfl n) (fun _ _ _ _ h => h) fun _ _ _ _ h => .inl h
theorem ut_ut' {K A : Type} [DecidableEq K] (f : K -> A) (i : K) (x y : A) : ut (ut f i x) i y = ut f i y := ut_ut f i x y
theorem PInv.pfull (ok : c.Ok) (I : PInv c g S v A pc tc) {l : Nat} {r : List Nat} (hf : pfl pc = true) (hcl : pcl pc = none) (htk : ptk pc = 0) (pk : PK c A (wfold g) l r) :
    PInv c (g ++ (PE.put 12 :: ptell A.k r).map fun e => (0, e)) (ut S 0 (pRes c A.k (pnext r))) v A (pnext r) tc := by
  have li := I.li
  have ri := I.ri
  have tk := I.tk
  rw [hf] at li
  rw [hcl] at ri
  rw [htk] at tk
  have ew : wfold (g ++ [(0, .put 12)]) = wstep (wfold g) (0, .put 12) := wfold_snoc
  have len : (wfold g).ts.length = A.k + 1 := li.len
  have h1 : PInv c (g ++ [(0, .put 12)]) (ut S 0 (pRes c A.k (.raw r))) v A (.raw r) tc := by
    refine ⟨ut_same _ _ _, (ut_ne _ _ (by omega)).trans I.res1, fun i hi => (ut_ne _ _ (by omega)).trans (I.out i hi), I.cel, ?_, ri, tk, ⟨by have := pk.hn; omega, pk.hr⟩, ?_, wokl_snoc I.ok ⟨li.bnd (by have := pk.hn; have := ok.puts; omega), fun e => by rw [e] at len; simp at len, .inr rfl⟩⟩
    · rw [ew]; exact li.putno (by decide)
    · rw [ew]
      refine I.tt.keep (fun n => ?_) (fun _ _ _ _ h => h) fun _ _ _ _ h => .inl h
      show tkn (((wfold g).ts.dropLast).drop n) = tkn ((wfold g).ts.drop n)
      obtain ⟨y, hy⟩ : ∃ y, (wfold g).ts[A.k]? = some y := ⟨_, List.getElem?_eq_getElem (by omega)⟩
      have hd : (wfold g).ts = (wfold g).ts.dropLast ++ [y] := by
        have h1 : (wfold g).ts.drop A.k = [y] := by
          rw [List.drop_eq_getElem_cons (by omega), List.drop_eq_nil_of_le (by omega)]
          rw [List.getElem?_eq_getElem (by omega)] at hy
          injection hy with hy
          rw [hy]
        rw [<- h1, List.dropLast_eq_take, len, Nat.add_sub_cancel, List.take_append_drop]
      have := tkn_drop_app (l := (wfold g).ts.dropLast) (li.fly y hy) n
      rw [<- hd] at this
      exact this.symm
  have h2 := h1.pgo ok rfl rfl rfl (by have := pk.hn; omega) pk.hr
  rw [ut_ut', List.append_assoc] at h2
  exact h2
theorem PInv.pput (ok : c.Ok) (I : PInv c g S v A pc tc) {l : Nat} {r : List Nat} (hf : pfl pc = true) (hcl : pcl pc = some l) (htk : ptk pc = 1) (pk : PK c A (wfold g) l r) (h1 : A.c (kTick l ((A.q l).length % c.G.m)) = ((A.k + 1 : Nat) : Int)) (h2 : A.c (kSlot l ((A.q l).length % c.G.m)) = ((A.k + 1 : Nat) : Int))
    {v' : Nat -> Int} (hv : v' = ut v (c.G.B (kTurn l ((A.q l).length % c.G.m))) (((A.q l).length : Int) + 1)) :
    ∃ A' pc', PInv c (g ++ (PE.put 0 :: ptell (A.k + 1) r).map fun e => (0, e)) (ut S 0 (pRes c (A.k + 1) (pnext r))) v' A' pc' tc := by
  have li := I.li
  have ri := I.ri
  have tk := I.tk
  rw [hf] at li
  rw [hcl] at ri
  rw [htk] at tk
  have m0 : 0 < c.G.m := by have := ok.m2; omega
  have ew : wfold (g ++ [(0, .put 0)]) = wstep (wfold g) (0, .put 0) := wfold_snoc
  have hto := ri.to l pk.hl
  have len : (wfold g).ts.length = A.k + 1 := li.len
  have hcel : ∀ x, okP c.G.L c.G.m x -> isV x -> v' (c.G.B x) = ut A.c (kTurn l ((A.q l).length % c.G.m)) (((A.q l).length : Int) + 1) x := fun x hx hvx => by
    rw [hv]
    by_cases e : x = kTurn l ((A.q l).length % c.G.m)
    · rw [e, ut_same, ut_same]
    · rw [ut_ne _ _ e, ut_ne _ _ fun z => e (ok.inj _ _ hx ⟨pk.hl, Nat.mod_lt _ m0⟩ z)]; exact I.cel x hx hvx
  have j1 : PInv c (g ++ [(0, .put 0)]) (ut S 0 (pRes c (A.k + 1) (.raw r))) v' ⟨A.k + 1, putQ A.q l (A.k + 1), A.t, A.o, ut A.c (kTurn l ((A.q l).length % c.G.m)) (((A.q l).length : Int) + 1)⟩ (.raw r) tc := by
    refine ⟨ut_same _ _ _, (ut_ne _ _ (by omega)).trans I.res1, fun i hi => (ut_ne _ _ (by omega)).trans (I.out i hi), hcel, ?_, ri.put pk.hl h1 h2, ?_, ⟨by have := pk.hn; show A.k + 1 + r.length <= c.puts.length; omega, pk.hr⟩, ?_, wokl_snoc I.ok ⟨li.bnd (by have := pk.hn; have := ok.puts; omega), fun e => by rw [e] at len; simp at len, .inl rfl⟩⟩
    · rw [ew]; exact li.put pk.hl (by omega) pk.hlv
    · show ut A.c (kTurn l ((A.q l).length % c.G.m)) (((A.q l).length : Int) + 1) kTk = _
      rw [ut_ne _ _ (kne (.inl (by omega)))]
      exact tk
    · rw [ew]
      refine I.tt.keep (fun n => rfl) (fun i p w _ h => putQ_old h) fun i p w _ h => (putQ_get h).imp id fun ⟨_, _, e⟩ => ?_
      show tkn ((wfold g).ts.drop _) = 0
      rw [List.drop_eq_nil_of_le (by omega)]; rfl
  have j2 := j1.pgo ok rfl rfl rfl (by have := pk.hn; show A.k + 1 + r.length <= c.puts.length; omega) pk.hr
  rw [ut_ut', List.append_assoc] at j2
  exact ⟨_, _, j2⟩
end
end
section
open Go Go.TJ Go.Conc Go.Proofs
theorem beh1 {w a n : Int} : (behind 1 w a n).1 = w := rfl
theorem beh2 {w a n : Int} : (behind 2 w a n).1 = a := rfl
theorem beh3 {w n : Int} : (behind 3 w w n).1 = n := by simp [behind]
theorem beh4 {w a n : Int} : (behind 4 w a n).1 = IntKind.i64.wrap (w + a) := rfl
theorem nrm_step {A : Type} {r : Rq} {k : Int -> Pr A} : norm (Pr.step r k) = ([], Pr.step r k) := rfl
theorem map_nil_app {A : Type} {g : List (Nat × A)} {i : Nat} : g ++ ([] : List A).map (fun e => (i, e)) = g := by simp
theorem bst_best {H : Nat -> Hd} : ∀ {n b : Nat}, bst H n = some b -> ∀ i, i < n -> (H i).1 = true -> 64 * (i : Int) - (H i).2.2 <= 64 * (b : Int) - (H b).2.2
  | 0, _, h => by cases h
  | n + 1, b, h => by
    intro i hi ht
    unfold bst at h
    split at h
    · rename_i hc
      cases h
      by_cases e : i = n
      · subst e; omega
      · cases hb : bst H n with
        | none =>
          exfalso
          have : ∀ m, m <= n -> bst H m = none -> ∀ i, i < m -> (H i).1 = false := by
            intro m
            induction m with
            | zero => intro _ _ i hi; omega
            | succ m ih =>
              intro hm hn i hi
              unfold bst at hn
              split at hn
              · cases hn
              · rename_i hc2
                have ih' := ih (by omega) hn
                by_cases e : i = m
                · subst e
                  rcases Bool.eq_false_or_eq_true (H i).1 with z | z
                  · exact absurd ⟨z, fun b hb => by rw [hn] at hb; cases hb⟩ hc2
                  · exact z
                · exact ih' i (by omega)
          have := this n (Nat.le_refl _) hb i (by omega)
          rw [this] at ht; cases ht
        | some b' =>
          have h1 := bst_best hb i (by omega) ht
          have h2 := hc.2 b' hb
          omega
    · rename_i hc
      by_cases e : i = n
      · subst e
        have h2 : ¬ (64 * ((i : Int) - b) > (H i).2.2 - (H b).2.2) := fun z => hc ⟨ht, fun b' hb' => by rw [h] at hb'; cases hb'; exact z⟩
        omega
      · exact bst_best h i (by omega) ht
section
variable {c : PP} {g : List (Nat × PE)} {S : Nat -> Pr PE} {v : Nat -> Int} {A : PA} {pc : PC} {tc : TC}
theorem PT.le (ok : c.Ok) {s : WS} (x : PT c A s pc) : A.k <= c.puts.length /\ A.k <= 400 := by
  have h4 := ok.puts
  have pk : ∀ {l r}, PK c A s l r -> A.k <= c.puts.length /\ A.k <= 400 := fun z => by have := z.hn; omega
  cases pc with
  | fin => have : A.k <= c.puts.length := x; omega
  | raw r => have := x.1; omega
  | p0 l r => exact pk x
  | p1 l r p => exact pk x.1
  | p2 l r p => exact pk x.1
  | p3 l r p => exact pk x.1
  | p4 l r p => exact pk x.1
  | p5 l r p => exact pk x.1
  | p6 l r p => exact pk x.1
theorem PInv.cut (ok : c.Ok) (I : PInv c g S v A pc tc) {x : Key} (hx : okP c.G.L c.G.m x) {z : Int} : ∀ y, okP c.G.L c.G.m y -> isV y -> ut v (c.G.B x) z (c.G.B y) = ut A.c x z y := fun y hy hv => by
  by_cases e : y = x
  · rw [e, ut_same, ut_same]
  · rw [ut_ne _ _ e, ut_ne _ _ fun w => e (ok.inj _ _ hy hx w)]; exact I.cel y hy hv
theorem PInv.goes (I : PInv c g S v A pc tc) (b : Nat) : ut v b (v b) = v := ut_self _ _
theorem PInv.pstep (ok : c.Ok) (I : PInv c g S v A pc tc) {r : Rq} {k : Int -> Pr PE} (hS : S 0 = .step r k) :
    ∃ A' pc', PInv c (g ++ (norm (k (v r.b))).1.map fun a => (0, a)) (ut S 0 (norm (k (v r.b))).2) (ut v r.b (behind r.op (v r.b) r.arg r.new).1) A' pc' tc := by
  have h0 := I.res0
  rw [hS] at h0
  have m2 := ok.m2
  have p4 := ok.puts
  have m0 : 0 < c.G.m := by omega
  have ri := I.ri
  have tk := I.tk
  cases pc with
  | fin => cases h0
  | raw l =>
    cases l with
    | nil => cases h0
    | cons x l => cases h0
  | p0 l rr =>
    have pt : PK c A (wfold g) l rr := I.pt
    have h0' : Pr.step r k = Pr.step ⟨1, c.G.B (kIn l), 0, 0⟩ fun p => put1 c.G l ((A.k + 1 : Nat) : Int) p (kPut c.G c.F rr A.k) c.f := h0
    injection h0' with hr hk
    subst hr hk
    have e : v (c.G.B (kIn l)) = ((A.q l).length : Int) := by rw [I.cel (kIn l) pt.hl (by simp [isV]), ri.inn l pt.hl]; simp [pcl]
    dsimp only
    rw [beh1, ut_self, e]
    unfold put1
    rw [nrm_step, map_nil_app]
    exact ⟨_, _, I.pmove (.p1 l rr (A.q l).length) A.c I.cel rfl ri tk ⟨pt, rfl⟩⟩
  | p1 l rr p =>
    obtain ⟨pt, rfl⟩ : PK c A (wfold g) l rr /\ p = (A.q l).length := I.pt
    have h0' : Pr.step r k = Pr.step ⟨1, c.G.B (kTurn l (pj c.G.m (((A.q l).length : Nat) : Int))), 0, 0⟩ fun t => if IntKind.i64.wrap (t - (((A.q l).length : Nat) : Int)) < 0 then kPut c.G c.F rr A.k 12 else if IntKind.i64.wrap (t - (((A.q l).length : Nat) : Int)) = 0 then put2 c.G l ((A.k + 1 : Nat) : Int) (((A.q l).length : Nat) : Int) (kPut c.G c.F rr A.k) c.f else putP c.G l ((A.k + 1 : Nat) : Int) (kPut c.G c.F rr A.k) c.f := h0
    injection h0' with hr hk
    subst hr hk
    have hto := ri.to l pt.hl
    have hro := ri.room l pt.hl
    have hmn := ri.many l pt.hl
    have hkn := pt.hn
    dsimp only
    rw [pj_nat, beh1, ut_self, I.cel (kTurn l ((A.q l).length % c.G.m)) ⟨pt.hl, Nat.mod_lt _ m0⟩ (by simp [isV])]
    by_cases hlt : (A.q l).length < A.t l + c.G.m
    · have e := ri.free l (A.q l).length pt.hl (Nat.le_refl _) hlt
      have e2 : IntKind.i64.wrap (A.c (kTurn l ((A.q l).length % c.G.m)) - (((A.q l).length : Nat) : Int)) = 0 := by rw [e, Int.sub_self]; rfl
      rw [e2, if_neg (by omega), if_pos rfl]
      unfold put2
      rw [nrm_step, map_nil_app]
      exact ⟨_, _, I.pmove (.p2 l rr (A.q l).length) A.c I.cel rfl ri tk ⟨pt, rfl, hlt⟩⟩
    · have hq : (A.q l).length = A.t l + c.G.m := by split at hro <;> omega
      obtain ⟨w, hw⟩ : ∃ w, (A.q l)[A.t l]? = some w := ⟨_, List.getElem?_eq_getElem (by omega)⟩
      have e := (ri.full l (A.t l) w pt.hl (Nat.le_refl _) hw).1
      have e0 : (A.q l).length % c.G.m = A.t l % c.G.m := by rw [hq, Nat.add_mod_right]
      rw [<- e0] at e
      have e2 : IntKind.i64.wrap (A.c (kTurn l ((A.q l).length % c.G.m)) - (((A.q l).length : Nat) : Int)) = 1 - (c.G.m : Int) := by
        rw [e]
        rw [show (((A.t l : Nat) : Int) + 1 - (((A.q l).length : Nat) : Int)) = 1 - (c.G.m : Int) by omega]
        exact i64_in (by omega) (by omega)
      rw [e2, if_pos (by omega), norm_kPut, if_neg (by decide)]
      exact ⟨_, _, I.pfull ok rfl rfl rfl pt⟩
  | p2 l rr p =>
    obtain ⟨pt, rfl, hlt⟩ : PK c A (wfold g) l rr /\ p = (A.q l).length /\ p < A.t l + c.G.m := I.pt
    have h0' : Pr.step r k = Pr.step ⟨3, c.G.B (kIn l), (((A.q l).length : Nat) : Int), (((A.q l).length : Nat) : Int) + 1⟩ fun w => if w = (((A.q l).length : Nat) : Int) then put3 c.G l ((A.k + 1 : Nat) : Int) (((A.q l).length : Nat) : Int) (kPut c.G c.F rr A.k) else putP c.G l ((A.k + 1 : Nat) : Int) (kPut c.G c.F rr A.k) c.f := h0
    injection h0' with hr hk
    subst hr hk
    have e : v (c.G.B (kIn l)) = ((A.q l).length : Int) := by rw [I.cel (kIn l) pt.hl (by simp [isV]), ri.inn l pt.hl]; simp [pcl]
    dsimp only
    rw [e, beh3, if_pos rfl]
    unfold put3
    rw [nrm_step, map_nil_app]
    exact ⟨_, _, I.pmove (.p3 l rr (A.q l).length) _ (I.cut ok (x := kIn l) pt.hl) rfl (ri.claim pt.hl hlt) ((ut_ne _ _ (kne (.inl (by omega)))).trans tk) ⟨⟨pt.hl, pt.hn, pt.hr, pt.hlv⟩, rfl⟩⟩
  | p3 l rr p =>
    obtain ⟨pt, rfl⟩ : PK c A (wfold g) l rr /\ p = (A.q l).length := I.pt
    have h0' : Pr.step r k = Pr.step ⟨4, c.G.B kTk, 1, 0⟩ fun x => put4 c.G l ((A.k + 1 : Nat) : Int) (((A.q l).length : Nat) : Int) x (kPut c.G c.F rr A.k) := h0
    injection h0' with hr hk
    subst hr hk
    have hkn := pt.hn
    have e : v (c.G.B kTk) = (A.k : Int) := by rw [I.cel kTk trivial (by simp [isV]), tk]; rfl
    dsimp only
    rw [e, beh4, show IntKind.i64.wrap ((A.k : Int) + 1) = (A.k : Int) + 1 from i64_in (by omega) (by omega)]
    unfold put4
    rw [nrm_step, map_nil_app]
    exact ⟨_, _, I.pmove (.p4 l rr (A.q l).length) _ (I.cut ok (x := kTk) trivial) rfl (ri.other (by simp)) (by rw [ut_same]; rfl) ⟨⟨pt.hl, pt.hn, pt.hr, pt.hlv⟩, rfl⟩⟩
  | p4 l rr p =>
    obtain ⟨pt, rfl⟩ : PK c A (wfold g) l rr /\ p = (A.q l).length := I.pt
    have h0' : Pr.step r k = Pr.step ⟨2, c.G.B (kTick l (pj c.G.m (((A.q l).length : Nat) : Int))), (A.k : Int) + 1, 0⟩ fun _ => put5 c.G l ((A.k + 1 : Nat) : Int) (((A.q l).length : Nat) : Int) (kPut c.G c.F rr A.k) := h0
    injection h0' with hr hk
    subst hr hk
    have hkn := pt.hn
    dsimp only
    rw [pj_nat, beh2]
    unfold put5
    rw [nrm_step, map_nil_app]
    exact ⟨_, _, I.pmove (.p5 l rr (A.q l).length) _ (I.cut ok (x := kTick l ((A.q l).length % c.G.m)) ⟨pt.hl, Nat.mod_lt _ m0⟩) rfl (ri.lay (.inl rfl) ⟨by omega, by omega⟩ pt.hl) ((ut_ne _ _ (kne (.inl (by omega)))).trans tk) ⟨⟨pt.hl, pt.hn, pt.hr, pt.hlv⟩, rfl, by show ut A.c (kTick l ((A.q l).length % c.G.m)) ((A.k : Int) + 1) (kTick l ((A.q l).length % c.G.m)) = ((A.k + 1 : Nat) : Int); rw [ut_same]; omega⟩⟩
  | p5 l rr p =>
    obtain ⟨pt, rfl, ht⟩ : PK c A (wfold g) l rr /\ p = (A.q l).length /\ A.c (kTick l (p % c.G.m)) = ((A.k + 1 : Nat) : Int) := I.pt
    have h0' : Pr.step r k = Pr.step ⟨2, c.G.B (kSlot l (pj c.G.m (((A.q l).length : Nat) : Int))), ((A.k + 1 : Nat) : Int), 0⟩ fun _ => put6 c.G l (((A.q l).length : Nat) : Int) (kPut c.G c.F rr A.k) := h0
    injection h0' with hr hk
    subst hr hk
    have hkn := pt.hn
    dsimp only
    rw [pj_nat, beh2]
    unfold put6
    rw [nrm_step, map_nil_app]
    exact ⟨_, _, I.pmove (.p6 l rr (A.q l).length) _ (I.cut ok (x := kSlot l ((A.q l).length % c.G.m)) ⟨pt.hl, Nat.mod_lt _ m0⟩) rfl (ri.lay (.inr rfl) ⟨by omega, by omega⟩ pt.hl) ((ut_ne _ _ (kne (.inl (by omega)))).trans tk) ⟨⟨pt.hl, pt.hn, pt.hr, pt.hlv⟩, rfl, by show ut A.c (kSlot l ((A.q l).length % c.G.m)) ((A.k + 1 : Nat) : Int) (kTick l ((A.q l).length % c.G.m)) = ((A.k + 1 : Nat) : Int); rw [ut_ne _ _ (fun z => by injection z with z _; omega)]; exact ht, by show ut A.c (kSlot l ((A.q l).length % c.G.m)) ((A.k + 1 : Nat) : Int) (kSlot l ((A.q l).length % c.G.m)) = ((A.k + 1 : Nat) : Int); rw [ut_same]⟩⟩
  | p6 l rr p =>
    obtain ⟨pt, rfl, ht, hs⟩ : PK c A (wfold g) l rr /\ p = (A.q l).length /\ A.c (kTick l (p % c.G.m)) = ((A.k + 1 : Nat) : Int) /\ A.c (kSlot l (p % c.G.m)) = ((A.k + 1 : Nat) : Int) := I.pt
    have h0' : Pr.step r k = Pr.step ⟨2, c.G.B (kTurn l (pj c.G.m (((A.q l).length : Nat) : Int))), (((A.q l).length : Nat) : Int) + 1, 0⟩ fun _ => kPut c.G c.F rr A.k 0 := h0
    injection h0' with hr hk
    subst hr hk
    dsimp only
    rw [pj_nat, beh2, norm_kPut, if_pos rfl]
    exact I.pput ok rfl rfl rfl pt ht hs rfl
theorem PInv.tgo (ok : c.Ok) (I : PInv c g S v A pc tc) {n : Nat} (ho : ∀ i, A.o i = A.t i) : PInv c g (ut S 1 (tRes c (tnext c n))) v A pc (tnext c n) := by
  have L1 := ok.L1
  refine I.tmove (tnext c n) A.o A.c I.cel I.ri (fun _ _ => rfl) ?_
  cases n with
  | zero => exact ho
  | succ n => exact ⟨ho, by omega, fun i h1 h2 => by omega, fun i _ => rfl⟩
theorem PInv.tno (I : PInv c g S v A pc tc) {l : Int} {x : Int} {i : Nat} : PInv c (g ++ [(i, .tk x l false)]) S v A pc tc := by
  have ew : wfold (g ++ [(i, .tk x l false)]) = wfold g := wfold_snoc
  exact ⟨I.res0, I.res1, I.out, I.cel, by rw [ew]; exact I.li, I.ri, I.tk, by rw [ew]; exact I.pt, by rw [ew]; exact I.tt, wokl_snoc I.ok fun h => by cases h⟩
theorem PInv.look (ok : c.Ok) (I : PInv c g S v A pc tc) (ho : ∀ i, A.o i = A.t i) {r n : Nat} {H : Nat -> Hd} (hn : n < c.G.L) (sc : Scn c.G.L A.q A.o (fT (wfold g)) H n) :
    ∃ A' tc', PInv c (g ++ (norm (looksP c.G (kC c r) n H)).1.map fun a => (1, a)) (ut S 1 (norm (looksP c.G (kC c r) n H)).2) v A' pc tc' := by
  cases n with
  | succ n =>
    rw [looksP_succ, nrm_step, map_nil_app]
    exact ⟨_, _, I.tmove (.l0 r n H) A.o A.c I.cel I.ri (fun _ _ => rfl) ⟨ho, by omega, sc⟩⟩
  | zero =>
    show ∃ A' tc', PInv c (g ++ (norm (chooseP c.G (kTak c.G c.F r) (takeP c.G (kTak c.G c.F r) c.f) H)).1.map fun a => (1, a)) (ut S 1 (norm (chooseP c.G (kTak c.G c.F r) (takeP c.G (kTak c.G c.F r) c.f) H)).2) v A' pc tc'
    unfold chooseP
    cases hb : bst H 8 with
    | none =>
      dsimp only
      rw [norm_kTak ok.L1]
      exact ⟨_, _, (I.tno (l := 0) (x := 0) (i := 1)).tgo ok ho⟩
    | some b =>
      dsimp only
      rw [gotP_eq, nrm_step, map_nil_app, <- gotP_eq]
      exact ⟨_, _, I.tmove (.c r H b) A.o A.c I.cel I.ri (fun _ _ => rfl) ⟨ho, sc, hb⟩⟩
theorem PInv.tstep (ok : c.Ok) (I : PInv c g S v A pc tc) {r : Rq} {k : Int -> Pr PE} (hS : S 1 = .step r k) :
    ∃ A' tc', PInv c (g ++ (norm (k (v r.b))).1.map fun a => (1, a)) (ut S 1 (norm (k (v r.b))).2) (ut v r.b (behind r.op (v r.b) r.arg r.new).1) A' pc tc' := by
  have h0 := I.res1
  rw [hS] at h0
  have m2 := ok.m2
  have L1 := ok.L1
  have L8 := ok.L8
  have m0 : 0 < c.G.m := by omega
  have ri := I.ri
  cases tc with
  | fin => cases h0
  | raw n =>
    obtain ⟨L, hL⟩ : ∃ L, c.G.L = L + 1 := ⟨c.G.L - 1, by omega⟩
    cases n with
    | zero => cases h0
    | succ n =>
      have ho : ∀ i, A.o i = A.t i := I.tt
      have J := I.tgo ok (n := n + 1) ho
      have e : tRes c (tnext c (n + 1)) = tRes c (.raw (n + 1)) := by
        have h1 := norm_tak (c := c) L1 (n := n + 1)
        have h2 : norm (takerP c.G c.F (n + 1)) = ([], takerP c.G c.F (n + 1)) := by
          have : takerP c.G c.F (n + 1) = Pr.step r k := h0.symm
          rw [this]; rfl
        rw [h2] at h1
        injection h1 with _ h1
        exact h1.symm
      rw [e] at J
      have hS' : ut S 1 (tRes c (.raw (n + 1))) = S := by
        have : tRes c (.raw (n + 1)) = S 1 := by rw [hS]; exact h0.symm
        rw [this, ut_self]
      rw [hS'] at J
      have h0' : Pr.step r k = Pr.step ⟨1, c.G.B (kOut (c.G.L - 1)), 0, 0⟩ fun p => look1 c.G (kC c n) (c.G.L - 1) H0 p := h0.trans e.symm
      injection h0' with hr hk
      subst hr hk
      have hl : c.G.L - 1 < c.G.L := by omega
      have e : v (c.G.B (kOut (c.G.L - 1))) = (A.o (c.G.L - 1) : Int) := by rw [I.cel (kOut (c.G.L - 1)) hl (by simp [isV]), ri.out _ hl]
      dsimp only
      rw [beh1, ut_self, e]
      unfold look1
      rw [nrm_step, map_nil_app]
      exact ⟨_, _, J.tmove (.l1 n (c.G.L - 1) H0 (A.o (c.G.L - 1))) A.o A.c I.cel ri (fun _ _ => rfl) ⟨ho, hl, ⟨fun i h1 h2 => by omega, fun i _ => rfl⟩, rfl⟩⟩
  | l0 rr n H =>
    obtain ⟨ho, hn, sc⟩ : (∀ i, A.o i = A.t i) /\ n < c.G.L /\ Scn c.G.L A.q A.o (fT (wfold g)) H (n + 1) := I.tt
    have h0' : Pr.step r k = Pr.step ⟨1, c.G.B (kOut n), 0, 0⟩ fun p => look1 c.G (kC c rr) n H p := h0
    injection h0' with hr hk
    subst hr hk
    have e : v (c.G.B (kOut n)) = (A.o n : Int) := by rw [I.cel (kOut n) hn (by simp [isV]), ri.out _ hn]
    dsimp only
    rw [beh1, ut_self, e]
    unfold look1
    rw [nrm_step, map_nil_app]
    exact ⟨_, _, I.tmove (.l1 rr n H (A.o n)) A.o A.c I.cel ri (fun _ _ => rfl) ⟨ho, hn, sc, rfl⟩⟩
  | l1 rr n H p =>
    obtain ⟨ho, hn, sc, rfl⟩ : (∀ i, A.o i = A.t i) /\ n < c.G.L /\ Scn c.G.L A.q A.o (fT (wfold g)) H (n + 1) /\ p = A.o n := I.tt
    have h0' : Pr.step r k = Pr.step ⟨1, c.G.B (kTurn n (pj c.G.m ((A.o n : Nat) : Int))), 0, 0⟩ fun t => if t = ((A.o n : Nat) : Int) + 1 then look2 c.G (kC c rr) n H ((A.o n : Nat) : Int) else looksP c.G (kC c rr) n H := h0
    injection h0' with hr hk
    subst hr hk
    have hto := ri.to n hn
    have hro := ri.room n hn
    dsimp only
    rw [pj_nat, beh1, ut_self, I.cel (kTurn n (A.o n % c.G.m)) ⟨hn, Nat.mod_lt _ m0⟩ (by simp [isV])]
    by_cases hlt : A.o n < (A.q n).length
    · obtain ⟨w, hw⟩ : ∃ w, (A.q n)[A.o n]? = some w := ⟨_, List.getElem?_eq_getElem hlt⟩
      rw [(ri.full n (A.o n) w hn (by rw [ho]; exact Nat.le_refl _) hw).1, if_pos rfl]
      unfold look2
      rw [nrm_step, map_nil_app]
      exact ⟨_, _, I.tmove (.l2 rr n H (A.o n)) A.o A.c I.cel ri (fun _ _ => rfl) ⟨ho, hn, sc, rfl, w, hw⟩⟩
    · have hoq : A.o n = (A.q n).length := by omega
      have := ho n
      rw [ri.free n (A.o n) hn (by omega) (by omega), if_neg (by omega)]
      refine I.look ok ho hn ⟨fun i hi h1 => ?_, fun i hi => ?_⟩
      · by_cases e : i = n
        · subst e
          refine .inr ⟨sc.rest i (.inl (by omega)), fun p v hp hv => ?_⟩
          have := get_lt hv
          omega
        · exact sc.seen i hi (by omega)
      · exact sc.rest i (by omega)
  | l2 rr n H p =>
    obtain ⟨ho, hn, sc, rfl, w, hw⟩ : (∀ i, A.o i = A.t i) /\ n < c.G.L /\ Scn c.G.L A.q A.o (fT (wfold g)) H (n + 1) /\ p = A.o n /\ ∃ w, (A.q n)[p]? = some w := I.tt
    have h0' : Pr.step r k = Pr.step ⟨1, c.G.B (kTick n (pj c.G.m ((A.o n : Nat) : Int))), 0, 0⟩ fun x => looksP c.G (kC c rr) n (up H n (true, ((A.o n : Nat) : Int), x)) := h0
    injection h0' with hr hk
    subst hr hk
    dsimp only
    rw [pj_nat, beh1, ut_self, I.cel (kTick n (A.o n % c.G.m)) ⟨hn, Nat.mod_lt _ m0⟩ (by simp [isV]), (ri.full n (A.o n) w hn (by rw [ho]; exact Nat.le_refl _) hw).2.1]
    refine I.look ok ho hn ⟨fun i hi h1 => ?_, fun i hi => ?_⟩
    · by_cases e : i = n
      · subst e
        rw [up_same]
        exact .inl ⟨rfl, w, hw, rfl, rfl⟩
      · rw [up_ne _ _ e]
        exact sc.seen i hi (by omega)
    · rw [up_ne _ _ (by omega)]
      exact sc.rest i (by omega)
  | c rr H b =>
    obtain ⟨ho, sc, hb⟩ : (∀ i, A.o i = A.t i) /\ Scn c.G.L A.q A.o (fT (wfold g)) H 0 /\ bst H 8 = some b := I.tt
    obtain ⟨hb8, hbt⟩ := bst_lt hb
    have hbL : b < c.G.L := by
      rcases Nat.lt_or_ge b c.G.L with z | z
      · exact z
      · rw [sc.rest b (.inr z)] at hbt; cases hbt
    obtain ⟨w, hw, hp, hx⟩ : ∃ w : Nat, (A.q b)[A.o b]? = some w /\ (H b).2.1 = (A.o b : Int) /\ (H b).2.2 = (w : Int) := by
      rcases sc.seen b hbL (Nat.zero_le _) with ⟨_, z⟩ | ⟨z, _⟩
      · exact z
      · rw [z] at hbt; cases hbt
    have h0' : Pr.step r k = Pr.step ⟨3, c.G.B (kOut b), (H b).2.1, (H b).2.1 + 1⟩ fun w => if w = (H b).2.1 then got2 c.G (kTak c.G c.F rr) b (H b).2.1 else takeP c.G (kTak c.G c.F rr) c.f := h0
    injection h0' with hr hk
    subst hr hk
    have e : v (c.G.B (kOut b)) = (A.o b : Int) := by rw [I.cel (kOut b) hbL (by simp [isV]), ri.out _ hbL]
    dsimp only
    rw [hp, e, beh3, if_pos rfl]
    unfold got2
    rw [nrm_step, map_nil_app]
    have hob := ho b
    refine ⟨_, _, I.tmove (.d rr b (A.o b)) _ _ (I.cut ok (x := kOut b) hbL) (ri.take hbL (get_lt hw)) (fun y hy => ut_ne _ _ fun z => by rw [z] at hy; simp at hy) ⟨fun i => ?_, hbL, hob, w, hw, fun i p u hi hpi hu hne => ?_⟩⟩
    · by_cases e : i = b
      · subst e; rw [ut_same, if_pos rfl]; omega
      · rw [ut_ne _ _ e, if_neg e]; exact ho i
    · rcases sc.seen i hi (Nat.zero_le _) with ⟨z1, w', z2, z3, z4⟩ | ⟨z1, z2⟩
      · right
        have h1 := bst_best hb i (by omega) z1
        rw [hx, z4] at h1
        have h2 : w' <= u := by
          rw [<- ho i] at hpi
          rcases Nat.eq_or_lt_of_le hpi with e2 | e2
          · rw [<- e2, z2] at hu; injection hu with hu; omega
          · exact Nat.le_of_lt (I.li.srt i _ p _ _ hi z2 hu e2)
        unfold dD
        omega
      · left
        exact z2 p u (by rw [ho]; exact hpi) hu
  | d rr b p =>
    obtain ⟨ho, hbL, rfl, w, hw, cv⟩ : (∀ i, A.o i = A.t i + if i = b then 1 else 0) /\ b < c.G.L /\ p = A.t b /\ ∃ w, (A.q b)[p]? = some w /\ Cov c.G.L A.q A.t (fT (wfold g)) w := I.tt
    have h0' : Pr.step r k = Pr.step ⟨1, c.G.B (kSlot b (pj c.G.m ((A.t b : Nat) : Int))), 0, 0⟩ fun v => got3 c.G (kTak c.G c.F rr) b ((A.t b : Nat) : Int) v := h0
    injection h0' with hr hk
    subst hr hk
    dsimp only
    rw [pj_nat, beh1, ut_self, I.cel (kSlot b (A.t b % c.G.m)) ⟨hbL, Nat.mod_lt _ m0⟩ (by simp [isV]), (ri.full b (A.t b) w hbL (Nat.le_refl _) hw).2.2]
    unfold got3
    rw [nrm_step, map_nil_app]
    exact ⟨_, _, I.tmove (.e rr b (A.t b) w) A.o A.c I.cel ri (fun _ _ => rfl) ⟨ho, hbL, rfl, hw, cv⟩⟩
  | e rr b p w =>
    obtain ⟨ho, hbL, rfl, hw, cv⟩ : (∀ i, A.o i = A.t i + if i = b then 1 else 0) /\ b < c.G.L /\ p = A.t b /\ (A.q b)[p]? = some w /\ Cov c.G.L A.q A.t (fT (wfold g)) w := I.tt
    have h0' : Pr.step r k = Pr.step ⟨2, c.G.B (kTurn b (pj c.G.m ((A.t b : Nat) : Int))), ((A.t b : Nat) : Int) + c.G.m, 0⟩ fun _ => kTak c.G c.F rr w b true := h0
    injection h0' with hr hk
    subst hr hk
    dsimp only
    rw [pj_nat, beh2, norm_kTak L1]
    obtain ⟨hok, li⟩ := I.li.take (j := 1) hbL hw (I.pt.le ok).2 cv
    have hob := ho b
    rw [if_pos rfl] at hob
    have ew : wfold (g ++ [(1, .tk w b true)]) = wstep (wfold g) (1, .tk w b true) := wfold_snoc
    have J : PInv c (g ++ [(1, .tk w b true)]) (ut S 1 (tRes c (.raw rr))) (ut v (c.G.B (kTurn b (A.t b % c.G.m))) ((A.t b : Int) + c.G.m)) { A with t := ut A.t b (A.t b + 1), c := ut A.c (kTurn b (A.t b % c.G.m)) ((A.t b : Int) + c.G.m) } pc (.raw rr) := by
      refine ⟨(ut_ne _ _ (by omega)).trans I.res0, ut_same _ _ _, fun i hi => (ut_ne _ _ (by omega)).trans (I.out i hi), I.cut ok (x := kTurn b (A.t b % c.G.m)) ⟨hbL, Nat.mod_lt _ m0⟩, by rw [ew]; exact li, ri.give hbL (by omega), by show ut A.c (kTurn b (A.t b % c.G.m)) ((A.t b : Int) + c.G.m) kTk = _; rw [ut_ne _ _ (kne (.inl (by omega)))]; exact I.tk, I.pt.keep rfl rfl (fun i => ?_) (fun y hy => ut_ne _ _ fun z => by rw [z] at hy; simp at hy) (fun y hy => ?_), fun i => ?_, wokl_snoc I.ok hok⟩
      · show A.t i <= ut A.t b (A.t b + 1) i
        by_cases e : i = b
        · subst e; rw [ut_same]; omega
        · rw [ut_ne _ _ e]; exact Nat.le_refl _
      · rw [ew] at hy
        have hy' : (gone (wfold g).ts ((w : Int).toNat - 1))[A.k]? = some y := hy
        rw [gone_get] at hy'
        obtain ⟨z, hz, e⟩ := Option.map_eq_some_iff.1 hy'
        refine ⟨z, hz, ?_⟩
        rw [<- e]
        split
        · rfl
        · exact bump_lv
      · show A.o i = ut A.t b (A.t b + 1) i
        have := ho i
        by_cases e : i = b
        · subst e; rw [ut_same]; omega
        · rw [ut_ne _ _ e, this, if_neg e]; rfl
    have K := J.tgo ok (n := rr) (J.tt)
    rw [ut_ut'] at K
    exact ⟨_, _, K⟩
end
end
section
open Go Go.TJ Go.Conc Go.Proofs
structure PW0 (c : PP) (v0 : Nat -> Int) : Prop where
  tk : v0 (c.G.B kTk) = 0
  inn : ∀ i, i < c.G.L -> v0 (c.G.B (kIn i)) = 0
  out : ∀ i, i < c.G.L -> v0 (c.G.B (kOut i)) = 0
  turn : ∀ i j, i < c.G.L -> j < c.G.m -> v0 (c.G.B (kTurn i j)) = j
  tick : ∀ i j, i < c.G.L -> j < c.G.m -> v0 (c.G.B (kTick i j)) = 0
section
variable {c : PP} {l : List Ev} {g : List (Nat × PE)} {S : Nat -> Pr PE} {v v0 : Nat -> Int} {A : PA} {pc : PC} {tc : TC}
theorem PInv.init (ok : c.Ok) (z : PW0 c v0) : PInv c [] c.P v0 ⟨0, fun _ => [], fun _ => 0, fun _ => 0, fun x => v0 (c.G.B x)⟩ (.raw c.puts) (.raw c.tak) := by
  refine ⟨rfl, rfl, fun i hi => ?_, fun _ _ _ => rfl, LI.init, ⟨fun i _ => ⟨Nat.le_refl _, Nat.zero_le _⟩, fun i _ => ?_, fun i hi => ?_, fun i hi => z.out i hi, fun i p w _ _ h => ?_, fun i p hi _ h2 => ?_, fun i j hi hj => ?_, fun i _ => Nat.zero_le _⟩, z.tk, ⟨by show 0 + _ <= _; omega, ok.lv⟩, fun _ => rfl, wokl_nil⟩
  · unfold PP.P; split
    · omega
    · omega
    · rfl
  · show 0 + (if none = some i then 1 else 0) <= 0 + c.G.m
    rw [if_neg nofun]; omega
  · show v0 (c.G.B (kIn i)) = ((0 + (if none = some i then 1 else 0) : Nat) : Int)
    rw [if_neg nofun, z.inn i hi]; rfl
  · simp at h
  · have hp : p < c.G.m := by have h3 : p < 0 + c.G.m := h2; omega
    show v0 (c.G.B (kTurn i (p % c.G.m))) = p
    rw [Nat.mod_eq_of_lt hp]; exact z.turn i p hi hp
  · show 0 <= v0 (c.G.B (kTick i j)) /\ v0 (c.G.B (kTick i j)) <= 401
    rw [z.tick i j hi hj]; omega
theorem PInv.same (I : PInv c g S v A pc tc) {i : Nat} (h : norm (S i) = ([], S i)) : PInv c (g ++ (norm (S i)).1.map fun a => (i, a)) (ut S i (norm (S i)).2) v A pc tc := by
  rw [h, ut_self]
  simpa using I
theorem pRes_norm {k : Nat} : ∀ {pc : PC}, (∀ r, pc ≠ .raw r) -> norm (pRes c k pc) = ([], pRes c k pc)
  | .fin, _ => rfl
  | .raw r, h => absurd rfl (h r)
  | .p0 _ _, _ => rfl
  | .p1 _ _ _, _ => rfl
  | .p2 _ _ _, _ => rfl
  | .p3 _ _ _, _ => rfl
  | .p4 _ _ _, _ => rfl
  | .p5 _ _ _, _ => rfl
  | .p6 _ _ _, _ => rfl
theorem tRes_norm : ∀ {tc : TC}, (∀ r, tc ≠ .raw r) -> norm (tRes c tc) = ([], tRes c tc)
  | .fin, _ => rfl
  | .raw r, h => absurd rfl (h r)
  | .l0 _ _ _, _ => rfl
  | .l1 _ _ _ _, _ => rfl
  | .l2 _ _ _ _, _ => rfl
  | .c _ _ _, _ => rfl
  | .d _ _ _, _ => rfl
  | .e _ _ _ _, _ => rfl
theorem pinv_all (ok : c.Ok) (z : PW0 c v0) (R : GR c.P v0 l g S v) : ∃ A pc tc, PInv c g S v A pc tc := by
  induction R with
  | init => exact ⟨_, _, _, PInv.init ok z⟩
  | @tell l g S v i R ih =>
    obtain ⟨A, pc, tc, I⟩ := ih
    match i with
    | 0 =>
      by_cases h : ∃ r, pc = .raw r
      · obtain ⟨r, rfl⟩ := h
        obtain ⟨h1, h2⟩ : A.k + r.length <= c.puts.length /\ ∀ x, x ∈ r -> x < c.G.L := I.pt
        have e : S 0 = putterP c.G c.F r A.k := I.res0
        rw [e, norm_put]
        exact ⟨_, _, _, I.pgo ok rfl rfl rfl h1 h2⟩
      · exact ⟨_, _, _, I.same (by rw [I.res0]; exact pRes_norm fun r e => h ⟨r, e⟩)⟩
    | 1 =>
      by_cases h : ∃ r, tc = .raw r
      · obtain ⟨r, rfl⟩ := h
        have e : S 1 = takerP c.G c.F r := I.res1
        rw [e, norm_tak ok.L1, map_nil_app]
        exact ⟨_, _, _, I.tgo ok I.tt⟩
      · exact ⟨_, _, _, I.same (by rw [I.res1]; exact tRes_norm fun r e => h ⟨r, e⟩)⟩
    | i + 2 => exact ⟨_, _, _, I.same (by rw [I.out (i + 2) (by omega)]; rfl)⟩
  | @step l g S v i r k R hS ih =>
    obtain ⟨A, pc, tc, I⟩ := ih
    match i with
    | 0 => obtain ⟨A', pc', J⟩ := I.pstep ok hS; exact ⟨_, _, _, J⟩
    | 1 => obtain ⟨A', tc', J⟩ := I.tstep ok hS; exact ⟨_, _, _, J⟩
    | i + 2 => rw [I.out (i + 2) (by omega)] at hS; cases hS
theorem PInv.jpr (ok : c.Ok) (I : PInv c g S v A pc tc) : JPr c.G l v := by
  have hk := (I.pt.le ok).2
  have ri := I.ri
  refine ⟨?_, fun i hi => ?_, fun i hi => ?_, fun i j hi hj => ?_⟩
  · rw [I.cel kTk trivial (by simp [isV]), I.tk]
    have : ptk pc <= 1 := by cases pc <;> simp [ptk]
    omega
  · rw [I.cel (kIn i) hi (by simp [isV]), ri.inn i hi]
    have := ri.many i hi
    split <;> omega
  · rw [I.cel (kOut i) hi (by simp [isV]), ri.out i hi]
    have := ri.many i hi
    have := ri.to i hi
    omega
  · rw [I.cel (kTick i j) ⟨hi, hj⟩ (by simp [isV])]
    have := ri.tick i j hi hj
    omega
end
structure PDr (full : Prop) (L m n : Nat) (s : WS) (k : Nat) (fl : Bool) (q : Nat -> List Nat) (o : Nat -> Nat) (v : Key -> Int) : Prop where
  li : LI full L s k fl q o
  n : k <= n
  k4 : k <= 400
  out : ∀ i, i < L -> v (kOut i) = (o i : Int)
  le : ∀ i, i < L -> o i <= (q i).length /\ (q i).length <= o i + m /\ (q i).length <= 400
  at_ : ∀ i p w, i < L -> o i <= p -> (q i)[p]? = some w -> v (kTurn i (p % m)) = (p : Int) + 1 /\ v (kTick i (p % m)) = (w : Int) /\ v (kSlot i (p % m)) = (w : Int)
  no : ∀ i, i < L -> v (kTurn i ((q i).length % m)) ≠ ((q i).length : Int) + 1
  tick : ∀ i j, i < L -> 0 <= v (kTick i j) /\ v (kTick i j) <= 401
def cutV (m : Nat) (c : Key -> Int) : Key -> Int := fun x => if x.2.2 < m then c x else 0
theorem cutV_eq {m : Nat} {c : Key -> Int} {x : Key} (h : x.2.2 < m) : cutV m c x = c x := if_pos h
section
variable {c : PP} {g : List (Nat × PE)} {S : Nat -> Pr PE} {v : Nat -> Int} {A : PA} {pc : PC} {tc : TC}
theorem PInv.dr (ok : c.Ok) (I : PInv c g S v A pc tc) {full : Prop} (hf : full -> ∀ i, A.o i = A.t i) : PDr full c.G.L c.G.m c.puts.length (wfold g) A.k (pfl pc) A.q A.o (cutV c.G.m A.c) := by
  have m2 := ok.m2
  have m0 : 0 < c.G.m := by omega
  have ri := I.ri
  have li : LI full c.G.L (wfold g) A.k (pfl pc) A.q A.o := by
    have h1 := I.li.mono (o' := A.o) fun i hi => (ri.to i hi).1
    have h2 := I.li
    exact ⟨h1.len, h1.thr, h1.fly, h1.item, fun x v v1 v2 => by
      obtain ⟨i, p, hi, hp, hz⟩ := h2.ta trivial v v1 v2
      exact ⟨i, p, hi, hp, fun hlt => hz (by rw [hf x i] at hlt; exact hlt)⟩, h1.last, h1.lle, h1.srt, h1.thb, h1.eq, h1.far⟩
  have hk := (I.pt.le ok).2
  refine ⟨li, (I.pt.le ok).1, hk, fun i hi => ?_, fun i hi => ?_, fun i p w hi hp hw => ?_, fun i hi => ?_, fun i j hi => ?_⟩
  · rw [cutV_eq m0]; exact ri.out i hi
  · have h1 := ri.to i hi
    have h2 := ri.room i hi
    have h3 := ri.many i hi
    omega
  · have hm := Nat.mod_lt p m0
    rw [cutV_eq hm, cutV_eq hm, cutV_eq hm]
    exact ri.full i p w hi (Nat.le_trans (ri.to i hi).1 hp) hw
  · have hm := Nat.mod_lt (A.q i).length m0
    rw [cutV_eq hm]
    have h1 := ri.to i hi
    have h2 := ri.room i hi
    by_cases e : (A.q i).length < A.t i + c.G.m
    · rw [ri.free i _ hi (Nat.le_refl _) e]; omega
    · have e2 : (A.q i).length = A.t i + c.G.m := by omega
      obtain ⟨w, hw⟩ : ∃ w, (A.q i)[A.t i]? = some w := ⟨_, List.getElem?_eq_getElem (by omega)⟩
      have := (ri.full i (A.t i) w hi (Nat.le_refl _) hw).1
      rw [show (A.q i).length % c.G.m = A.t i % c.G.m by rw [e2, Nat.add_mod_right], this]
      omega
  · by_cases e : j < c.G.m
    · rw [cutV_eq e]; exact ri.tick i j hi e
    · unfold cutV; rw [if_neg e]; omega
end
section
variable {full : Prop} {G : PG} {n : Nat} {s : WS} {k : Nat} {fl : Bool} {q : Nat -> List Nat} {o : Nat -> Nat} {v : Key -> Int}
theorem PDr.hd (I : PDr full G.L G.m n s k fl q o v) {i : Nat} (hi : i < G.L) : (o i < (q i).length /\ ∃ w, (q i)[o i]? = some w /\ hdF G v o 0 i = (true, (o i : Int), (w : Int))) \/ (o i = (q i).length /\ (hdF G v o 0 i).1 = false) := by
  have h1 := I.le i hi
  unfold hdF
  by_cases e : o i < (q i).length
  · left
    obtain ⟨w, hw⟩ : ∃ w, (q i)[o i]? = some w := ⟨_, List.getElem?_eq_getElem e⟩
    obtain ⟨a1, a2, -⟩ := I.at_ i (o i) w hi (Nat.le_refl _) hw
    exact ⟨e, w, hw, by rw [if_pos ⟨Nat.zero_le _, hi, a1⟩, a2]⟩
  · right
    have e2 : o i = (q i).length := by omega
    refine ⟨e2, ?_⟩
    rw [if_neg fun z => ?_]
    have := I.no i hi
    rw [e2] at z
    exact this z.2.2
theorem PDr.out8 {i : Nat} (hi : G.L <= i) : (hdF G v o 0 i).1 = false := by
  unfold hdF; rw [if_neg (by omega)]
theorem PDr.nil (I : PDr full G.L G.m n s k fl q o v) (hL : G.L <= 8) (hb : bst (hdF G v o 0) 8 = none) (hf : full) : s.there = 0 := by
  have e : ∀ i, i < G.L -> o i = (q i).length := fun i hi => by
    rcases I.hd hi with ⟨_, w, _, h⟩ | ⟨h, _⟩
    · exfalso
      cases hx : bst (hdF G v o 0) 8 with
      | some b => rw [hb] at hx; cases hx
      | none =>
        have : ∀ m, m <= 8 -> bst (hdF G v o 0) m = none -> ∀ i, i < m -> (hdF G v o 0 i).1 = false := by
          intro m
          induction m with
          | zero => intro _ _ i hi; omega
          | succ m ih =>
            intro hm hn i hi
            unfold bst at hn
            split at hn
            · cases hn
            · rename_i hc2
              have ih' := ih (by omega) hn
              by_cases e : i = m
              · subst e
                rcases Bool.eq_false_or_eq_true (hdF G v o 0 i).1 with z | z
                · exact absurd ⟨z, fun b hb => by rw [hn] at hb; cases hb⟩ hc2
                · exact z
              · exact ih' i (by omega)
        have := this 8 (Nat.le_refl _) hb i (by omega)
        rw [h] at this; cases this
    · exact h
  rw [I.li.thr]
  have : unt (s.ts.take k) = 0 := by
    unfold unt
    rw [List.countP_eq_zero]
    intro x hx
    obtain ⟨j, hj, rfl⟩ := List.mem_iff_getElem.1 hx
    rw [List.length_take] at hj
    obtain ⟨i, p, hi, hp, hz⟩ := I.li.ta hf (j + 1) (by omega) (by omega)
    have hlt := get_lt hp
    have := hz (by rw [e i hi]; exact hlt) (s.ts[j]'(by omega)) (by rw [Nat.add_sub_cancel]; exact List.getElem?_eq_getElem _)
    rw [List.getElem_take, this]; decide
  rw [this]; rfl
theorem PDr.one (I : PDr full G.L G.m n s k fl q o v) (hL : G.L <= 8) (m0 : 0 < G.m) {b : Nat} (hb : bst (hdF G v o 0) 8 = some b) :
    ∃ w, b < G.L /\ v (kSlot b (o b % G.m)) = (w : Int) /\ wok G.L s (2, .tk w b true) /\ PDr full G.L G.m n (wstep s (2, .tk w b true)) k fl q (ut o b (o b + 1)) (takeV G.m v b (o b)) := by
  obtain ⟨hb8, hbt⟩ := bst_lt hb
  have hbL : b < G.L := by
    rcases Nat.lt_or_ge b G.L with z | z
    · exact z
    · rw [PDr.out8 z] at hbt; cases hbt
  obtain ⟨hlt, w, hw, hhd⟩ : o b < (q b).length /\ ∃ w, (q b)[o b]? = some w /\ hdF G v o 0 b = (true, (o b : Int), (w : Int)) := by
    rcases I.hd hbL with z | ⟨_, z⟩
    · exact z
    · rw [z] at hbt; cases hbt
  obtain ⟨hok, li⟩ := I.li.take (j := 2) hbL hw I.k4 fun i p u hi hpi hu hne => by
    right
    rcases I.hd hi with ⟨_, w', h1, h2⟩ | ⟨h1, _⟩
    · have h3 := bst_best hb i (by omega) (by rw [h2])
      rw [hhd, h2] at h3
      dsimp only at h3
      have h4 : w' <= u := by
        rcases Nat.eq_or_lt_of_le hpi with e2 | e2
        · rw [<- e2, h1] at hu; injection hu with hu; omega
        · exact Nat.le_of_lt (I.li.srt i _ p _ _ hi h1 hu e2)
      unfold dD
      omega
    · have := get_lt hu
      omega
  refine ⟨w, hbL, (I.at_ b _ w hbL (Nat.le_refl _) hw).2.2, hok, ⟨li, I.n, I.k4, fun i hi => ?_, fun i hi => ?_, fun i p u hi hp hu => ?_, fun i hi => ?_, fun i j hi => ?_⟩⟩
  · unfold takeV
    rw [ut_ne _ _ (by simp)]
    by_cases e : i = b
    · subst e; rw [ut_same, ut_same]; omega
    · rw [ut_ne _ _ (kne (.inl (by omega))), ut_ne _ _ e]; exact I.out i hi
  · have := I.le i hi
    by_cases e : i = b
    · subst e; rw [ut_same]; omega
    · rw [ut_ne _ _ e]; exact this
  · have hp0 : o i <= p := by
      by_cases e : i = b
      · subst e; rw [ut_same] at hp; omega
      · rw [ut_ne _ _ e] at hp; exact hp
    have hne : ((7, i + 1, p % G.m) : Key) ≠ (7, b + 1, o b % G.m) := by
      by_cases e : i = b
      · subst e
        rw [ut_same] at hp
        have := get_lt hu
        have := I.le i hi
        exact kne (.inr (.inr (mod_ne (t := o i) (by omega) (by omega) (by omega) (Nat.le_refl _) (by omega))))
      · exact kne (.inl (by omega))
    unfold takeV
    rw [ut_ne _ _ hne, ut_ne _ _ (by simp), ut_ne _ _ (by simp), ut_ne _ _ (by simp), ut_ne _ _ (by simp), ut_ne _ _ (by simp)]
    exact I.at_ i p u hi hp0 hu
  · unfold takeV
    by_cases e : ((7, i + 1, (q i).length % G.m) : Key) = (7, b + 1, o b % G.m)
    · have e' := e
      injection e with _ e
      injection e with e1 e2
      have : i = b := by omega
      subst this
      rw [show kTurn i ((q i).length % G.m) = kTurn i (o i % G.m) from e', ut_same]
      have h1 := I.le i hi
      rcases Nat.lt_or_ge (q i).length (o i + G.m) with z | z
      · exact absurd e2 (mod_ne (t := o i) (by omega) (by omega) z (Nat.le_refl _) (by omega))
      · omega
    · rw [ut_ne _ _ e, ut_ne _ _ (by simp)]; exact I.no i hi
  · unfold takeV
    rw [ut_ne _ _ (by simp), ut_ne _ _ (by simp)]; exact I.tick i j hi
end
end
section
open Go Go.TJ Go.Conc Go.Proofs
section
variable {Γ : Type} {main : Bool} {S : Sit Γ} {δ : Ix Γ} {h : Hp} {G : PG}
set_option maxRecDepth 8000 in
set_option maxHeartbeats 1000000 in
theorem pat_T {i e : Nat} {p : Int} (r : PriH G h) (hi : i < G.L) (hm : G.m = 2 ^ e) (he : e <= 12) (hp : 0 <= p /\ p <= 70000) :
    CallW Try.prog main S 42 #[ptr (G.B (kLev i)), .int .i64 p] h δ (Ret (Det (.pointer (some ⟨G.B (kPls i), 0 + (pj G.m p) * 3, none⟩)) h δ)) := by
  obtain ⟨P, rfl⟩ : ∃ P : Nat, p = P := ⟨p.toNat, by omega⟩
  have hm0 : 0 < G.m := by rw [hm]; exact Nat.two_pow_pos e
  have hm1 : G.m <= 4096 := by have := Nat.pow_le_pow_right (n := 2) (by decide) he; omega
  have hlt : P % G.m < G.m := Nat.mod_lt _ hm0
  rw [pj_nat]
  refine CallW.start (n := 18) rfl rfl ?_
  (repeat (first | refine EK.seq ?_ | refine EK.region ?_ | refine ER.done ?_ | refine ER.assign rfl rfl rfl ?_))
  refine EK.regionAny (fun h' => h' = h) ?_
  have hZ : h = h := rfl
  have hc := r.ppls hi
  refine EA.tMove 0 rfl (by kernel_rfl) rfl rfl rfl rfl hZ ?_
  refine EA.tNil 1 rfl (by kernel_rfl) rfl rfl rfl rfl hZ ?_
  refine EA.tField 2 rfl (by kernel_rfl) rfl rfl rfl rfl hZ ?_
  refine EA.tLoad 3 rfl (by kernel_rfl) rfl rfl rfl rfl (fun _ hz => hz ▸ hc) hZ ?_
  refine EA.tMove 4 rfl (by kernel_rfl) rfl rfl rfl rfl hZ ?_
  refine EA.tMove 5 rfl (by kernel_rfl) rfl rfl rfl rfl hZ ?_
  refine EA.tNil 6 rfl (by kernel_rfl) rfl rfl rfl rfl hZ ?_
  refine EA.tField 7 rfl (by kernel_rfl) rfl rfl rfl rfl hZ ?_
  refine EA.tLoad 8 rfl (by kernel_rfl) rfl rfl rfl rfl (fun _ hz => hz ▸ hc) hZ ?_
  refine EA.tLen1 9 rfl (by kernel_rfl) rfl rfl rfl rfl hZ ?_
  refine EA.tSub (kd := .i64) 10 rfl (by kernel_rfl) rfl rfl rfl rfl rfl (i64_in (by omega) (by omega)) hZ ?_
  refine EA.tBinI (kd := .i64) (v := .int .i64 ((P % G.m : Nat) : Int)) 11 rfl (by kernel_rfl) rfl rfl rfl rfl rfl (by rw [binOp_bits (.inl rfl), mask hm (by omega) (by omega)]) hZ ?_
  refine EA.tIdxS 12 rfl (by kernel_rfl) rfl rfl rfl rfl rfl (by omega) (by omega) hZ ?_
  refine EA.tAssign 13 rfl (by kernel_rfl) rfl rfl rfl rfl hZ ?_
  refine EA.done (by kernel_rfl) ?_
  (repeat refine EK.ret ?_)
  exact EU.ret1 rfl rfl det
end
structure PriK (X : Us) (e : Nat) (G : PG) : Prop where
  cell : ∀ k, okP G.L G.m k -> isV k -> X.isC (G.B k)
  hm : G.m = 2 ^ e
  he : e <= 12
  hL1 : 1 <= G.L
  hL : G.L <= 8
theorem PriK.m0 {X : Us} {e : Nat} {G : PG} (D : PriK X e G) : 0 < G.m := by rw [D.hm]; exact Nat.two_pow_pos e
section
variable {X : Us} [HasE X] {A : Type} {P : Nat -> Pr A} {told : X.U -> Nat -> List A} {G : PG} {e : Nat} {i : Nat} {γ γ' : GG X} {u : X.U} {L : List (Nat × Obj)} {h : Hp} {t : Nat}
set_option maxRecDepth 8000 in
set_option maxHeartbeats 8000000 in
theorem claim_T (K : CodX X P told (JPr G) (PriH G)) (D : PriK X e G) {l : Nat} (hl : l < G.L) {v : Int} {k : Int -> Pr A} {f : Nat} (a : AtP X P told i γ u L h (putP G l v k f)) (hf : 65536 < f + (ownOf i (γ.p.acc i).log).length) (ht : t = γ.p.tb i) :
    CallW Try.prog false (SitT Try.prog (PX X) (i + 1)) 43 #[ptr (G.B (kLev l)), ptr t] h ⟨0, γ⟩ (RetP (fun w h' δ' => ∃ (γ' : GG X), δ' = ⟨0, γ'⟩ /\
      ((w = .tuple #[.int .i64 0, .bool false] /\ Nxt X P told i γ u L γ' h' (k 12)) \/ ∃ p, 0 <= p /\ p <= 70000 /\ w = .tuple #[.int .i64 p, .bool true] /\
        Nxt X P told i γ u L γ' h' (.step ⟨4, G.B kTk, 1, 0⟩ fun x => .step ⟨2, G.B (kTick l (pj G.m p)), x + 1, 0⟩ fun _ => .step ⟨2, G.B (kSlot l (pj G.m p)), v, 0⟩ fun _ => .step ⟨2, G.B (kTurn l (pj G.m p)), p + 1, 0⟩ fun _ => k 0))) (Halt X i γ.p)) := by
  subst ht
  have hm0 := D.m0
  refine CallW.start (n := 42) rfl rfl ?_
  (repeat (first | refine EK.seq ?_ | refine EK.region ?_ | refine ER.done ?_ | refine EK.block ?_ | refine ER.assign rfl rfl rfl ?_))
  refine EK.loopInv (fun _ : GG X × X.U × Nat => [(0, ptr (G.B (kLev l))), (1, ptr (γ.p.tb i))]) (fun q h' δ' => δ' = ⟨0, q.1⟩ /\ AtP X P told i q.1 q.2.1 L h' (putP G l v k q.2.2) /\ Along X i γ.p q.1.p /\ X.V i u q.2.1 /\ (ownOf i (γ.p.acc i).log).length <= (ownOf i (q.1.p.acc i).log).length /\ 65536 < q.2.2 + (ownOf i (q.1.p.acc i).log).length) (fun q => q.2.2) (γ, u, f) ⟨rfl, rfl, trivial⟩ ⟨rfl, a, Along.refl _ _, K.ok.vrefl _ _, Nat.le_refl _, hf⟩ ?_
  clear a hf
  rintro ⟨γ1, u1, f1⟩ h1 δ1 ⟨hδ, a, al, hV, hle, hf1⟩ again
  dsimp only at a al hV hle hf1 again hδ ⊢
  subst hδ
  have hl1 := a.len
  obtain ⟨f2, rfl⟩ : ∃ f2, f1 = f2 + 1 := ⟨f1 - 1, by omega⟩
  have s1 := K.mem _ _ a.thr.I
  have c1 := s1.pin hl
  (repeat (first | refine EK.seq ?_ | refine EK.region ?_ | refine EK.block ?_ | refine ER.move rfl rfl rfl ?_ | refine ER.nilCheck rfl rfl rfl ?_ | refine ER.fieldAddr rfl rfl rfl ?_ | refine ER.load1 rfl rfl rfl (by assumption) ?_))
  refine ER.callP rfl rfl rfl rfl rfl (loadC K a (D.cell (kIn l) hl (vv (by omega))) al.tb.symm) (fun _ _ _ y => y.along al) ?_
  rintro _ hh δ3 ⟨γ3, rfl, rfl, nx, s3, j3, l3⟩
  have hp := j3.bnd l3 (k := kIn l) hl (.inr (.inl rfl))
  generalize γ3.p.val (G.B (kIn l)) = p at nx hp ⊢
  have hlt := pj_lt hm0 p
  clear c1 s1
  have al3 := al.trans nx.al
  (repeat (first | refine EK.seq ?_ | refine EK.region ?_ | refine ER.done ?_ | refine ER.move rfl rfl rfl ?_ | refine ER.assign rfl rfl rfl ?_))
  refine ER.callD rfl rfl rfl rfl rfl (pat_T s3 hl D.hm D.he hp) ?_
  (repeat (first | refine ER.nilCheck rfl rfl rfl ?_ | refine ER.fieldAddr rfl rfl rfl ?_))
  refine ER.load1 rfl rfl rfl (s3.pplace (t := 0) hl hlt (by omega)) ?_
  (repeat refine ER.move rfl rfl rfl ?_)
  refine ER.callP rfl rfl rfl rfl rfl (loadC K nx.at_ (D.cell (kTurn l (pj G.m p)) ⟨hl, hlt⟩ (vv (by omega))) al3.tb.symm) (fun _ _ _ y => y.along al3) ?_
  rintro _ hh δ3 ⟨γ4, rfl, rfl, nx3, s4, j4, l4⟩
  replace nx := nx.trans K.ok nx3
  clear nx3 j3 l3 s3 al3
  generalize γ4.p.val (G.B (7 + 0, l + 1, pj G.m p)) = tn at nx ⊢
  have al4 := al.trans nx.al
  have hle4 := nx.len
  (repeat refine ER.move rfl rfl rfl ?_)
  refine ER.sub' (r := IntKind.i64.wrap (tn - p)) rfl rfl rfl rfl rfl ?_
  by_cases h0 : IntKind.i64.wrap (tn - p) < 0
  · rw [if_pos h0] at nx
    (repeat (first | refine EK.seq ?_ | refine EK.region ?_ | refine ER.done ?_ | refine EK.block ?_ | refine ER.move rfl rfl rfl ?_ | refine ER.assign rfl rfl rfl ?_ | refine ER.cmpT rfl rfl rfl rfl rfl (by first | (dsimp only [cmpP]; omega) | exact rfl | exact Int.le_refl _) ?_ | refine EK.condT rfl ?_ | refine EK.ret ?_))
    exact EU.ret2 rfl rfl rfl ⟨γ4, rfl, .inl ⟨rfl, al4, nx.at_, K.ok.vtrans _ _ _ _ hV nx.V, Nat.lt_of_le_of_lt hle nx.len⟩⟩
  · rw [if_neg h0] at nx
    by_cases h2 : IntKind.i64.wrap (tn - p) = 0
    · rw [if_pos h2] at nx
      have c1 := s4.pin hl
      rw [h2]
      (repeat (first | refine EK.seq ?_ | refine EK.region ?_ | refine ER.done ?_ | refine EK.block ?_ | refine ER.move rfl rfl rfl ?_ | refine ER.assign rfl rfl rfl ?_ | refine ER.nilCheck rfl rfl rfl ?_ | refine ER.fieldAddr rfl rfl rfl ?_ | refine ER.cmpT rfl rfl rfl rfl rfl (by first | (dsimp only [cmpP]; omega) | exact rfl | exact Int.le_refl _) ?_ | refine ER.cmpF rfl rfl rfl rfl rfl (by first | (dsimp only [cmpP]; omega) | exact rfl | exact Int.le_refl _) ?_ | refine ER.add (kd := .i64) rfl rfl rfl rfl (i64_in (by omega) (by omega)) ?_ | refine EK.condF rfl ?_ | refine ER.load1 rfl rfl rfl (by assumption) ?_))
      refine ER.callP rfl rfl rfl rfl rfl (casC K nx.at_ (D.cell (kIn l) hl (vv (by omega))) al4.tb.symm) (fun _ _ _ y => y.along al4) ?_
      rintro _ hh δ3 ⟨γ5, rfl, rfl, nx3, s5, j5, l5⟩
      replace nx := nx.trans K.ok nx3
      clear nx3 c1
      have al5 := al.trans nx.al
      have hle5 := nx.len
      by_cases hw : γ5.p.val (G.B (kIn l)) = p
      · rw [if_pos hw] at nx
        rw [decide_eq_true hw]
        (repeat (first | refine EK.seq ?_ | refine EK.region ?_ | refine ER.done ?_ | refine ER.move rfl rfl rfl ?_ | refine ER.assign rfl rfl rfl ?_ | refine ER.pickT rfl rfl rfl rfl ?_ | refine EK.condT rfl ?_ | refine EK.ret ?_))
        exact EU.ret2 rfl rfl rfl ⟨γ5, rfl, .inr ⟨p, hp.1, hp.2, rfl, al5, nx.at_, K.ok.vtrans _ _ _ _ hV nx.V, Nat.lt_of_le_of_lt hle nx.len⟩⟩
      · rw [if_neg hw] at nx
        rw [decide_eq_false hw]
        (repeat (first | refine ER.done ?_ | refine EK.skip ?_ | refine EK.inBlock ?_ | refine ER.assign rfl rfl rfl ?_ | refine ER.pickT rfl rfl rfl rfl ?_ | refine EK.condF rfl ?_))
        exact EK.back (again (γ5, γ5.p.u, f2) _ _ (by dsimp only; omega) ⟨rfl, nx.at_, al5, K.ok.vtrans _ _ _ _ hV nx.V, by dsimp only; omega, by dsimp only; omega⟩) ⟨rfl, rfl, trivial⟩
    · rw [if_neg h2] at nx
      generalize IntKind.i64.wrap (tn - p) = dd at h0 h2 ⊢
      (repeat (first | refine EK.seq ?_ | refine EK.region ?_ | refine ER.done ?_ | refine EK.skip ?_ | refine EK.block ?_ | refine EK.inBlock ?_ | refine ER.move rfl rfl rfl ?_ | refine ER.assign rfl rfl rfl ?_ | refine ER.no rfl rfl ?_ | refine ER.pickF rfl rfl rfl rfl ?_ | refine ER.cmpF rfl rfl rfl rfl rfl (by first | (dsimp only [cmpP]; omega) | exact rfl | exact Int.le_refl _) ?_ | refine EK.condF rfl ?_))
      exact EK.back (again (γ4, γ4.p.u, f2) _ _ (by dsimp only; omega) ⟨rfl, nx.at_, al4, K.ok.vtrans _ _ _ _ hV nx.V, by dsimp only; omega, by dsimp only; omega⟩) ⟨rfl, rfl, trivial⟩
set_option maxRecDepth 8000 in
set_option maxHeartbeats 8000000 in
theorem put_T (K : CodX X P told (JPr G) (PriH G)) (D : PriK X e G) {l : Nat} (hl : l < G.L) {v : Int} {k : Int -> Pr A} {f : Nat} (a : AtP X P told i γ u L h (putP G l v k f)) (hf : 65536 < f + (ownOf i (γ.p.acc i).log).length) (ht : t = γ.p.tb i) :
    CallW Try.prog false (SitT Try.prog (PX X) (i + 1)) 19 #[ptr (G.B kTop), ptr t, .int .i64 l, .int .i64 v] h ⟨0, γ⟩ (RetP (fun w h' δ' => ∃ (γ' : GG X) (e : Int), δ' = ⟨0, γ'⟩ /\ w = .int .i64 e /\ Nxt X P told i γ u L γ' h' (k e)) (Halt X i γ.p)) := by
  subst ht
  have hm0 := D.m0
  have s0 := K.mem _ _ a.thr.I
  have c1 := s0.ptk
  have c2 := s0.plv
  refine CallW.start (n := 87) rfl rfl ?_
  (repeat (first | refine EK.seq ?_ | refine EK.region ?_ | refine ER.done ?_ | refine EK.skip ?_ | refine ER.move rfl rfl rfl ?_ | refine ER.assign rfl rfl rfl ?_ | refine ER.nilCheck rfl rfl rfl ?_ | refine ER.fieldAddr rfl rfl rfl ?_ | refine ER.eqV rfl rfl rfl rfl rfl ?_ | refine ER.pickF rfl rfl rfl rfl ?_ | refine ER.cmpF rfl rfl rfl rfl rfl (by first | (dsimp only [cmpP]; omega) | exact rfl | exact Int.le_refl _) ?_ | refine ER.len1 rfl rfl rfl ?_ | refine ER.indexSl rfl rfl rfl rfl (by omega) (by omega) ?_ | refine EK.condF rfl ?_ | refine ER.load1 rfl rfl rfl (by assumption) ?_))
  refine ER.load1 rfl rfl rfl (s0.plev hl) ?_
  refine ER.makeF rfl rfl rfl rfl rfl rfl ?_
  (repeat (first | refine EK.seq ?_ | refine EK.region ?_ | refine ER.done ?_ | refine ER.move rfl rfl rfl ?_ | refine ER.assign rfl rfl rfl ?_))
  refine ER.callP rfl rfl rfl rfl rfl (claim_T K D hl a hf rfl) (fun _ _ _ y => y) ?_
  clear a hf s0 c1 c2
  rintro _ h1 δ1 ⟨γ1, rfl, ⟨rfl, nx⟩ | ⟨p, p0, p1, rfl, nx⟩⟩
  · (repeat (first | refine EK.seq ?_ | refine EK.region ?_ | refine ER.done ?_ | refine ER.move rfl rfl rfl ?_ | refine ER.assign rfl rfl rfl ?_ | refine ER.notB rfl rfl rfl ?_ | refine ER.extract rfl rfl rfl rfl ?_ | refine EK.condT rfl ?_ | refine EK.ret ?_))
    exact EU.ret1 rfl rfl ⟨γ1, 12, rfl, rfl, nx⟩
  · have s1 := K.mem _ _ nx.at_.thr.I
    have c1 := s1.ptk
    have c2 := s1.plv
    have hlt := pj_lt hm0 p
    (repeat (first | refine EK.seq ?_ | refine EK.region ?_ | refine ER.done ?_ | refine EK.skip ?_ | refine ER.move rfl rfl rfl ?_ | refine ER.assign rfl rfl rfl ?_ | refine ER.nilCheck rfl rfl rfl ?_ | refine ER.fieldAddr rfl rfl rfl ?_ | refine ER.notB rfl rfl rfl ?_ | refine ER.extract rfl rfl rfl rfl ?_ | refine ER.indexSl rfl rfl rfl rfl (by omega) (by omega) ?_ | refine EK.condF rfl ?_ | refine ER.load1 rfl rfl rfl (by assumption) ?_))
    refine ER.load1 rfl rfl rfl (s1.plev hl) ?_
    (repeat refine ER.move rfl rfl rfl ?_)
    refine ER.callD rfl rfl rfl rfl rfl (pat_T s1 hl D.hm D.he ⟨p0, p1⟩) ?_
    (repeat (first | refine EK.seq ?_ | refine EK.region ?_ | refine ER.done ?_ | refine ER.move rfl rfl rfl ?_ | refine ER.assign rfl rfl rfl ?_ | refine ER.nilCheck rfl rfl rfl ?_ | refine ER.fieldAddr rfl rfl rfl ?_ | refine ER.load1 rfl rfl rfl (by assumption) ?_))
    refine ER.callP rfl rfl rfl rfl rfl (addC K nx.at_ (D.cell kTk trivial (vv (by omega))) nx.al.tb.symm) (fun _ _ _ y => y.along nx.al) ?_
    rintro _ hh δ3 ⟨γ3, rfl, rfl, nx3, s3, j3, l3⟩
    replace nx := nx.trans K.ok nx3
    clear nx3
    have hx := j3.bnd l3 (k := kTk) trivial (.inl rfl)
    have hx1 := j3.tk.2
    generalize γ3.p.val (G.B kTk) = x at nx hx hx1 ⊢
    have ex : IntKind.i64.wrap (x + 1) = x + 1 := i64_in (by omega) (by omega)
    rw [ex]
    clear c1 c2 s1
    (repeat (first | refine EK.seq ?_ | refine EK.region ?_ | refine ER.done ?_ | refine ER.move rfl rfl rfl ?_ | refine ER.assign rfl rfl rfl ?_ | refine ER.nilCheck rfl rfl rfl ?_ | refine ER.fieldAddr rfl rfl rfl ?_))
    refine ER.load1 rfl rfl rfl (s3.pplace (t := 1) hl hlt (by omega)) ?_
    (repeat refine ER.move rfl rfl rfl ?_)
    refine ER.callP rfl rfl rfl rfl rfl (storeC K nx.at_ (D.cell (kTick l (pj G.m p)) ⟨hl, hlt⟩ (vv (by omega))) nx.al.tb.symm) (fun _ _ _ y => y.along nx.al) ?_
    rintro _ hh δ3 ⟨γ3, rfl, rfl, nx3, s3, j3, l3⟩
    replace nx := nx.trans K.ok nx3
    clear nx3
    (repeat (first | refine EK.seq ?_ | refine EK.region ?_ | refine ER.done ?_ | refine ER.move rfl rfl rfl ?_ | refine ER.nilCheck rfl rfl rfl ?_ | refine ER.fieldAddr rfl rfl rfl ?_))
    refine ER.load1 rfl rfl rfl (s3.pplace (t := 2) hl hlt (by omega)) ?_
    (repeat refine ER.move rfl rfl rfl ?_)
    refine ER.callP rfl rfl rfl rfl rfl (storeC K nx.at_ (D.cell (kSlot l (pj G.m p)) ⟨hl, hlt⟩ (vv (by omega))) nx.al.tb.symm) (fun _ _ _ y => y.along nx.al) ?_
    rintro _ hh δ3 ⟨γ3, rfl, rfl, nx3, s3, j3, l3⟩
    replace nx := nx.trans K.ok nx3
    clear nx3
    (repeat (first | refine EK.seq ?_ | refine EK.region ?_ | refine ER.done ?_ | refine ER.move rfl rfl rfl ?_ | refine ER.nilCheck rfl rfl rfl ?_ | refine ER.fieldAddr rfl rfl rfl ?_))
    refine ER.load1 rfl rfl rfl (s3.pplace (t := 0) hl hlt (by omega)) ?_
    (repeat (first | refine ER.move rfl rfl rfl ?_ | refine ER.add (kd := .i64) rfl rfl rfl rfl (i64_in (by omega) (by omega)) ?_))
    refine ER.callP rfl rfl rfl rfl rfl (storeC K nx.at_ (D.cell (kTurn l (pj G.m p)) ⟨hl, hlt⟩ (vv (by omega))) nx.al.tb.symm) (fun _ _ _ y => y.along nx.al) ?_
    rintro _ hh δ3 ⟨γ3, rfl, rfl, nx3, s3, j3, l3⟩
    replace nx := nx.trans K.ok nx3
    clear nx3
    (repeat (first | refine EK.seq ?_ | refine EK.region ?_ | refine ER.done ?_ | refine ER.assign rfl rfl rfl ?_ | refine EK.ret ?_))
    exact EU.ret1 rfl rfl ⟨γ3, 0, rfl, rfl, nx⟩
end
end
section
open Go Go.TJ Go.Conc Go.Proofs
theorem heads_set {h : Hp} {y : Nat} {H : Nat -> Hd} (hy : h[y]? = some (headsO H)) {i : Nat} (hi : i < 8) (x : Hd) : hsetRow h y (0 + i * 3) (hrowH x) = h.setIfInBounds y (headsO (up H i x)) := by
  unfold headsO at hy ⊢
  rw [hsetRow_block (hrowH x) _ _ _ hy (by rw [cellsH_len]; show 0 + i * 3 + 3 <= 24; omega), Nat.zero_add]
  rw [<- cellsH_set H hi x]
  rfl
def Sml (H : Nat -> Hd) : Prop := ∀ q, 0 <= (H q).2.1 /\ (H q).2.1 <= 70000 /\ 0 <= (H q).2.2 /\ (H q).2.2 <= 70000
theorem Sml.up {H : Nat -> Hd} (s : Sml H) {n : Nat} {p x : Int} (hp : 0 <= p /\ p <= 70000) (hx : 0 <= x /\ x <= 70000) : Sml (Go.TJ.up H n (true, p, x)) := fun q => by
  by_cases e : q = n
  · subst e; rw [up_same]; exact ⟨hp.1, hp.2, hx.1, hx.2⟩
  · rw [up_ne _ _ e]; exact s q
theorem sml0 : Sml H0 := fun q => ⟨by show (0 : Int) <= 0; omega, by show (0 : Int) <= 70000; omega, by show (0 : Int) <= 0; omega, by show (0 : Int) <= 70000; omega⟩
section
variable {X : Us} [HasE X] {A : Type} {P : Nat -> Pr A} {told : X.U -> Nat -> List A} {G : PG} {e : Nat} {i : Nat} {γ γ' : GG X} {u : X.U} {L : List (Nat × Obj)} {h : Hp} {t : Nat}
structure Lkd (X : Us) [HasE X] {A : Type} (P : Nat -> Pr A) (told : X.U -> Nat -> List A) (G : PG) (Kc : (Nat -> Hd) -> Pr A) (i : Nat) (γ : GG X) (u : X.U) (L : List (Nat × Obj)) (γ' : GG X) (u' : X.U) (H : Nat -> Hd) (h' : Hp) : Prop where
  al : Along X i γ.p γ'.p
  at_ : AtP X P told i γ' u' L h' (Kc H)
  V : X.V i u u'
  len : (ownOf i (γ.p.acc i).log).length <= (ownOf i (γ'.p.acc i).log).length
  sml : Sml H
  low : ∀ b, bst H 8 = some b -> b < G.L
set_option maxRecDepth 8000 in
set_option maxHeartbeats 16000000 in
theorem looks_T (K : CodX X P told (JPr G) (PriH G)) (D : PriK X e G) {Kc : (Nat -> Hd) -> Pr A} (a : AtP X P told i γ u L h (looksP G Kc G.L H0)) (ht : t = γ.p.tb i) :
    CallW Try.prog false (SitT Try.prog (PX X) (i + 1)) 40 #[ptr (G.B kTop), ptr t] h ⟨0, γ⟩ (RetP (fun w h' δ' => ∃ (γ' : GG X) (u' : X.U) (H : Nat -> Hd), δ' = ⟨0, γ'⟩ /\ w = .tuple #[.agg (cellsH H).toArray, .int .i64 (bv (bst H 8))] /\ Lkd X P told G Kc i γ u L γ' u' H h') (Halt X i γ.p)) := by
  subst ht
  have hm0 := D.m0
  have hL8 := D.hL
  obtain ⟨y, hy⟩ : ∃ y, y = h.size := ⟨_, rfl⟩
  have T1 := a.thr.alloc K.ok (headsO H0)
  have s1 := K.mem _ _ T1.I
  have hny : ∀ q, q ∈ L -> q.1 ≠ y := fun q hq => by have := a.thr.lts q hq; omega
  refine CallW.start (n := 88) rfl rfl ?_
  (repeat (first | refine EK.seq ?_ | refine EK.region ?_ | refine ER.done ?_ | refine ER.move rfl rfl rfl ?_ | refine ER.assign rfl rfl rfl ?_ | refine ER.nilCheck rfl rfl rfl ?_ | refine ER.fieldAddr rfl rfl rfl ?_ | refine ER.allocA rfl rfl ?_))
  change ER _ _ _ _ _ _ _ _ _ _ (h.push (headsO H0)) _ _
  refine ER.load1 rfl rfl rfl s1.plv ?_
  (repeat (first | refine ER.done ?_ | refine EK.block ?_ | refine ER.assign rfl rfl rfl ?_ | refine ER.sub' (kd := .i64) rfl rfl rfl rfl (i64_in (by omega) (by omega)) ?_ | refine ER.len1 rfl rfl rfl ?_))
  rw [<- hy]
  refine EK.loopInv (fun s : Nat × GG X × X.U × (Nat -> Hd) => [(6, .int .i64 ((s.1 : Int) - 1)), (0, ptr (G.B kTop)), (1, ptr (γ.p.tb i)), (4, ptr y), (5, .int .i64 0)]) (fun s h' δ' => δ' = ⟨0, s.2.1⟩ /\ s.1 <= G.L /\ AtP X P told i s.2.1 s.2.2.1 ((y, headsO s.2.2.2) :: L) h' (looksP G Kc s.1 s.2.2.2) /\ Along X i γ.p s.2.1.p /\ X.V i u s.2.2.1 /\ (ownOf i (γ.p.acc i).log).length <= (ownOf i (s.2.1.p.acc i).log).length /\ Sml s.2.2.2 /\ ∀ q, G.L <= q -> (s.2.2.2 q).1 = false) (fun s => s.1) (G.L, γ, u, H0) ⟨rfl, rfl, rfl, rfl, rfl, trivial⟩ ⟨rfl, Nat.le_refl _, ⟨by rw [hy]; exact T1, a.res, a.ext⟩, Along.refl _ _, K.ok.vrefl _ _, Nat.le_refl _, sml0, fun q _ => rfl⟩ ?_
  clear s1 T1 hy a
  rintro ⟨n, γ1, u1, H⟩ h1 δ1 ⟨hδ, hn, a, al, hV, hle, hs, hno⟩ again
  dsimp only at hδ hn a al hV hle hs hno again ⊢
  subst hδ
  rcases n with _ | n
  · have hb1 := (a.thr.privs.1 (y, headsO H) List.mem_cons_self).1
    have hsz := lt_of_get hb1
    clear again hn
    have ff : ∀ b o, h1.size <= b -> ¬ (SitT Try.prog (PX X) (i + 1)).still γ1 ⟨b, o, none⟩ := fun b o hb => a.thr.free (.inr (.inr (.inr hb)))
    have fy : ∀ o, ¬ (SitT Try.prog (PX X) (i + 1)).still γ1 ⟨y, o, none⟩ := fun o => a.thr.free (.inr (.inr (.inl ⟨_, List.mem_cons_self, rfl⟩)))
    (repeat (first | refine EK.seq ?_ | refine EK.region ?_ | refine ER.done ?_ | refine EK.block ?_ | refine ER.move rfl rfl rfl ?_ | refine ER.assign rfl rfl rfl ?_ | refine ER.nilCheck rfl rfl rfl ?_ | refine ER.cmpF rfl rfl rfl rfl rfl (by first | (dsimp only [cmpP]; omega) | exact rfl | exact Int.le_refl _) ?_ | refine EK.condF rfl ?_ | refine EK.exit rfl ?_))
    refine EK.loopInv (fun n : Nat => [(58, .int .i64 n), (5, .int .i64 (bv (bst H n))), (0, ptr (G.B kTop)), (1, ptr (γ.p.tb i)), (4, ptr y)]) (fun n h' δ' => h'[y]? = some (headsO H) /\ Upd (fun _ => False) h1 h' /\ δ' = ⟨0, γ1⟩ /\ n <= 8) (fun n => 8 - n) 0 ⟨rfl, rfl, rfl, rfl, rfl, trivial⟩ ⟨hb1, Upd.refl _ _, rfl, by omega⟩ ?_
    clear hb1
    rintro n h2 δ2 ⟨hb2, u2, rfl, hn8⟩ again
    have hsz2 := u2.size
    by_cases hn : n < 8
    · (repeat (first | refine EK.seq ?_ | refine EK.region ?_ | refine ER.done ?_ | refine EK.skip ?_ | refine EK.block ?_ | refine ER.cmpT rfl rfl rfl rfl rfl (by first | (dsimp only [cmpP]; omega) | exact rfl | exact Int.le_refl _) ?_ | refine EK.condT rfl ?_))
      refine EK.regionAny (fun h' => hrow h' y (0 + n * 3) (hrowH (H n))) ?_
      have hZ := heads_row hb2 hn
      refine EA.tMove 0 rfl (by kernel_rfl) rfl rfl rfl rfl hZ ?_
      refine EA.tNil 1 rfl (by kernel_rfl) rfl rfl rfl rfl hZ ?_
      refine EA.tIdxA 2 rfl (by kernel_rfl) rfl rfl rfl rfl rfl (by omega) (by omega) hZ ?_
      refine EA.tLoadN (vs := hrowH (H n)) 3 rfl (by kernel_rfl) rfl rfl rfl rfl rfl (fun _ hz => hz) hZ ?_
      have hZ : hrow (h2.push (.cells #[.bool false, .int .i64 0, .int .i64 0] 141)) y (0 + n * 3) (hrowH (H n)) := fun i w hw => hcell_push (hZ i w hw)
      refine EA.val (v := ptr h2.size) (h' := h2.push (.cells #[.bool false, .int .i64 0, .int .i64 0] 141)) 4 rfl (by kernel_rfl) rfl rfl rfl (fun ρ Q X hρ hq => sem_allocA hq) hZ ?_
      refine EA.tAssign 5 rfl (by kernel_rfl) rfl rfl rfl rfl hZ ?_
      have hrs : hsetRow (h2.push (.cells #[.bool false, .int .i64 0, .int .i64 0] 141)) h2.size 0 (hrowH (H n)) = h2.push (.cells (hrowH (H n)).toArray 141) := hsetRow_push (c := [.bool false, .int .i64 0, .int .i64 0]) rfl
      have hlth := lt_of_get hb2
      refine EA.unit 6 rfl (by kernel_rfl) rfl rfl (fun ρ Q X hρ hq => sem_storeN (hρ _ _ rfl) (hρ _ _ rfl) rfl (by simp [hrowH, OneCell]) (fun j hj => ⟨?_, hfroz_of (get_push_new _ _), ff _ _ hsz2⟩) hq) ?_ ?_
      · have hj3 : j < 3 := hj
        have hb := get_push_new h2 (.cells #[.bool false, .int .i64 0, .int .i64 0] 141 (0, 0))
        rcases (show j = 0 \/ j = 1 \/ j = 2 by omega) with rfl | rfl | rfl <;> exact ⟨_, hcell_of hb rfl⟩
      · rw [hrs]
        exact fun i w hw => hcell_push (heads_row hb2 hn i w hw)
      refine EA.done (by kernel_rfl) ?_
      rw [hrs]
      have hb3 := get_push (.cells (hrowH (H n)).toArray 141) hb2
      have hc3 := get_push_new h2 (.cells (hrowH (H n)).toArray 141)
      have u3 := u2.trans (Upd.push (T := fun _ => False) h2 (.cells (hrowH (H n)).toArray 141))
      generalize h2.push (.cells (hrowH (H n)).toArray 141) = h3 at hb3 hc3 u3 ⊢
      have c0 : hcell h3 ⟨h2.size, 0 + 0, none⟩ = some (.bool (H n).1) := hcell_of hc3 rfl
      have c2 : hcell h3 ⟨h2.size, 0 + 2, none⟩ = some (.int .i64 (H n).2.2) := hcell_of hc3 rfl
      clear hc3 hZ hb2 u2 hrs
      have hTn := hs n
      have fin : ∀ o : Option Nat, bst H (n + 1) = o -> EK Try.prog false (SitT Try.prog (PX X) (i + 1)) 40 88 _ [(58, .int .i64 ((n : Int) + 1)), (5, .int .i64 (bv o)), (0, ptr (G.B kTop)), (1, ptr (γ.p.tb i)), (4, ptr y)] [] h3 ⟨0, γ1⟩ _ := fun o ho => by
        subst ho
        exact EK.back (again (n + 1) _ _ (by omega) ⟨hb3, u3, rfl, by omega⟩) ⟨rfl, rfl, rfl, rfl, rfl, trivial⟩
      (repeat refine EK.seq ?_)
      refine EK.regionAny (fun h' => h' = h3) ?_
      have hZ : h3 = h3 := rfl
      refine EA.tField 0 rfl (by kernel_rfl) rfl rfl rfl rfl hZ ?_
      refine EA.tLoad 1 rfl (by kernel_rfl) rfl rfl rfl rfl (fun _ hz => hz ▸ c0) hZ ?_
      cases hthere : (H n).1
      · have hbn : bst H (n + 1) = bst H n := by
          show (if (H n).1 = true /\ _ then some n else bst H n) = _
          rw [if_neg (fun x => by rw [hthere] at x; cases x.1)]
        refine EA.tMove 2 rfl (by kernel_rfl) rfl rfl rfl rfl hZ ?_
        refine EA.takeNo 3 rfl (by kernel_rfl) rfl rfl rfl hZ ?_
        refine EA.takeNo 4 rfl (by kernel_rfl) rfl rfl rfl hZ ?_
        refine EA.takeNo 5 rfl (by kernel_rfl) rfl rfl rfl hZ ?_
        refine EA.takeNo 6 rfl (by kernel_rfl) rfl rfl rfl hZ ?_
        refine EA.takeNo 7 rfl (by kernel_rfl) rfl rfl rfl hZ ?_
        refine EA.takeNo 8 rfl (by kernel_rfl) rfl rfl rfl hZ ?_
        refine EA.takeNo 9 rfl (by kernel_rfl) rfl rfl rfl hZ ?_
        refine EA.takeNo 10 rfl (by kernel_rfl) rfl rfl rfl hZ ?_
        refine EA.takeNo 11 rfl (by kernel_rfl) rfl rfl rfl hZ ?_
        refine EA.takeNo 12 rfl (by kernel_rfl) rfl rfl rfl hZ ?_
        refine EA.takeNo 13 rfl (by kernel_rfl) rfl rfl rfl hZ ?_
        refine EA.takeNo 14 rfl (by kernel_rfl) rfl rfl rfl hZ ?_
        refine EA.takeNo 15 rfl (by kernel_rfl) rfl rfl rfl hZ ?_
        refine EA.takeNo 16 rfl (by kernel_rfl) rfl rfl rfl hZ ?_
        refine EA.takeNo 17 rfl (by kernel_rfl) rfl rfl rfl hZ ?_
        refine EA.takeNo 18 rfl (by kernel_rfl) rfl rfl rfl hZ ?_
        refine EA.tPickF 19 rfl (by kernel_rfl) rfl rfl rfl rfl rfl hZ ?_
        refine EA.done (by kernel_rfl) ?_
        (repeat (first | refine EK.region ?_ | refine ER.done ?_ | refine EK.skip ?_ | refine EK.inBlock ?_ | refine ER.move rfl rfl rfl ?_ | refine ER.add (kd := .i64) rfl rfl rfl rfl (i64_in (by omega) (by omega)) ?_ | refine EK.condF rfl ?_))
        exact EK.back (fin _ hbn) ⟨rfl, rfl, rfl, rfl, rfl, trivial⟩
      · cases hbe : bst H n with
        | none =>
          have hbn : bst H (n + 1) = some n := by
            show (if (H n).1 = true /\ _ then some n else bst H n) = _
            rw [if_pos ⟨hthere, fun b hb => by rw [hbe] at hb; cases hb⟩]
          have hm1 : (bv none : Int) = -1 := rfl
          refine EA.tMove 2 rfl (by kernel_rfl) rfl rfl rfl rfl hZ ?_
          refine EA.tMove 3 rfl (by kernel_rfl) rfl rfl rfl rfl hZ ?_
          refine EA.tCmpT 4 rfl (by kernel_rfl) rfl rfl rfl rfl rfl rfl (by first | (dsimp only [cmpP]; omega) | exact rfl | exact Int.le_refl _) hZ ?_
          refine EA.tMove 5 rfl (by kernel_rfl) rfl rfl rfl rfl hZ ?_
          refine EA.takeNo 6 rfl (by kernel_rfl) rfl rfl rfl hZ ?_
          refine EA.takeNo 7 rfl (by kernel_rfl) rfl rfl rfl hZ ?_
          refine EA.takeNo 8 rfl (by kernel_rfl) rfl rfl rfl hZ ?_
          refine EA.takeNo 9 rfl (by kernel_rfl) rfl rfl rfl hZ ?_
          refine EA.takeNo 10 rfl (by kernel_rfl) rfl rfl rfl hZ ?_
          refine EA.takeNo 11 rfl (by kernel_rfl) rfl rfl rfl hZ ?_
          refine EA.takeNo 12 rfl (by kernel_rfl) rfl rfl rfl hZ ?_
          refine EA.takeNo 13 rfl (by kernel_rfl) rfl rfl rfl hZ ?_
          refine EA.takeNo 14 rfl (by kernel_rfl) rfl rfl rfl hZ ?_
          refine EA.takeNo 15 rfl (by kernel_rfl) rfl rfl rfl hZ ?_
          refine EA.takeNo 16 rfl (by kernel_rfl) rfl rfl rfl hZ ?_
          refine EA.takeNo 17 rfl (by kernel_rfl) rfl rfl rfl hZ ?_
          refine EA.tPickT 18 rfl (by kernel_rfl) rfl rfl rfl rfl rfl hZ ?_
          refine EA.tPickT 19 rfl (by kernel_rfl) rfl rfl rfl rfl rfl hZ ?_
          refine EA.done (by kernel_rfl) ?_
          (repeat (first | refine EK.region ?_ | refine ER.done ?_ | refine EK.inBlock ?_ | refine ER.move rfl rfl rfl ?_ | refine ER.assign rfl rfl rfl ?_ | refine ER.add (kd := .i64) rfl rfl rfl rfl (i64_in (by omega) (by omega)) ?_ | refine EK.condT rfl ?_))
          exact EK.back (fin _ hbn) ⟨rfl, rfl, rfl, rfl, rfl, trivial⟩
        | some b =>
          have hbb : (bv (some b) : Int) = b := rfl
          have hb8 := (bst_lt hbe).1
          have hTb := hs b
          have c4 : hcell h3 ⟨y, 0 + b * 3 + 2, none⟩ = some (.int .i64 (H b).2.2) := heads_row hb3 (i := b) (by omega) 2 _ rfl
          rw [hbb]
          refine EA.tMove 2 rfl (by kernel_rfl) rfl rfl rfl rfl hZ ?_
          refine EA.tMove 3 rfl (by kernel_rfl) rfl rfl rfl rfl hZ ?_
          refine EA.tCmpF 4 rfl (by kernel_rfl) rfl rfl rfl rfl rfl rfl (by first | (dsimp only [cmpP]; omega) | exact rfl | exact Int.le_refl _) hZ ?_
          refine EA.tMove 5 rfl (by kernel_rfl) rfl rfl rfl rfl hZ ?_
          refine EA.tMove 6 rfl (by kernel_rfl) rfl rfl rfl rfl hZ ?_
          refine EA.tMove 7 rfl (by kernel_rfl) rfl rfl rfl rfl hZ ?_
          refine EA.tSub (kd := .i64) 8 rfl (by kernel_rfl) rfl rfl rfl rfl rfl (i64_in (by omega) (by omega)) hZ ?_
          refine EA.tMul (kd := .i64) 9 rfl (by kernel_rfl) rfl rfl rfl rfl rfl (i64_in (by omega) (by omega)) hZ ?_
          refine EA.tField 10 rfl (by kernel_rfl) rfl rfl rfl rfl hZ ?_
          refine EA.tLoad 11 rfl (by kernel_rfl) rfl rfl rfl rfl (fun _ hz => hz ▸ c2) hZ ?_
          refine EA.tMove 12 rfl (by kernel_rfl) rfl rfl rfl rfl hZ ?_
          refine EA.tIdxA 13 rfl (by kernel_rfl) rfl rfl rfl rfl rfl (by omega) (by omega) hZ ?_
          refine EA.tField 14 rfl (by kernel_rfl) rfl rfl rfl rfl hZ ?_
          refine EA.tLoad 15 rfl (by kernel_rfl) rfl rfl rfl rfl (fun _ hz => hz ▸ c4) hZ ?_
          refine EA.tSub (kd := .i64) 16 rfl (by kernel_rfl) rfl rfl rfl rfl rfl (i64_in (by omega) (by omega)) hZ ?_
          by_cases hgo : 64 * ((n : Int) - b) > (H n).2.2 - (H b).2.2
          · have hbn : bst H (n + 1) = some n := by
              show (if (H n).1 = true /\ _ then some n else bst H n) = _
              rw [if_pos ⟨hthere, fun b' hb' => by rw [hbe] at hb'; cases hb'; exact hgo⟩]
            refine EA.tCmpT 17 rfl (by kernel_rfl) rfl rfl rfl rfl rfl rfl (by first | (dsimp only [cmpP]; omega) | exact rfl | exact Int.le_refl _) hZ ?_
            refine EA.tPickF 18 rfl (by kernel_rfl) rfl rfl rfl rfl rfl hZ ?_
            refine EA.tPickT 19 rfl (by kernel_rfl) rfl rfl rfl rfl rfl hZ ?_
            refine EA.done (by kernel_rfl) ?_
            (repeat (first | refine EK.region ?_ | refine ER.done ?_ | refine EK.inBlock ?_ | refine ER.move rfl rfl rfl ?_ | refine ER.assign rfl rfl rfl ?_ | refine ER.add (kd := .i64) rfl rfl rfl rfl (i64_in (by omega) (by omega)) ?_ | refine EK.condT rfl ?_))
            exact EK.back (fin _ hbn) ⟨rfl, rfl, rfl, rfl, rfl, trivial⟩
          · have hbn : bst H (n + 1) = some b := by
              show (if (H n).1 = true /\ _ then some n else bst H n) = _
              rw [if_neg (fun x => hgo (x.2 b hbe)), hbe]
            refine EA.tCmpF 17 rfl (by kernel_rfl) rfl rfl rfl rfl rfl rfl (by first | (dsimp only [cmpP]; omega) | exact rfl | exact Int.le_refl _) hZ ?_
            refine EA.tPickF 18 rfl (by kernel_rfl) rfl rfl rfl rfl rfl hZ ?_
            refine EA.tPickT 19 rfl (by kernel_rfl) rfl rfl rfl rfl rfl hZ ?_
            refine EA.done (by kernel_rfl) ?_
            (repeat (first | refine EK.region ?_ | refine ER.done ?_ | refine EK.skip ?_ | refine EK.inBlock ?_ | refine ER.move rfl rfl rfl ?_ | refine ER.add (kd := .i64) rfl rfl rfl rfl (i64_in (by omega) (by omega)) ?_ | refine EK.condF rfl ?_))
            exact EK.back (fin _ hbn) ⟨rfl, rfl, rfl, rfl, rfl, trivial⟩
    · obtain rfl : n = 8 := by omega
      (repeat (first | refine EK.seq ?_ | refine EK.region ?_ | refine ER.done ?_ | refine ER.cmpF rfl rfl rfl rfl rfl (by first | (dsimp only [cmpP]; omega) | exact rfl | exact Int.le_refl _) ?_ | refine EK.condF rfl ?_ | refine EK.exit rfl ?_))
      refine ER.loadN (vs := cellsH H) rfl rfl rfl rfl (heads_all hb2) ?_
      (repeat refine ER.move rfl rfl rfl ?_)
      refine ER.storeN (vs := cellsH H) rfl rfl rfl rfl (cellsH_one H) (fun j hj => ⟨?_, hfroz_of hb2, fy _⟩) ?_
      · have hj3 : j < (cellsH H).length := hj
        exact ⟨_, heads_all hb2 j _ (List.getElem?_eq_getElem hj3)⟩
      rw [hsetRow_block (cellsH H) 0 _ _ hb2 (by rw [Nat.zero_add]; exact Nat.le_refl _)]
      have e1 : List.take 0 (cellsH H) ++ cellsH H ++ List.drop (0 + (cellsH H).length) (cellsH H) = cellsH H := by simp
      rw [e1]
      have T2 := a.thr.upd0 K.ok u2
      have T3 := T2.priv1 (o := headsO H) K.ok hny
      change ER _ _ _ _ _ _ _ _ _ _ (h2.setIfInBounds y (headsO H)) _ _
      generalize h2.setIfInBounds y (headsO H) = h5 at T3 ⊢
      have hb4 := (T3.privs.1 (y, headsO H) List.mem_cons_self).1
      (repeat (first | refine ER.done ?_ | refine ER.assign rfl rfl rfl ?_ | refine EK.ret ?_))
      exact EU.retCell (vs := cellsH H) rfl rfl rfl (heads_all hb4) rfl ⟨γ1, u1, H, rfl, rfl, al, ⟨T3.sub K.ok (fun q hq => List.mem_cons_of_mem _ hq), a.res, a.ext⟩, hV, hle, hs, fun b hb => by
        rcases Nat.lt_or_ge b G.L with z | z
        · exact z
        · have := (bst_lt hb).2
          rw [hno b z] at this; cases this⟩
  · have ex : (((n + 1 : Nat) : Int) - 1) = (n : Int) := by omega
    rw [ex]
    have hnL : n < G.L := by omega
    have s1 := K.mem _ _ a.thr.I
    have cl := s1.plv
    (repeat (first | refine EK.seq ?_ | refine EK.region ?_ | refine ER.done ?_ | refine EK.skip ?_ | refine EK.block ?_ | refine ER.move rfl rfl rfl ?_ | refine ER.nilCheck rfl rfl rfl ?_ | refine ER.fieldAddr rfl rfl rfl ?_ | refine ER.cmpT rfl rfl rfl rfl rfl (by first | (dsimp only [cmpP]; omega) | exact rfl | exact Int.le_refl _) ?_ | refine ER.indexSl rfl rfl rfl rfl (by omega) (by omega) ?_ | refine EK.condT rfl ?_ | refine ER.load1 rfl rfl rfl (by assumption) ?_))
    refine ER.load1 rfl rfl rfl (s1.plev hnL) ?_
    (repeat (first | refine EK.seq ?_ | refine EK.region ?_ | refine ER.done ?_ | refine ER.move rfl rfl rfl ?_ | refine ER.assign rfl rfl rfl ?_ | refine ER.nilCheck rfl rfl rfl ?_ | refine ER.fieldAddr rfl rfl rfl ?_))
    refine ER.load1 rfl rfl rfl (s1.pout hnL) ?_
    (repeat refine ER.move rfl rfl rfl ?_)
    refine ER.callP rfl rfl rfl rfl rfl (loadC K a (D.cell (kOut n) hnL (vv (by omega))) al.tb.symm) (fun _ _ _ y => y.along al) ?_
    rintro _ h2 δ2 ⟨γ2, rfl, rfl, nx, s2, j2, l2⟩
    have hp := j2.bnd l2 (k := kOut n) hnL (.inr (.inr (.inl rfl)))
    generalize γ2.p.val (G.B (kOut n)) = p at nx hp ⊢
    have hlt := pj_lt hm0 p
    have al2 := al.trans nx.al
    clear s1 cl j2 l2
    (repeat (first | refine EK.seq ?_ | refine EK.region ?_ | refine ER.done ?_ | refine ER.move rfl rfl rfl ?_ | refine ER.assign rfl rfl rfl ?_))
    refine ER.callD rfl rfl rfl rfl rfl (pat_T s2 hnL D.hm D.he hp) ?_
    (repeat (first | refine ER.nilCheck rfl rfl rfl ?_ | refine ER.fieldAddr rfl rfl rfl ?_))
    refine ER.load1 rfl rfl rfl (s2.pplace (t := 0) hnL hlt (by omega)) ?_
    (repeat refine ER.move rfl rfl rfl ?_)
    refine ER.callP rfl rfl rfl rfl rfl (loadC K nx.at_ (D.cell (kTurn n (pj G.m p)) ⟨hnL, hlt⟩ (vv (by omega))) al2.tb.symm) (fun _ _ _ y => y.along al2) ?_
    rintro _ h3 δ3 ⟨γ3, rfl, rfl, nx3, s3, j3, l3⟩
    replace nx := nx.trans K.ok nx3
    generalize γ3.p.val (G.B (7 + 0, n + 1, pj G.m p)) = tn at nx ⊢
    have al3 := al.trans nx.al
    have hle3 := nx.len
    clear nx3 j3 l3 s2 al2
    by_cases htn : tn = p + 1
    · rw [if_pos htn] at nx
      subst htn
      (repeat (first | refine EK.region ?_ | refine ER.done ?_ | refine ER.move rfl rfl rfl ?_ | refine ER.cmpT rfl rfl rfl rfl rfl (by first | (dsimp only [cmpP]; omega) | exact rfl | exact Int.le_refl _) ?_ | refine ER.add (kd := .i64) rfl rfl rfl rfl (i64_in (by omega) (by omega)) ?_ | refine EK.condT rfl ?_))
      refine ER.callD rfl rfl rfl rfl rfl (pat_T s3 hnL D.hm D.he hp) ?_
      (repeat (first | refine ER.nilCheck rfl rfl rfl ?_ | refine ER.fieldAddr rfl rfl rfl ?_))
      refine ER.load1 rfl rfl rfl (s3.pplace (t := 1) hnL hlt (by omega)) ?_
      (repeat refine ER.move rfl rfl rfl ?_)
      refine ER.callP rfl rfl rfl rfl rfl (loadC K nx.at_ (D.cell (kTick n (pj G.m p)) ⟨hnL, hlt⟩ (vv (by omega))) al3.tb.symm) (fun _ _ _ y => y.along al3) ?_
      rintro _ h4 δ4 ⟨γ4, rfl, rfl, nx4, s4, j4, l4⟩
      replace nx := nx.trans K.ok nx4
      have hx := j4.bnd l4 (k := kTick n (pj G.m p)) ⟨hnL, hlt⟩ (.inr (.inr (.inr rfl)))
      generalize γ4.p.val (G.B (kTick n (pj G.m p))) = x at nx hx ⊢
      have al4 := al.trans nx.al
      have hle4 := nx.len
      have hb4 := (nx.at_.thr.privs.1 (y, headsO H) List.mem_cons_self).1
      clear nx4 j4 l4 s3 al3
      skip
      refine ER.buildS (cells := #[.bool true, .int .i64 p, .int .i64 x]) rfl rfl rfl rfl ?_
      (repeat refine ER.indexArr rfl rfl rfl rfl (by omega) (by omega) ?_)
      have hrw := heads_row hb4 (i := n) (by omega)
      refine ER.storeN (vs := hrowH (true, p, x)) rfl rfl rfl rfl (by simp [hrowH, OneCell]) (fun j hj => ⟨?_, hfroz_of hb4, nx.at_.thr.free (.inr (.inr (.inl ⟨_, List.mem_cons_self, rfl⟩)))⟩) ?_
      · have hj3 : j < 3 := hj
        rcases (show j = 0 \/ j = 1 \/ j = 2 by omega) with rfl | rfl | rfl
        · exact ⟨_, hrw 0 _ rfl⟩
        · exact ⟨_, hrw 1 _ rfl⟩
        · exact ⟨_, hrw 2 _ rfl⟩
      change ER _ _ _ _ _ _ _ _ _ _ (hsetRow h4 y (0 + n * 3) (hrowH (true, p, x))) _ _
      rw [heads_set hb4 (by omega)]
      have T4 := nx.at_.thr.priv1 (o := headsO (up H n (true, p, x))) K.ok hny
      (repeat (first | refine EK.region ?_ | refine ER.done ?_ | refine EK.inBlock ?_ | refine ER.move rfl rfl rfl ?_ | refine ER.assign rfl rfl rfl ?_ | refine ER.sub' (kd := .i64) rfl rfl rfl rfl (i64_in (by omega) (by omega)) ?_))
      exact EK.back (again (n, γ4, γ4.p.u, up H n (true, p, x)) _ _ (by dsimp only; omega) ⟨rfl, by dsimp only; omega, ⟨T4, nx.at_.res, nx.at_.ext⟩, al4, K.ok.vtrans _ _ _ _ hV nx.V, by dsimp only; omega, hs.up hp hx, fun q hq => by dsimp only; rw [up_ne _ _ (by omega)]; exact hno q hq⟩) ⟨rfl, rfl, rfl, rfl, rfl, trivial⟩
    · rw [if_neg htn] at nx
      (repeat (first | refine EK.region ?_ | refine ER.done ?_ | refine EK.skip ?_ | refine EK.inBlock ?_ | refine ER.move rfl rfl rfl ?_ | refine ER.assign rfl rfl rfl ?_ | refine ER.cmpF rfl rfl rfl rfl rfl (by first | (dsimp only [cmpP]; omega) | exact rfl | exact Int.le_refl _) ?_ | refine ER.add (kd := .i64) rfl rfl rfl rfl (i64_in (by omega) (by omega)) ?_ | refine ER.sub' (kd := .i64) rfl rfl rfl rfl (i64_in (by omega) (by omega)) ?_ | refine EK.condF rfl ?_))
      exact EK.back (again (n, γ3, γ3.p.u, H) _ _ (by dsimp only; omega) ⟨rfl, by dsimp only; omega, nx.at_, al3, K.ok.vtrans _ _ _ _ hV nx.V, by dsimp only; omega, hs, hno⟩) ⟨rfl, rfl, rfl, rfl, rfl, trivial⟩
end
end
section
open Go Go.TJ Go.Conc Go.Proofs
section
variable {X : Us} [HasE X] {A : Type} {P : Nat -> Pr A} {told : X.U -> Nat -> List A} {G : PG} {e : Nat} {i : Nat} {γ γ' : GG X} {u : X.U} {L : List (Nat × Obj)} {h : Hp} {t : Nat}
set_option maxRecDepth 8000 in
set_option maxHeartbeats 16000000 in
theorem take_T (K : CodX X P told (JPr G) (PriH G)) (D : PriK X e G) {k : Int -> Int -> Bool -> Pr A} {f : Nat} (a : AtP X P told i γ u L h (takeP G k f)) (hf : 65536 < f + (ownOf i (γ.p.acc i).log).length) (ht : t = γ.p.tb i) :
    CallW Try.prog false (SitT Try.prog (PX X) (i + 1)) 17 #[ptr (G.B kTop), ptr t] h ⟨0, γ⟩ (RetP (fun w h' δ' => ∃ (γ' : GG X) (u' : X.U) (v l : Int) (e : Bool), δ' = ⟨0, γ'⟩ /\ w = .tuple #[.int .i64 v, .int .i64 l, .bool e] /\ CallP X P told i γ u L γ' u' h' (k v l e)) (Halt X i γ.p)) := by
  subst ht
  have hm0 := D.m0
  have hm1 : G.m <= 4096 := by have := Nat.pow_le_pow_right (n := 2) (by decide) D.he; have := D.hm; omega
  have hL8 := D.hL
  have s0 := K.mem _ _ a.thr.I
  have ct := s0.ptk
  refine CallW.start (n := 75) rfl rfl ?_
  (repeat (first | refine EK.seq ?_ | refine EK.region ?_ | refine ER.done ?_ | refine EK.skip ?_ | refine EK.block ?_ | refine ER.move rfl rfl rfl ?_ | refine ER.assign rfl rfl rfl ?_ | refine ER.nilCheck rfl rfl rfl ?_ | refine ER.fieldAddr rfl rfl rfl ?_ | refine ER.eqV rfl rfl rfl rfl rfl ?_ | refine ER.pickF rfl rfl rfl rfl ?_ | refine EK.condF rfl ?_ | refine ER.load1 rfl rfl rfl (by assumption) ?_))
  refine EK.loopInv (fun _ : GG X × X.U × Nat => [(0, ptr (G.B kTop)), (1, ptr (γ.p.tb i))]) (fun q h' δ' => δ' = ⟨0, q.1⟩ /\ AtP X P told i q.1 q.2.1 L h' (takeP G k q.2.2) /\ Along X i γ.p q.1.p /\ X.V i u q.2.1 /\ (ownOf i (γ.p.acc i).log).length <= (ownOf i (q.1.p.acc i).log).length /\ 65536 < q.2.2 + (ownOf i (q.1.p.acc i).log).length) (fun q => q.2.2) (γ, u, f) ⟨rfl, rfl, trivial⟩ ⟨rfl, a, Along.refl _ _, K.ok.vrefl _ _, Nat.le_refl _, hf⟩ ?_
  clear a hf s0 ct
  rintro ⟨γ1, u1, f1⟩ h1 δ1 ⟨hδ, a, al, hV, hle, hf1⟩ again
  dsimp only at a al hV hle hf1 again hδ ⊢
  subst hδ
  have hl1 := a.len
  obtain ⟨f2, rfl⟩ : ∃ f2, f1 = f2 + 1 := ⟨f1 - 1, by omega⟩
  (repeat (first | refine EK.seq ?_ | refine EK.region ?_ | refine EK.block ?_ | refine ER.move rfl rfl rfl ?_))
  refine ER.callP rfl rfl rfl rfl rfl (looks_T K D a al.tb.symm) (fun _ _ _ y => y.along al) ?_
  clear a
  rintro _ h2 δ2 ⟨γ2, u2, H, rfl, rfl, lk⟩
  have al2 := al.trans lk.al
  have hV2 := K.ok.vtrans _ _ _ _ hV lk.V
  have hle2 := lk.len
  have hs := lk.sml
  have T2 := lk.at_.thr
  have hres := lk.at_.res
  have hext := lk.at_.ext
  have hlow := lk.low
  clear lk hV al
  (repeat (first | refine ER.move rfl rfl rfl ?_ | refine ER.extract rfl rfl rfl rfl ?_ | refine ER.allocA rfl rfl ?_))
  change ER _ _ _ _ _ _ _ _ _ _ (h2.push (headsO fun _ => (false, 0, 0))) _ _
  refine ER.storeN (vs := cellsH H) rfl rfl rfl rfl (cellsH_one H) (fun j hj => ⟨?_, hfroz_of (get_push_new _ _), T2.free (.inr (.inr (.inr (Nat.le_refl _))))⟩) ?_
  · exact ⟨_, heads_all (get_push_new h2 (headsO fun _ => (false, 0, 0))) j _ (List.getElem?_eq_getElem (show j < (cellsH fun _ => (false, 0, 0)).length from hj))⟩
  rw [heads_new]
  have T3 := T2.alloc K.ok (headsO H)
  obtain ⟨y, hy⟩ : ∃ y, y = h2.size := ⟨_, rfl⟩
  rw [<- hy] at T3 ⊢
  generalize h2.push (headsO H) = h3 at T3 ⊢
  clear T2 hy
  cases hb : bst H 8 with
  | none =>
    have hc : chooseP G k (takeP G k f2) H = k 0 0 false := by unfold chooseP; rw [hb]
    rw [hc] at hres
    have hv : (bv none : Int) = -1 := rfl
    (repeat (first | refine EK.seq ?_ | refine EK.region ?_ | refine ER.done ?_ | refine ER.move rfl rfl rfl ?_ | refine ER.assign rfl rfl rfl ?_ | refine ER.cmpT rfl rfl rfl rfl rfl (by first | (dsimp only [cmpP]; omega) | exact rfl | exact Int.le_refl _) ?_ | refine EK.condT rfl ?_ | refine EK.ret ?_))
    exact EU.ret3 rfl rfl rfl rfl ⟨γ2, u2, 0, 0, false, rfl, rfl, al2, ⟨T3.sub K.ok (fun q hq => List.mem_cons_of_mem _ hq), hres, hext⟩, hV2⟩
  | some b =>
    have hc : chooseP G k (takeP G k f2) H = gotP G k (takeP G k f2) H b := by unfold chooseP; rw [hb]
    rw [hc] at hres
    have hbL := hlow b hb
    have hb8 := (bst_lt hb).1
    have hsb := hs b
    have hv : (bv (some b) : Int) = b := rfl
    rw [hv]
    have a3 : AtP X P told i γ2 u2 ((y, headsO H) :: L) h3 (gotP G k (takeP G k f2) H b) := ⟨T3, hres, hext⟩
    have gy := (T3.privs.1 (y, headsO H) List.mem_cons_self).1
    clear hres hext hc hlow hs
    unfold gotP at a3
    have s3 := K.mem _ _ T3.I
    have cA : hcell h3 ⟨y, 0 + b * 3 + 1, none⟩ = some (.int .i64 (H b).2.1) := heads_row gy hb8 1 _ rfl
    generalize (H b).2.1 = p at a3 hsb cA ⊢
    have hlt := pj_lt hm0 p
    have cL := s3.plv
    have cV := s3.plev hbL
    (repeat (first | refine EK.seq ?_ | refine EK.region ?_ | refine ER.done ?_ | refine EK.skip ?_ | refine ER.move rfl rfl rfl ?_ | refine ER.assign rfl rfl rfl ?_ | refine ER.cmpF rfl rfl rfl rfl rfl (by first | (dsimp only [cmpP]; omega) | exact rfl | exact Int.le_refl _) ?_ | refine EK.condF rfl ?_))
    refine EK.regionAny (fun h' => h' = h3) ?_
    have hZ : h3 = h3 := rfl
    refine EA.tMove 0 rfl (by kernel_rfl) rfl rfl rfl rfl hZ ?_
    refine EA.tNil 1 rfl (by kernel_rfl) rfl rfl rfl rfl hZ ?_
    refine EA.tField 2 rfl (by kernel_rfl) rfl rfl rfl rfl hZ ?_
    refine EA.tLoad 3 rfl (by kernel_rfl) rfl rfl rfl rfl (fun _ hz => hz ▸ cL) hZ ?_
    refine EA.tMove 4 rfl (by kernel_rfl) rfl rfl rfl rfl hZ ?_
    refine EA.tIdxS 5 rfl (by kernel_rfl) rfl rfl rfl rfl rfl (by omega) (by omega) hZ ?_
    refine EA.tLoad 6 rfl (by kernel_rfl) rfl rfl rfl rfl (fun _ hz => hz ▸ cV) hZ ?_
    refine EA.tMove 7 rfl (by kernel_rfl) rfl rfl rfl rfl hZ ?_
    refine EA.tIdxA 8 rfl (by kernel_rfl) rfl rfl rfl rfl rfl (by omega) (by omega) hZ ?_
    refine EA.tField 9 rfl (by kernel_rfl) rfl rfl rfl rfl hZ ?_
    refine EA.tLoad 10 rfl (by kernel_rfl) rfl rfl rfl rfl (fun _ hz => hz ▸ cA) hZ ?_
    refine EA.tAssign 11 rfl (by kernel_rfl) rfl rfl rfl rfl hZ ?_
    refine EA.tAssign 12 rfl (by kernel_rfl) rfl rfl rfl rfl hZ ?_
    refine EA.done (by kernel_rfl) ?_
    clear hZ
    (repeat (first | refine EK.seq ?_ | refine EK.region ?_ | refine ER.move rfl rfl rfl ?_ | refine ER.nilCheck rfl rfl rfl ?_ | refine ER.fieldAddr rfl rfl rfl ?_))
    refine ER.load1 rfl rfl rfl (s3.pout hbL) ?_
    (repeat (first | refine ER.move rfl rfl rfl ?_ | refine ER.add (kd := .i64) rfl rfl rfl rfl (i64_in (by omega) (by omega)) ?_))
    refine ER.callP rfl rfl rfl rfl rfl (casC K a3 (D.cell (kOut b) hbL (vv (by omega))) al2.tb.symm) (fun _ _ _ y => y.along al2) ?_
    rintro _ h4 δ4 ⟨γ4, rfl, rfl, nx, s4, -, -⟩
    clear a3 T3 gy s3 cA cL cV
    have al4 := al2.trans nx.al
    have hV4 := K.ok.vtrans _ _ _ _ hV2 nx.V
    have hle4 := nx.len
    by_cases hw : γ4.p.val (G.B (kOut b)) = p
    · rw [if_pos hw] at nx
      rw [decide_eq_true hw]
      (repeat (first | refine EK.seq ?_ | refine EK.region ?_ | refine ER.done ?_ | refine EK.skip ?_ | refine ER.move rfl rfl rfl ?_ | refine ER.notB rfl rfl rfl ?_ | refine EK.condF rfl ?_))
      refine ER.callD rfl rfl rfl rfl rfl (pat_T s4 hbL D.hm D.he ⟨hsb.1, hsb.2.1⟩) ?_
      (repeat (first | refine ER.nilCheck rfl rfl rfl ?_ | refine ER.fieldAddr rfl rfl rfl ?_))
      refine ER.load1 rfl rfl rfl (s4.pplace (t := 2) hbL hlt (by omega)) ?_
      (repeat refine ER.move rfl rfl rfl ?_)
      refine ER.callP rfl rfl rfl rfl rfl (loadC K nx.at_ (D.cell (kSlot b (pj G.m p)) ⟨hbL, hlt⟩ (vv (by omega))) al4.tb.symm) (fun _ _ _ y => y.along al4) ?_
      rintro _ h5 δ5 ⟨γ5, rfl, rfl, nx5, s5, -, -⟩
      generalize γ5.p.val (G.B (7 + 2, b + 1, pj G.m p)) = v at nx5 ⊢
      replace nx := nx.trans K.ok nx5
      clear nx5 s4 hle4 hw
      have al5 := al2.trans nx.al
      have hV5 := K.ok.vtrans _ _ _ _ hV2 nx.V
      (repeat (first | refine EK.seq ?_ | refine ER.done ?_ | refine ER.assign rfl rfl rfl ?_))
      have cP := s5.ppls hbL
      have cT := s5.pplace (t := 0) hbL hlt (by omega)
      refine EK.regionAny (fun h' => hcell h' ⟨G.B (kLev b), 2, none⟩ = some (.slice (some ⟨G.B (kPls b), 0, none⟩) G.m (G.capP b)) /\ hcell h' ⟨G.B (kPls b), 0 + (pj G.m p) * 3 + 0, none⟩ = some (ptr (G.B (kTurn b (pj G.m p))))) ?_
      have hZ := And.intro cP cT
      refine EA.tMove 0 rfl (by kernel_rfl) rfl rfl rfl rfl hZ ?_
      refine EA.tMove 1 rfl (by kernel_rfl) rfl rfl rfl rfl hZ ?_
      refine EA.tMove 6 rfl (by kernel_rfl) rfl rfl rfl rfl hZ ?_
      refine EA.tMove 7 rfl (by kernel_rfl) rfl rfl rfl rfl hZ ?_
      refine EA.tMove 8 rfl (by kernel_rfl) rfl rfl rfl rfl hZ ?_
      refine EA.tNil 9 rfl (by kernel_rfl) rfl rfl rfl rfl hZ ?_
      refine EA.tField 10 rfl (by kernel_rfl) rfl rfl rfl rfl hZ ?_
      refine EA.tLoad 11 rfl (by kernel_rfl) rfl rfl rfl rfl (fun _ hz => hz.1) hZ ?_
      refine EA.tLen1 12 rfl (by kernel_rfl) rfl rfl rfl rfl hZ ?_
      refine EA.tAdd (kd := .i64) 13 rfl (by kernel_rfl) rfl rfl rfl rfl rfl (i64_in (by omega) (by omega)) hZ ?_
      refine EA.callD 2 rfl (by kernel_rfl) rfl rfl rfl rfl rfl rfl (pat_T s5 hbL D.hm D.he ⟨hsb.1, hsb.2.1⟩) hZ ?_
      refine EA.tNil 3 rfl (by kernel_rfl) rfl rfl rfl rfl hZ ?_
      refine EA.tField 4 rfl (by kernel_rfl) rfl rfl rfl rfl hZ ?_
      refine EA.tLoad 5 rfl (by kernel_rfl) rfl rfl rfl rfl (fun _ hz => hz.2) hZ ?_
      refine eaCallP 14 rfl (by kernel_rfl) rfl rfl rfl rfl rfl rfl (storeC K nx.at_ (D.cell (kTurn b (pj G.m p)) ⟨hbL, hlt⟩ (vv (by omega))) al5.tb.symm) (fun _ _ _ y => y.along al5) ?_
      rintro _ h6 δ6 ⟨γ6, rfl, rfl, nx6, s6, -, -⟩
      refine ⟨⟨s6.ppls hbL, s6.pplace (t := 0) hbL hlt (by omega)⟩, ?_⟩
      refine EA.done (by kernel_rfl) ?_
      (repeat (first | refine EK.seq ?_ | refine EK.region ?_ | refine ER.done ?_ | refine ER.move rfl rfl rfl ?_ | refine ER.assign rfl rfl rfl ?_ | refine EK.ret ?_))
      exact EU.ret3 rfl rfl rfl rfl ⟨γ6, γ6.p.u, v, b, true, rfl, rfl, al5.trans nx6.al, ⟨nx6.at_.thr.sub K.ok (fun q hq => List.mem_cons_of_mem _ hq), nx6.at_.res, nx6.at_.ext⟩, K.ok.vtrans _ _ _ _ hV5 nx6.V⟩
    · rw [if_neg hw] at nx
      rw [decide_eq_false hw]
      (repeat (first | refine ER.done ?_ | refine ER.notB rfl rfl rfl ?_ | refine EK.condT rfl ?_ | refine EK.exit rfl ?_))
      exact EK.back (again (γ4, γ4.p.u, f2) _ _ (by dsimp only; omega) ⟨rfl, ⟨nx.at_.thr.sub K.ok (fun q hq => List.mem_cons_of_mem _ hq), nx.at_.res, nx.at_.ext⟩, al4, hV4, by dsimp only; omega, by dsimp only; omega⟩) ⟨rfl, rfl, trivial⟩
end
end
end Go.Proofs.Ythkpbenhchkkoaa
