/- Steps of the walk and of the plain law (H to TjSw). Conditions: as each lemma says. -/
import Derived.Laws.Bits64
import Lean
import Derived.Test.YtcpcdnkemobneaaDOC
namespace Go.Proofs.Ytcpcdnkemobneaa
section
open Go Go.TJ Go.Conc Go.Proofs
section
variable {A : Type}
inductive GR (P : Nat -> Pr A) (v0 : Nat -> Int) : List Ev -> List (Nat × A) -> (Nat -> Pr A) -> (Nat -> Int) -> Prop
  | init : GR P v0 [] [] P v0
  | tell {l : List Ev} {g : List (Nat × A)} {S : Nat -> Pr A} {v : Nat -> Int} (i : Nat) : GR P v0 l g S v ->
      GR P v0 l (g ++ (norm (S i)).1.map fun a => (i, a)) (ut S i (norm (S i)).2) v
  | step {l : List Ev} {g : List (Nat × A)} {S : Nat -> Pr A} {v : Nat -> Int} {i : Nat} {r : Rq} {k : Int -> Pr A} : GR P v0 l g S v -> S i = .step r k ->
      GR P v0 (l ++ [evOf i r (v r.b)]) (g ++ (norm (k (v r.b))).1.map fun a => (i, a)) (ut S i (norm (k (v r.b))).2) (ut v r.b (behind r.op (v r.b) r.arg r.new).1)
variable {P : Nat -> Pr A} {v0 v : Nat -> Int} {l : List Ev} {g : List (Nat × A)} {S : Nat -> Pr A}
theorem norm_self : ∀ {p : Pr A}, (norm p).1 = [] -> (norm p).2 = p
  | .done, _ => rfl
  | .step _ _, _ => rfl
  | .emit _ _, h => by cases h
theorem GR.goes (x : GR P v0 l g S v) : ∀ i, Goes i (P i) (ownOf i l) (toldOf i g) (S i) := by
  induction x with
  | init => exact fun i => .nil _
  | @tell l g S v i _ ih =>
    intro j
    by_cases e : j = i
    · subst e
      rw [ut_same, toldOf_app, toldOf_own]
      exact (ih j).norm
    · rw [ut_ne _ _ e, toldOf_app, toldOf_other e, List.append_nil]
      exact ih j
  | @step l g S v i r k _ hS ih =>
    intro j
    by_cases e : j = i
    · subst e
      have g1 := ih j
      rw [hS] at g1
      have g2 := (g1.access (v r.b)).norm
      rw [ut_same, toldOf_app, toldOf_own]
      have : ownOf j (l ++ [evOf j r (v r.b)]) = ownOf j l ++ [evOf j r (v r.b)] := by simp [ownOf, evOf]
      rw [this]
      exact g2
    · rw [ut_ne _ _ e, toldOf_app, toldOf_other e, List.append_nil]
      have : ownOf j (l ++ [evOf i r (v r.b)]) = ownOf j l := by simp [ownOf, evOf, Ne.symm e]
      rw [this]
      exact ih j
theorem GR.left (x : GR P v0 l g S v) {i : Nat} {p : Pr A} (h : Goes i (P i) (ownOf i l) (toldOf i g) p) (hp : NoEm p) : S i = p := by
  obtain ⟨e1, e2⟩ := h.det (x.goes i).norm hp (norm_no _)
  have e3 : (norm (S i)).1 = [] := List.append_cancel_left (e1.trans (List.append_nil _).symm)
  exact (norm_self e3).symm.trans e2
theorem GR.next (x : GR P v0 l g S v) {i : Nat} {r : Rq} {k : Int -> Pr A} (h1 : Goes i (P i) (ownOf i l) (toldOf i g) (.step r k)) {es : List A} {p : Pr A} (hp : NoEm p) (h2 : Goes i (P i) (ownOf i l ++ [evOf i r (v r.b)]) (toldOf i g ++ es) p) :
    GR P v0 (l ++ [evOf i r (v r.b)]) (g ++ es.map fun a => (i, a)) (ut S i p) (ut v r.b (behind r.op (v r.b) r.arg r.new).1) := by
  have e1 : S i = .step r k := x.left h1 nofun
  have g2 := (h1.access (v r.b)).norm
  obtain ⟨e2, e3⟩ := g2.det h2 (norm_no _) hp
  have e4 : es = (norm (k (v r.b))).1 := List.append_cancel_left e2
  rw [e4, e3]
  exact .step x e1
theorem GR.first (x : GR P v0 l g S v) {i : Nat} {es : List A} {p : Pr A} (hp : NoEm p) (h2 : Goes i (P i) (ownOf i l) (toldOf i g ++ es) p) :
    GR P v0 l (g ++ es.map fun a => (i, a)) (ut S i p) v := by
  obtain ⟨e2, e3⟩ := ((x.goes i).norm).det h2 (norm_no _) hp
  have e4 : es = (norm (S i)).1 := List.append_cancel_left e2
  rw [e4, e3]
  exact .tell i x
def Within : Nat -> Pr A -> Prop
  | _, .done => True
  | n, .emit _ k => Within n k
  | n, .step _ k => ∃ m, n = m + 1 /\ ∀ w, Within m (k w)
theorem Within.mono {n m : Nat} : ∀ {p : Pr A}, Within n p -> n <= m -> Within m p := by
  intro p
  induction p generalizing n m with
  | done => exact fun _ _ => by unfold Within; trivial
  | emit a k ih => exact fun h hm => ih (n := n) h hm
  | step r k ih =>
    rintro ⟨n', rfl, h⟩ hm
    exact ⟨m - 1, by omega, fun w => ih w (h w) (by omega)⟩
theorem Within.goes {i n : Nat} {p q : Pr A} {l : List Ev} {o : List A} (g : Goes i p l o q) : Within n p -> l.length <= n := by
  induction g generalizing n with
  | nil p => exact fun _ => Nat.zero_le _
  | emit _ ih => exact fun h => ih h
  | step w _ ih =>
    rintro ⟨m, rfl, h⟩
    have := ih (h w)
    simp only [List.length_cons]
    omega
end
def UsN {A M : Type} (c : GC A M) : Us where
  U := List (Nat × A) × M
  isC := c.isC
  Dom := fun u b => c.Dom u.2 b
  I := fun u h => c.I u.1 u.2 h
  J := fun l u v => (∃ S, GR c.P c.v0 l u.1 S v) /\ c.JV v
  V := fun i u u' => ∃ es : List (Nat × A), u'.1 = u.1 ++ es /\ ∀ x, x ∈ es -> x.1 ≠ i
  Q := fun i l s u => ∃ p, Goes i (c.P i) l (toldOf i u.1) p /\ (match s with | .born => toldOf i u.1 = [] | .stands r => ∃ k, p = .step r k | .over => p = .done)
instance {A M : Type} (c : GC A M) : HasE (UsN c) := ⟨fun i u u' => ∃ es : List A, (show List (Nat × A) × M from u').1 = (show List (Nat × A) × M from u).1 ++ es.map fun a => (i, a)⟩
section
variable {A M : Type} {c : GC A M} {i : Nat} {γ : GG (UsN c)} {u : (UsN c).U} {L : List (Nat × Obj)} {h : Hp}
theorem toldOf_none {i : Nat} {es : List (Nat × A)} (h : ∀ x, x ∈ es -> x.1 ≠ i) : toldOf i es = [] := by
  unfold toldOf
  rw [List.filter_eq_nil_iff.2 (fun x hx => by simpa using h x hx)]
  rfl
theorem usN_told {u u' : (UsN c).U} (hv : (UsN c).V i u u') : toldOf i u'.1 = toldOf i u.1 := by
  obtain ⟨es, e, h⟩ := hv
  rw [e, toldOf_app, toldOf_none h, List.append_nil]
theorem usN_ok (loc : ∀ g m h h', (∀ b, c.Dom m b -> h'[b]? = h[b]?) -> c.I g m h -> c.I g m h') (dis : ∀ m b, c.Dom m b -> ¬ c.isC b) : (UsN c).Ok where
  vrefl := fun _ _ => ⟨[], (List.append_nil _).symm, fun _ hx => by cases hx⟩
  vtrans := fun i a b d h1 h2 => by
    obtain ⟨e1, q1, n1⟩ := h1
    obtain ⟨e2, q2, n2⟩ := h2
    exact ⟨e1 ++ e2, by rw [q2, q1, List.append_assoc], fun x hx => (List.mem_append.1 hx).elim (n1 x) (n2 x)⟩
  loc := fun u h h' hb I => loc u.1 u.2 h h' hb I
  stab := fun i l s u u' hv hq => by
    have hv' : toldOf i u'.1 = toldOf i u.1 := usN_told hv
    show ∃ p, Goes i (c.P i) l (toldOf i u'.1) p /\ _
    rw [hv']
    exact hq
  dis := fun u b hd hc => dis u.2 b hd hc
theorem usN_prog : Prog (UsN c) c.P (fun u i => toldOf i u.1) where
  Q := fun _ _ _ _ => Iff.rfl
  V := fun _i _u _u' hv => usN_told hv
theorem nrefl {i : Nat} {u : (UsN c).U} : HasE.E (X := UsN c) i u u := ⟨[], by simp⟩
theorem usN_reach (T : Thr (UsN c) i γ u L h) {p : Pr A} (hg : Goes i (c.P i) (ownOf i (γ.p.acc i).log) (toldOf i u.1) p) (he : HasE.E (X := UsN c) i γ.p.u u) : ∃ S, GR c.P c.v0 (γ.p.acc i).log (u.1 ++ (norm p).1.map fun a => (i, a)) (ut S i (norm p).2) (γ.p.acc i).val := by
  obtain ⟨⟨S, R⟩, -⟩ := T.J
  obtain ⟨es, he'⟩ := he
  have he : u.1 = γ.p.u.1 ++ es.map fun a => (i, a) := he'
  replace hg := hg.norm
  have e0 : u.1 ++ (norm p).1.map (fun a => (i, a)) = γ.p.u.1 ++ (es ++ (norm p).1).map fun a => (i, a) := by rw [he, List.map_append, List.append_assoc]
  rw [he, toldOf_app, toldOf_own, List.append_assoc] at hg
  rw [e0]
  generalize es ++ (norm p).1 = es' at hg ⊢
  have np := norm_no p
  generalize (norm p).2 = p' at hg np ⊢
  have stay : (γ.p.acc i) = γ.p -> ∃ S, GR c.P c.v0 (γ.p.acc i).log (γ.p.u.1 ++ es'.map fun a => (i, a)) (ut S i p') (γ.p.acc i).val := fun e => by
    rw [e] at hg ⊢
    exact ⟨S, R.first np hg⟩
  obtain ⟨q, hq, hs⟩ := T.Q i
  cases hst : γ.p.st i with
  | born => exact stay (acc_born _ _ hst)
  | over => exact stay (acc_over' _ _ hst)
  | stands r =>
    rw [hst] at hs
    obtain ⟨k, rfl⟩ := hs
    rw [acc_stands _ _ hst] at hg ⊢
    have e1 : ownOf i (γ.p.log ++ [evOf i r (γ.p.val r.b)]) = ownOf i γ.p.log ++ [evOf i r (γ.p.val r.b)] := by simp [ownOf, evOf]
    dsimp only at hg ⊢
    rw [e1] at hg
    exact ⟨S, R.next hq np hg⟩
theorem usN_j (T : Thr (UsN c) i γ u L h) {p : Pr A} (hg : Goes i (c.P i) (ownOf i (γ.p.acc i).log) (toldOf i u.1) p) (hp : NoEm p) (he : HasE.E (X := UsN c) i γ.p.u u) (hv : c.JV (γ.p.acc i).val) : (UsN c).J (γ.p.acc i).log u (γ.p.acc i).val := by
  obtain ⟨S, R⟩ := usN_reach T hg he
  have e1 : (norm p) = ([], p) := norm_of_no hp
  rw [e1] at R
  have e2 : u.1 ++ ([] : List A).map (fun a => (i, a)) = u.1 := by simp
  rw [e2] at R
  exact ⟨⟨_, R⟩, hv⟩
end
end
section
open Go Go.TJ Go.Conc Go.Proofs
structure CodX (X : Us) [HasE X] {A : Type} (P : Nat -> Pr A) (told : X.U -> Nat -> List A) (M : Hp -> Prop) : Prop where
  ok : X.Ok
  prog : Prog X P told
  mem : ∀ u h, X.I u h -> M h
  er : ∀ i u, HasE.E (X := X) i u u
  j : ∀ {i : Nat} {γ : GG X} {u : X.U} {L : List (Nat × Obj)} {h : Hp} {r : Rq} {k : Int -> Pr A}, Thr X i γ u L h -> HasE.E (X := X) i γ.p.u u -> Goes i (P i) (ownOf i (γ.p.acc i).log) (told u i) (.step r k) -> X.J (γ.p.acc i).log u (γ.p.acc i).val
section
variable {X : Us} [HasE X] {A : Type} {P : Nat -> Pr A} {told : X.U -> Nat -> List A} {M : Hp -> Prop} {i : Nat} {γ γ' : GG X} {u : X.U} {L : List (Nat × Obj)} {h h' : Hp}
structure AtP (X : Us) [HasE X] {A : Type} (P : Nat -> Pr A) (told : X.U -> Nat -> List A) (i : Nat) (γ : GG X) (u : X.U) (L : List (Nat × Obj)) (h : Hp) (p : Pr A) : Prop where
  thr : Thr X i γ u L h
  res : Res P told i γ u p
  ext : HasE.E (X := X) i γ.p.u u
structure Nxt (X : Us) [HasE X] {A : Type} (P : Nat -> Pr A) (told : X.U -> Nat -> List A) (i : Nat) (γ : GG X) (u : X.U) (L : List (Nat × Obj)) (γ' : GG X) (h' : Hp) (p : Pr A) : Prop where
  al : Along X i γ.p γ'.p
  at_ : AtP X P told i γ' γ'.p.u L h' p
  V : X.V i u γ'.p.u
  len : (ownOf i (γ.p.acc i).log).length < (ownOf i (γ'.p.acc i).log).length
theorem Nxt.trans {γ1 γ2 : GG X} {h1 h2 : Hp} {p1 p2 : Pr A} (hX : X.Ok) (a : Nxt X P told i γ u L γ1 h1 p1) (b : Nxt X P told i γ1 γ1.p.u L γ2 h2 p2) : Nxt X P told i γ u L γ2 h2 p2 :=
  ⟨a.al.trans b.al, b.at_, hX.vtrans _ _ _ _ a.V b.V, Nat.lt_trans a.len b.len⟩
omit [HasE X] in
theorem own_le {l : List Ev} : (ownOf i l).length <= l.length := List.length_filter_le _ _
theorem AtP.len {p : Pr A} (a : AtP X P told i γ u L h p) : (ownOf i (γ.p.acc i).log).length <= 65536 := by
  have h1 : (ownOf i (γ.p.acc i).log).length <= (γ.p.acc i).log.length := own_le
  have h2 : (γ.p.acc i).log.length <= γ.p.log.length + 1 := by
    unfold PS.acc
    split
    · simp
    · omega
  have := a.thr.len
  omega
theorem Nxt.of (K : CodX X P told M) {r : Rq} {k : Int -> Pr A} {h' : Hp} (a : AtP X P told i γ u L h (.step r k)) (T : Thr X i γ' γ'.p.u L h') (st : Stood X i γ u r γ') : Nxt X P told i γ u L γ' h' (k (γ'.p.val r.b)) /\ M h' :=
  ⟨⟨st.al, ⟨T, a.res.did K.prog st, K.er _ _⟩, st.V, by rw [st.after]; simp⟩, K.mem _ _ T.I⟩
theorem loadC (K : CodX X P told M) {b : Nat} {k : Int -> Pr A} (a : AtP X P told i γ u L h (.step ⟨1, b, 0, 0⟩ k)) (hb : X.isC b) {t : Nat} (ht : t = γ.p.tb i) : CallW Try.prog false (SitT Try.prog (PX X) (i + 1)) 97 #[ptr b, ptr t] h ⟨0, γ⟩ (RetP (fun w h' δ' => ∃ γ' : GG X, δ' = ⟨0, γ'⟩ /\ w = .int .i64 (γ'.p.val b) /\ Nxt X P told i γ u L γ' h' (k (γ'.p.val b)) /\ M h') (Halt X i γ.p)) := by
  subst ht
  refine (cloadT K.ok a.thr hb (a.res.asks K.prog (K.j a.thr a.ext a.res))).conseqP ?_
  rintro w h' δ' ⟨γ', rfl, T, st, rfl⟩
  obtain ⟨x, y⟩ := Nxt.of K a T st
  exact ⟨γ', rfl, rfl, x, y⟩
theorem storeC (K : CodX X P told M) {b : Nat} {v : Int} {k : Int -> Pr A} (a : AtP X P told i γ u L h (.step ⟨2, b, v, 0⟩ k)) (hb : X.isC b) {t : Nat} (ht : t = γ.p.tb i) : CallW Try.prog false (SitT Try.prog (PX X) (i + 1)) 95 #[ptr b, ptr t, .int .i64 v] h ⟨0, γ⟩ (RetP (fun w h' δ' => ∃ γ' : GG X, δ' = ⟨0, γ'⟩ /\ w = .tuple #[] /\ Nxt X P told i γ u L γ' h' (k (γ'.p.val b)) /\ M h') (Halt X i γ.p)) := by
  subst ht
  refine (cstoreT K.ok a.thr hb (a.res.asks K.prog (K.j a.thr a.ext a.res))).conseqP ?_
  rintro w h' δ' ⟨γ', rfl, T, st, rfl⟩
  obtain ⟨x, y⟩ := Nxt.of K a T st
  exact ⟨γ', rfl, rfl, x, y⟩
theorem casC (K : CodX X P told M) {b : Nat} {v c : Int} {k : Int -> Pr A} (a : AtP X P told i γ u L h (.step ⟨3, b, v, c⟩ k)) (hb : X.isC b) {t : Nat} (ht : t = γ.p.tb i) : CallW Try.prog false (SitT Try.prog (PX X) (i + 1)) 106 #[ptr b, ptr t, .int .i64 v, .int .i64 c] h ⟨0, γ⟩ (RetP (fun w h' δ' => ∃ γ' : GG X, δ' = ⟨0, γ'⟩ /\ w = .bool (decide (γ'.p.val b = v)) /\ Nxt X P told i γ u L γ' h' (k (γ'.p.val b)) /\ M h') (Halt X i γ.p)) := by
  subst ht
  refine (ccasT K.ok a.thr hb (a.res.asks K.prog (K.j a.thr a.ext a.res))).conseqP ?_
  rintro w h' δ' ⟨γ', rfl, T, st, rfl⟩
  obtain ⟨x, y⟩ := Nxt.of K a T st
  exact ⟨γ', rfl, rfl, x, y⟩
structure CallP (X : Us) [HasE X] {A : Type} (P : Nat -> Pr A) (told : X.U -> Nat -> List A) (i : Nat) (γ : GG X) (u : X.U) (L : List (Nat × Obj)) (γ' : GG X) (u' : X.U) (h' : Hp) (p : Pr A) : Prop where
  al : Along X i γ.p γ'.p
  at_ : AtP X P told i γ' u' L h' p
  V : X.V i u u'
omit [HasE X] in
theorem Thr.privs (T : Thr X i γ u L h) : (∀ q, q ∈ L -> h[q.1]? = some q.2 /\ ¬ X.Dom u q.1) /\ ∀ b, X.Dom u b -> b < h.size := by
  obtain ⟨s, M, g⟩ := T.gi
  have hn : i < ({ γ.p.acc i with u := u, prv := ut (γ.p.acc i).prv i L } : PS X.U).num := by show i < (γ.p.acc i).num; rw [(acc_same γ.p i).2.2.1]; exact T.lt
  refine ⟨fun q hq => ?_, fun b hb => (g.dom b hb).1⟩
  have := g.prv i hn q (by show q ∈ ut (γ.p.acc i).prv i L i; rw [ut_same]; exact hq)
  exact ⟨this.1, this.2.2.2.2⟩
omit [HasE X] in
theorem Thr.priv {L' : List (Nat × Obj)} (hX : X.Ok) (T : Thr X i γ u L h) (hu : Upd (fun b => ∃ q, q ∈ L /\ q.1 = b) h h') (h2 : ∀ q, q ∈ L' -> h'[q.1]? = some q.2 /\ ∃ q0, q0 ∈ L /\ q0.1 = q.1) : Thr X i γ u L' h' := by
  obtain ⟨p1, p3⟩ := T.privs
  refine T.user hX (u' := u) (L' := L') (hu.mono fun b _ e => .inr e) (fun b hb => ⟨.inl hb, Nat.lt_of_lt_of_le (p3 b hb) hu.size⟩) (fun q hq => ?_) (hX.loc _ _ _ (fun b hb => hu.2 b (p3 b hb) (fun ⟨q, hq, e⟩ => (p1 q hq).2 (e ▸ hb))) T.I) (fun x _ => hX.vrefl _ _)
  obtain ⟨y1, q0, hq0, e⟩ := h2 q hq
  exact ⟨y1, .inl ⟨q0, hq0, e⟩, by rw [<- e]; exact (p1 q0 hq0).2⟩
omit [HasE X] in
omit [HasE X] in
theorem Thr.sub {L' : List (Nat × Obj)} (hX : X.Ok) (T : Thr X i γ u L h) (hs : ∀ q, q ∈ L' -> q ∈ L) : Thr X i γ u L' h :=
  T.priv hX (Upd.refl _ _) fun q hq => ⟨(T.privs.1 q (hs q hq)).1, q, hs q hq, rfl⟩
end
end
section
open Go Go.TJ Go.Proofs
structure RowI (h0 : Hp) (E : Mem Nat) (T : Nat) (tT tE : TypeId) (c0 : Array Value) (q : Nat) (h : Hp) (M : Mem Nat) (i : Nat) (s : Value) : Prop where
  rep : Rep h M
  upd : Upd (fun _ => False) h0 h
  above : ∀ k, M.ok k -> h0.size <= M.B k
  top : M.ok 0 /\ M.O 0 = .cells (c0.setIfInBounds q s) tT (0, 0)
  topB : M.B 0 = T
  ext : ∀ k, k = 2 \/ k = 3 -> (M.ok k ↔ E.ok k) /\ M.B k = E.B k /\ M.O k = E.O k
  sl : M.Sl 1 s tE 1 i ((List.range i).map fun j => ptr (M.B (4 + j)))
  cells : ∀ j, j < i -> M.ok (4 + j) /\ M.O (4 + j) = cellO 0
  rest : ∀ j, i <= j -> ¬ M.ok (4 + j)
theorem RowI.step {h0 : Hp} {E : Mem Nat} {T : Nat} {tT tE : TypeId} {c0 : Array Value} {q : Nat} {h : Hp} {M : Mem Nat} {i : Nat} {s s' : Value} {lit : Obj} {h5 : Hp} (x : RowI h0 E T tT tE c0 q h M i s)
    (hs : SliceO h5 s' tE 1 (i + 1) (((List.range i).map fun j => ptr (M.B (4 + j))) ++ [ptr h.size])) (u : Upd (fun b => blk s = some b) ((h.push (cellO 0)).push lit) h5) (hb : ∀ b, blk s' = some b -> blk s = some b \/ b = ((h.push (cellO 0)).push lit).size) :
    (∀ b, blk s = some b -> b ≠ T) /\ h5[T]? = some (.cells (c0.setIfInBounds q s) tT (0, 0)) /\ ∃ M', RowI h0 E T tT tE c0 q (hset h5 ⟨T, q, none⟩ s') M' (i + 1) s' := by
  have r1 := x.rep.put (4 + i) (cellO 0)
  have r2 := r1.upd0 (Upd.push _ lit)
  have sl1 := (x.sl.put (j := 4 + i) (by omega) h.size (cellO 0))
  obtain ⟨b, o, r3, sl3, hb', hlt⟩ := r2.app sl1 hs u hb
  have hTs : ∀ b, blk s = some b -> b ≠ T := fun b hb e => by
    obtain ⟨hk, e'⟩ := x.sl.blk hb
    have := x.rep.inj 1 0 hk x.top.1 (by rw [x.topB, <- e', e])
    cases this
  have t5 : h5[T]? = some (.cells (c0.setIfInBounds q s) tT (0, 0)) := u.get (get_push _ (get_push _ (x.topB ▸ x.rep.get x.top.1 x.top.2))) (fun y => hTs _ y rfl)
  refine ⟨hTs, t5, ?_⟩
  have hsz : h.size <= ((h.push (cellO 0)).push lit).size := by simp; omega
  have hab : h0.size <= b := by
    rcases hb' with ⟨hk, e⟩ | y
    · have hk' : M.ok 1 := by
        rcases hk with y | y
        · omega
        · exact y
      have := x.above 1 hk'
      rw [e]
      show h0.size <= ut M.B (4 + i) h.size 1
      rw [ut_ne _ _ (by omega)]
      exact this
    · have := x.upd.size; omega
  have okT : ((M.put (4 + i) h.size (cellO 0)).put 1 b o).ok 0 := .inr (.inr x.top.1)
  have oT : ((M.put (4 + i) h.size (cellO 0)).put 1 b o).O 0 = .cells (c0.setIfInBounds q s) tT (0, 0) := by
    show ut (ut M.O (4 + i) (cellO 0)) 1 o 0 = _
    rw [ut_ne _ _ (by omega), ut_ne _ _ (by omega)]; exact x.top.2
  have bT : ((M.put (4 + i) h.size (cellO 0)).put 1 b o).B 0 = T := by
    show ut (ut M.B (4 + i) h.size) 1 b 0 = _
    rw [ut_ne _ _ (by omega), ut_ne _ _ (by omega)]; exact x.topB
  have r4 := r3.hset okT oT q s'
  rw [bT] at r4
  have hge : ∀ b, blk s = some b -> h0.size <= b := fun b hb => by
    obtain ⟨hk, e⟩ := x.sl.blk hb
    rw [e]; exact x.above _ hk
  have hT : h0.size <= T := x.topB ▸ x.above 0 x.top.1
  have e1 : (List.range (i + 1)).map (fun j => ptr (((M.put (4 + i) h.size (cellO 0)).put 1 b o).B (4 + j))) = ((List.range i).map fun j => ptr (M.B (4 + j))) ++ [ptr h.size] := by
    rw [List.range_succ, List.map_append]
    congr 1
    · refine List.map_congr_left fun j hj => ?_
      have hj := List.mem_range.mp hj
      show ptr (ut (ut M.B (4 + i) h.size) 1 b (4 + j)) = _
      rw [ut_ne _ _ (by omega), ut_ne _ _ (by omega)]
    · show [ptr (ut (ut M.B (4 + i) h.size) 1 b (4 + i))] = _
      rw [ut_ne _ _ (by omega), ut_same]
  refine ⟨_, r4, ((x.upd.trans ((Upd.push _ _).trans (Upd.push _ _))).over u hge).over (Upd.hset (T := fun b => b = T) _ _ _ rfl) (fun b hb => by omega), fun k hk => ?_, ⟨okT, ?_⟩, bT, fun k hk => ?_, ?_, fun j hj => ?_, fun j hj => ?_⟩
  · show h0.size <= ut (ut M.B (4 + i) h.size) 1 b k
    by_cases k1 : k = 1
    · subst k1; rw [ut_same]; exact hab
    · by_cases k2 : k = 4 + i
      · subst k2; rw [ut_ne _ _ k1, ut_same]; exact x.upd.size
      · rw [ut_ne _ _ k1, ut_ne _ _ k2]
        rcases hk with y | y | y
        · exact absurd y k1
        · exact absurd y k2
        · exact x.above k y
  · rw [Array.setIfInBounds_setIfInBounds]
    simp [Mem.set, ut]
  · have k0 : k ≠ 0 := by omega
    have k1 : k ≠ 1 := by omega
    have k2 : k ≠ 4 + i := by omega
    obtain ⟨a, b, c⟩ := x.ext k hk
    refine ⟨⟨fun y => a.1 ?_, fun y => .inr (.inr (a.2 y))⟩, ?_, ?_⟩
    · rcases y with y | y | y
      · exact absurd y k1
      · exact absurd y k2
      · exact y
    · show ut (ut M.B (4 + i) _) 1 _ k = _
      rw [ut_ne _ _ k1, ut_ne _ _ k2]; exact b
    · show ut (ut (ut M.O (4 + i) (cellO 0)) 1 o) 0 _ k = _
      rw [ut_ne _ _ k0, ut_ne _ _ k1, ut_ne _ _ k2]; exact c
  · show (Mem.set _ 0 _).Sl 1 s' tE 1 (i + 1) ((List.range (i + 1)).map (fun j => ptr (((M.put (4 + i) h.size (cellO 0)).put 1 b o).B (4 + j))))
    rw [e1]
    exact sl3.set (by omega) _
  · refine ⟨?_, ?_⟩
    · by_cases hji : j = i
      · subst hji; exact .inr (.inl rfl)
      · exact .inr (.inr (x.cells j (by omega)).1)
    · show ut (ut (ut M.O (4 + i) (cellO 0)) 1 o) 0 _ (4 + j) = _
      rw [ut_ne _ _ (by omega), ut_ne _ _ (by omega)]
      by_cases hji : j = i
      · subst hji; rw [ut_same]
      · rw [ut_ne _ _ (by omega)]; exact (x.cells j (by omega)).2
  · rintro (y | y | y)
    · omega
    · omega
    · exact x.rest j (by omega) y
theorem RowI.reads {h0 : Hp} {E : Mem Nat} {T : Nat} {tT tE : TypeId} {c0 : Array Value} {q : Nat} {h : Hp} {M : Mem Nat} {i : Nat} {s : Value} (x : RowI h0 E T tT tE c0 q h M i s) (hq : q < c0.size) : hcell h ⟨T, q, none⟩ = some s :=
  hcell_of (x.topB ▸ x.rep.get x.top.1 x.top.2) (by simp [hq])
end
section
open Go Go.TJ Go.Proofs
abbrev W64 (x : Int) : Int := IntKind.i64.wrap x
theorem w_sub {a b : Int} : W64 (W64 a - W64 b) = W64 (a - b) := by simp only [W64, IntKind.wrap_i64]; omega
theorem w_add1 {a : Int} : W64 (W64 a + 1) = W64 (a + 1) := by simp only [W64, IntKind.wrap_i64]; omega
theorem w_sub1 {a : Int} : W64 (W64 a - 1) = W64 (a - 1) := by simp only [W64, IntKind.wrap_i64]; omega
theorem w_small {c : Int} (h0 : -100000 <= c) (h1 : c <= 100000) : W64 c = c := by simp only [W64, IntKind.wrap_i64]; omega
def deqM (n cap : Nat) (rest : List Value) (B : Nat -> Nat) (v : Nat -> Int) : Mem Nat := ⟨fun k => k < 4 + n, B, fun k =>
  if k = 0 then .cells #[ptr (B 2), ptr (B 3), .slice (some ⟨B 1, 0, none⟩) n cap] 236 (0, 0)
  else if k = 1 then .cells (((List.range n).map fun j => ptr (B (4 + j))) ++ rest).toArray 220 (0, 0)
  else cellO (v k)⟩
section
variable {h : Hp} {n cap : Nat} {rest : List Value} {B : Nat -> Nat} {v : Nat -> Int}
theorem deq_top (r : Rep h (deqM n cap rest B v)) : hcell h ⟨B 0, 0, none⟩ = some (ptr (B 2)) := r.cell (k := 0) (by show 0 < 4 + n; omega) rfl rfl
theorem deq_bot (r : Rep h (deqM n cap rest B v)) : hcell h ⟨B 0, 1, none⟩ = some (ptr (B 3)) := r.cell (k := 0) (by show 0 < 4 + n; omega) rfl rfl
theorem deq_sl (r : Rep h (deqM n cap rest B v)) : hcell h ⟨B 0, 2, none⟩ = some (.slice (some ⟨B 1, 0, none⟩) n cap) := r.cell (k := 0) (by show 0 < 4 + n; omega) rfl rfl
theorem deq_row (r : Rep h (deqM n cap rest B v)) {j : Nat} (hj : j < n) : hcell h ⟨B 1, 0 + j * 1, none⟩ = some (ptr (B (4 + j))) := r.cell (k := 1) (by show 1 < 4 + n; omega) rfl (by
  rw [show 0 + j * 1 = j by omega]
  simp only [List.getElem?_toArray]
  rw [List.getElem?_append_left (by simp; omega)]
  simp [hj])
theorem deq_cell (r : Rep h (deqM n cap rest B v)) {k : Nat} (h2 : 2 <= k) (hk : k < 4 + n) {x : Int} (hx : v k = x) : h[B k]? = some (cellO x) := r.get (k := k) hk (by
  show (if k = 0 then _ else if k = 1 then _ else cellO (v k)) = _
  rw [if_neg (by omega), if_neg (by omega), hx])
theorem deq_set (r : Rep h (deqM n cap rest B v)) {k : Nat} (h2 : 2 <= k) (hk : k < 4 + n) (x : Int) : Rep (h.setIfInBounds (B k) (cellO x)) (deqM n cap rest B (ut v k x)) := by
  refine (r.set (k := k) hk (cellO x)).congr (fun _ hk => hk) (fun _ _ => rfl) (fun j hj => ?_)
  show (deqM n cap rest B (ut v k x)).O j = ut (deqM n cap rest B v).O k (cellO x) j
  by_cases e : j = k
  · subst e
    rw [ut_same]
    show (if j = 0 then _ else if j = 1 then _ else cellO (ut v j x j)) = _
    rw [if_neg (by omega), if_neg (by omega), ut_same]
  · rw [ut_ne _ _ e]
    show (if j = 0 then _ else if j = 1 then _ else cellO (ut v k x j)) = (if j = 0 then _ else if j = 1 then _ else cellO (v j))
    by_cases k0 : j = 0
    · rw [if_pos k0, if_pos k0]
    · by_cases k1 : j = 1
      · rw [if_neg k0, if_pos k1, if_neg k0, if_pos k1]
      · rw [if_neg k0, if_neg k1, if_neg k0, if_neg k1, ut_ne _ _ e]
end
def slot (n : Nat) (q : Int) : Nat := (q % n).toNat
theorem slot_lt {n : Nat} (hn : 0 < n) (q : Int) : slot n q < n := by
  have := Int.emod_nonneg q (by omega : (n : Int) ≠ 0)
  have := Int.emod_lt_of_pos q (by omega : 0 < (n : Int))
  unfold slot; omega
theorem slot_w {n e : Nat} (hn : n = 2 ^ e) (he : e <= 12) (q : Int) : slot n (W64 q) = slot n q := by
  have hd : (n : Int) ∣ 18446744073709551616 := by
    refine ⟨2 ^ (64 - e), ?_⟩
    rw [hn]
    have : (18446744073709551616 : Int) = 2 ^ 64 := by decide
    rw [this, show ((2 ^ e : Nat) : Int) = 2 ^ e by simp, <- Int.pow_add]
    congr 1; omega
  unfold slot
  congr 1
  have e1 : W64 q % 18446744073709551616 = q % 18446744073709551616 := by simp only [W64, IntKind.wrap_i64]; omega
  rw [<- Int.emod_emod_of_dvd (W64 q) hd, e1, Int.emod_emod_of_dvd q hd]
theorem slot_bits {n e : Nat} (hn : n = 2 ^ e) (he : e <= 12) (x : Int) : bits .and .u64 (IntKind.u64.wrap x) (IntKind.u64.wrap ((n : Int) - 1)) = (slot n x : Int) := by
  have hle : n <= 4096 := by have := Nat.pow_le_pow_right (n := 2) (by decide) he; omega
  have hpos : 0 < n := by rw [hn]; exact Nat.two_pow_pos e
  have hd : (n : Int) ∣ 18446744073709551616 := by
    refine ⟨2 ^ (64 - e), ?_⟩
    rw [hn]
    have : (18446744073709551616 : Int) = 2 ^ 64 := by decide
    rw [this, show ((2 ^ e : Nat) : Int) = 2 ^ e by simp, <- Int.pow_add]
    congr 1; omega
  rw [IntKind.wrap_u64, IntKind.wrap_u64, show ((n : Int) - 1) % 18446744073709551616 = 2 ^ e - 1 by
    have : (n : Int) = 2 ^ e := by rw [hn]; simp
    rw [<- this]; omega]
  have h64 : (2 : Int) ^ 64 = 18446744073709551616 := by decide
  rw [bits_mask .u64 64 (by decide) (fun m h0 h1 => by rw [h64] at h1; rw [IntKind.wrap_u64]; omega) e (by omega) _ (by omega) (by rw [h64]; omega)]
  have : (2 : Int) ^ e = n := by rw [hn]; simp
  rw [this, Int.emod_emod_of_dvd x hd]
  unfold slot
  have := Int.emod_nonneg x (by omega : (n : Int) ≠ 0)
  omega
section
variable {Γ : Type} {main : Bool} {S : Sit Γ} {h : Hp} {δ : Ix Γ}
structure RSD where
  i : Nat
  M : Mem Nat
  s : Value
set_option maxRecDepth 8000 in
set_option maxHeartbeats 4000000 in
theorem deqnew_ok {n e : Nat} {f : Int} (hm : n = 2 ^ e) (he1 : 1 <= e) (he : e <= 12) (hF : ∀ b o, h.size <= b -> ¬ S.still δ.g ⟨b, o, none⟩) :
    CallW Try.prog main S 38 #[.int .i64 n, .int .i64 f] h δ (Ret fun w h' δ' => δ' = δ /\ Upd (fun _ => False) h h' /\ ∃ cap rest B, w = .tuple #[ptr (B 0), .int .i64 0] /\ Rep h' (deqM n cap rest B fun k => if k < 4 then f else 0) /\ ∀ k, k < 4 + n -> h.size <= B k) := by
  have hm2 : 2 <= n := by have := Nat.pow_le_pow_right (n := 2) (by decide) he1; omega
  have hm1 : n <= 4096 := by have := Nat.pow_le_pow_right (n := 2) (by decide) he; omega
  have hbits : bits .and .i64 (n : Int) ((n : Int) - 1) = 0 := by
    have : (n : Int) = 2 ^ e := by rw [hm]; simp
    have hmk := and_mask (x := (n : Int)) (e := e) (by omega) (by omega) (by omega)
    rw [<- this] at hmk
    rw [hmk, Int.emod_self]
  refine CallW.start (n := 41) rfl rfl ?_
  (repeat (first | refine EK.seq ?_ | refine EK.region ?_ | refine ER.done ?_ | refine ER.move rfl rfl rfl ?_ | refine ER.assign rfl rfl rfl ?_ | refine ER.pickF rfl rfl rfl rfl ?_ | refine ER.cmpF rfl rfl rfl rfl rfl (by first | (dsimp only [cmpP]; omega) | exact rfl | exact Int.le_refl _) ?_ | refine ER.sub' (kd := .i64) rfl rfl rfl rfl (i64_in (by omega) (by omega)) ?_))
  refine ER.andI rfl rfl rfl rfl hbits ?_
  (repeat (first | refine EK.seq ?_ | refine EK.region ?_ | refine ER.done ?_ | refine EK.skip ?_ | refine ER.move rfl rfl rfl ?_ | refine ER.pickF rfl rfl rfl rfl ?_ | refine ER.cmpF rfl rfl rfl rfl rfl (by first | (dsimp only [cmpP]; omega) | exact rfl | exact Int.le_refl _) ?_ | refine EK.condF rfl ?_))
  refine ER.callD rfl rfl rfl rfl rfl (cnewS (hF _ _ (Nat.le_refl _))) ?_
  (repeat refine ER.move rfl rfl rfl ?_)
  refine ER.callD rfl rfl rfl rfl rfl (cnewS (hF _ _ (by simp))) ?_
  refine ER.buildS (cells := #[ptr h.size, ptr (h.size + 1), nilS]) rfl rfl (by simp only [Array.size_push]; rfl) rfl ?_
  (repeat (first | refine EK.seq ?_ | refine EK.region ?_ | refine ER.done ?_ | refine EK.block ?_ | refine ER.move rfl rfl rfl ?_ | refine ER.assign rfl rfl rfl ?_ | refine ER.boxA rfl rfl rfl ?_))
  simp only [Array.size_push]
  have x0 : RowI h ((Mem.emp.put 2 h.size (cellO f)).put 3 (h.size + 1) (cellO f)) (h.size + 1 + 1) 236 220 #[ptr h.size, ptr (h.size + 1), nilS] 2 (((h.push (cellO f)).push (cellO f)).push (.cells #[ptr h.size, ptr (h.size + 1), nilS] 236))
      (((Mem.emp.put 2 h.size (cellO f)).put 3 (h.size + 1) (cellO f)).put 0 (h.size + 1 + 1) (.cells #[ptr h.size, ptr (h.size + 1), nilS] 236 (0, 0))) 0 nilS := by
    have r := (((Rep.emp (K := Nat) (h := h)).put 2 (cellO f)).put 3 (cellO f)).put 0 (.cells #[ptr h.size, ptr (h.size + 1), nilS] 236 (0, 0))
    simp only [Array.size_push] at r
    refine ⟨r, ((Upd.push _ _).trans (Upd.push _ _)).trans (Upd.push _ _), fun k hk => ?_, ⟨.inl rfl, ?_⟩, ?_, fun k hk => ⟨⟨fun y => ?_, fun y => .inr y⟩, ?_, ?_⟩, Mem.Sl.nil ?_, fun q hq => by omega, fun q _ hk => ?_⟩
    · rcases hk with rfl | rfl | rfl | hk
      · simp [Mem.put, ut]; omega
      · simp [Mem.put, ut]
      · simp [Mem.put, ut]
      · exact hk.elim
    · simp [Mem.put, ut]
    · simp [Mem.put, ut]
    · rcases y with y | y
      · omega
      · exact y
    · show ut _ _ _ _ = _
      exact ut_ne _ _ (by omega)
    · show ut _ _ _ _ = _
      exact ut_ne _ _ (by omega)
    · simp [Mem.put, Mem.emp]
    · rcases hk with y | y | y | y
      · omega
      · omega
      · omega
      · exact y
  generalize hT : h.size + 1 + 1 = T at x0 ⊢
  generalize hE : ((Mem.emp.put 2 h.size (cellO f)).put 3 (h.size + 1) (cellO f) : Mem Nat) = E at x0
  have E2 : E.ok 2 /\ E.B 2 = h.size /\ E.O 2 = cellO f := by rw [<- hE]; simp [Mem.put, ut]
  have E3 : E.ok 3 /\ E.B 3 = h.size + 1 /\ E.O 3 = cellO f := by rw [<- hE]; simp [Mem.put, ut]
  clear hE
  generalize ((h.push (cellO f)).push (cellO f)).push (.cells #[ptr h.size, ptr (h.size + 1), nilS] 236) = h1 at x0 ⊢
  refine EK.loopInv (fun t : RSD => [(27, .int .i64 t.i), (26, .int .i64 n), (6, ptr T), (0, .int .i64 n)]) (fun t h' δ' => δ' = δ /\ t.i <= n /\ RowI h E T 236 220 #[ptr h.size, ptr (h.size + 1), nilS] 2 h' t.M t.i t.s) (fun t => n - t.i) ⟨0, _, nilS⟩ ⟨rfl, rfl, rfl, rfl, trivial⟩ ⟨rfl, Nat.zero_le _, x0⟩ ?_
  clear x0 h1
  rintro ⟨i, M, s⟩ h1 δ1 ⟨hδ1, hi, x⟩ again
  dsimp only at hi x again ⊢
  obtain rfl : δ = δ1 := hδ1.symm
  have hsz := x.upd.size
  by_cases hin : i < n
  · (repeat (first | refine EK.seq ?_ | refine EK.region ?_ | refine ER.done ?_ | refine EK.skip ?_ | refine EK.block ?_ | refine ER.cmpT rfl rfl rfl rfl rfl (by first | (dsimp only [cmpP]; omega) | exact rfl | exact Int.le_refl _) ?_ | refine EK.condT rfl ?_))
    have cS : hcell h1 ⟨T, 2, none⟩ = some s := x.reads (by simp)
    refine EK.regionAnyL (fun h' => hcell h' ⟨T, 2, none⟩ = some s) 10 ?_
    have hZ := cS
    refine EA.tMove 0 rfl (by kernel_rfl) rfl rfl rfl rfl hZ ?_
    refine EA.tMove 1 rfl (by kernel_rfl) rfl rfl rfl rfl hZ ?_
    refine EA.tNil 2 rfl (by kernel_rfl) rfl rfl rfl rfl hZ ?_
    refine EA.tField 3 rfl (by kernel_rfl) rfl rfl rfl rfl hZ ?_
    refine EA.tLoad 4 rfl (by kernel_rfl) rfl rfl rfl rfl (fun _ hz => hz) hZ ?_
    refine EA.callD 5 rfl (by kernel_rfl) rfl rfl rfl rfl rfl rfl (cnewS (hF _ _ hsz)) (hcell_push hZ) ?_
    refine EA.val (v := .slice (some ⟨(h1.push (cellO 0)).size, 0, none⟩) 1 1) (h' := (h1.push (cellO 0)).push (.cells #[ptr h1.size] 220)) 6 rfl (by kernel_rfl) rfl rfl rfl (fun ρ Q X hρ hq => sem_slice1 (sz := 1) hρ rfl (by omega) (by omega) rfl rfl hq) (hcell_push (hcell_push hZ)) ?_
    have r4 := (x.rep.put (4 + i) (cellO 0)).upd0 (Upd.push (h1.push (cellO 0)) (.cells #[ptr h1.size] 220))
    refine EA.append1 (new := [ptr h1.size]) 7 rfl (by kernel_rfl) rfl rfl rfl rfl rfl ((x.sl.put (j := 4 + i) (by omega) h1.size (cellO 0)).slice r4) (get_push_new _ _) rfl (by simp [OneCell]) (by omega) (by omega) rfl (fun b o hb => hF _ _ (by
      obtain ⟨hk, e⟩ := x.sl.blk hb
      rw [e]; exact x.above _ hk)) ?_
    intro s' h5 hs5 u5 hb5
    obtain ⟨hTs, t5, M', x'⟩ := x.step hs5 u5 hb5
    have c5 : hcell h5 ⟨T, 2, none⟩ = some s := hcell_of t5 rfl
    obtain ⟨a5, k5, es5⟩ := hs5.val
    refine ⟨c5, ?_⟩
    refine EA.val 8 rfl (by kernel_rfl) rfl rfl rfl (fun ρ Q X hρ hq => sem_nilCheck (hρ _ _ rfl) hq) c5 ?_
    have hZ := c5
    refine EA.tField 9 rfl (by kernel_rfl) rfl rfl rfl rfl hZ ?_
    refine EA.unitL (h' := hset h5 ⟨T, 2, none⟩ s') 10 rfl (by kernel_rfl) rfl rfl rfl (fun ρ Q X hρ hq => sem_store1 (hρ _ _ rfl) (hρ _ _ rfl) (by rw [es5]; exact ⟨nofun, nofun⟩) ⟨_, c5⟩ (hfroz_of t5) (hF _ _ (x.topB ▸ x.above 0 x.top.1)) hq) ?_
    refine EA.done (by kernel_rfl) ?_
    (repeat (first | refine EK.region ?_ | refine ER.done ?_ | refine EK.inBlock ?_ | refine ER.move rfl rfl rfl ?_ | refine ER.add (kd := .i64) rfl rfl rfl rfl (i64_in (by omega) (by omega)) ?_))
    exact EK.back (again ⟨i + 1, M', s'⟩ _ _ (by dsimp only; omega) ⟨rfl, by dsimp only; omega, x'⟩) ⟨rfl, rfl, rfl, rfl, trivial⟩
  · obtain rfl : i = n := by omega
    clear again
    (repeat (first | refine EK.seq ?_ | refine EK.region ?_ | refine ER.done ?_ | refine ER.move rfl rfl rfl ?_ | refine ER.assign rfl rfl rfl ?_ | refine ER.cmpF rfl rfl rfl rfl rfl (by first | (dsimp only [cmpP]; omega) | exact rfl | exact Int.le_refl _) ?_ | refine EK.condF rfl ?_ | refine EK.ret ?_ | refine EK.exit rfl ?_))
    have h1T := x.topB
    obtain ⟨e2a, e2b, e2c⟩ := x.ext 2 (.inl rfl)
    obtain ⟨e3a, e3b, e3c⟩ := x.ext 3 (.inr rfl)
    obtain ⟨hl, ⟨_, hz, _⟩ | ⟨k1, cap, rest, rfl, hc1, hc2, hc3⟩⟩ := x.sl
    · omega
    have okM : ∀ k, k < 4 + i -> M.ok k := fun k hk => by
      rcases (show k = 0 \/ k = 1 \/ k = 2 \/ k = 3 \/ 4 <= k by omega) with rfl | rfl | rfl | rfl | h4
      · exact x.top.1
      · exact k1
      · exact e2a.2 E2.1
      · exact e3a.2 E3.1
      · have := (x.cells (k - 4) (by omega)).1
        rwa [show 4 + (k - 4) = k by omega] at this
    refine EU.ret2 rfl rfl rfl ⟨rfl, x.upd, cap, rest, M.B, by rw [h1T], x.rep.congr (fun k hk => okM k hk) (fun _ _ => rfl) (fun k hk => ?_), fun k hk => x.above k (okM k hk)⟩
    have hk' : k < 4 + i := hk
    unfold deqM
    dsimp only
    rcases (show k = 0 \/ k = 1 \/ k = 2 \/ k = 3 \/ 4 <= k by omega) with rfl | rfl | rfl | rfl | h4
    · rw [if_pos rfl, x.top.2, e2b, e3b, E2.2.1, E3.2.1]; rfl
    · rw [if_neg (by decide), if_pos rfl, hc3]
    · rw [if_neg (by decide), if_neg (by decide), if_pos (by decide), e2c, E2.2.2]
    · rw [if_neg (by decide), if_neg (by decide), if_pos (by decide), e3c, E3.2.2]
    · rw [if_neg (by omega), if_neg (by omega), if_neg (by omega)]
      have := (x.cells (k - 4) (by omega)).2
      rw [show 4 + (k - 4) = k by omega] at this
      exact this.symm
theorem dnone_ok {b c : Nat} (hc : hcell h ⟨b, 0, none⟩ = some (ptr c)) : CallW Try.prog main S 104 #[ptr b] h δ (Ret (Det (.bool false) h δ)) := by
  refine CallW.start (n := 12) rfl rfl ?_
  (repeat (first | refine EK.seq ?_ | refine EK.region ?_ | refine ER.done ?_ | refine ER.move rfl rfl rfl ?_ | refine ER.assign rfl rfl rfl ?_ | refine ER.nilCheck rfl rfl rfl ?_ | refine ER.fieldAddr rfl rfl rfl ?_ | refine ER.eqV rfl rfl rfl rfl rfl ?_ | refine ER.pickF rfl rfl rfl rfl ?_ | refine EK.ret ?_ | refine ER.load1 rfl rfl rfl (by assumption) ?_))
  exact EU.ret1 rfl rfl det
end
end
section
open Go Go.TJ Go.Proofs
section
variable {Γ : Type} {main : Bool} {S : Sit Γ} {h : Hp} {δ : Ix Γ} {n cap : Nat} {rest : List Value} {B : Nat -> Nat} {v : Nat -> Int}
abbrev DFree (S : Sit Γ) (γ : Γ) (n : Nat) (B : Nat -> Nat) : Prop := ∀ k o, k < 4 + n -> ¬ S.still γ ⟨B k, o, none⟩
set_option maxRecDepth 8000 in
set_option maxHeartbeats 1000000 in
theorem dat_ok {e : Nat} {x : Int} (r : Rep h (deqM n cap rest B v)) (hn : n = 2 ^ e) (he : e <= 12) : CallW Try.prog main S 105 #[ptr (B 0), .int .i64 x] h δ (Ret (Det (ptr (B (4 + slot n x))) h δ)) := by
  have hle : n <= 4096 := by have := Nat.pow_le_pow_right (n := 2) (by decide) he; omega
  have hpos : 0 < n := by rw [hn]; exact Nat.two_pow_pos e
  have hlt := slot_lt hpos x
  have cs := deq_sl r
  have cr := deq_row r hlt
  refine CallW.start (n := 21) rfl rfl ?_
  (repeat (first | refine EK.seq ?_ | refine EK.region ?_ | refine ER.done ?_ | refine ER.assign rfl rfl rfl ?_))
  refine EK.regionAny (fun h' => h' = h) ?_
  have hZ : h = h := rfl
  refine EA.tMove 0 rfl (by kernel_rfl) rfl rfl rfl rfl hZ ?_
  refine EA.tNil 1 rfl (by kernel_rfl) rfl rfl rfl rfl hZ ?_
  refine EA.tField 2 rfl (by kernel_rfl) rfl rfl rfl rfl hZ ?_
  refine EA.tLoad 3 rfl (by kernel_rfl) rfl rfl rfl rfl (fun _ hz => hz ▸ cs) hZ ?_
  refine EA.tMove 4 rfl (by kernel_rfl) rfl rfl rfl rfl hZ ?_
  refine EA.tConv (r := IntKind.u64.wrap x) 5 rfl (by kernel_rfl) rfl rfl rfl rfl rfl hZ ?_
  refine EA.tMove 6 rfl (by kernel_rfl) rfl rfl rfl rfl hZ ?_
  refine EA.tNil 7 rfl (by kernel_rfl) rfl rfl rfl rfl hZ ?_
  refine EA.tField 8 rfl (by kernel_rfl) rfl rfl rfl rfl hZ ?_
  refine EA.tLoad 9 rfl (by kernel_rfl) rfl rfl rfl rfl (fun _ hz => hz ▸ cs) hZ ?_
  refine EA.tLen1 10 rfl (by kernel_rfl) rfl rfl rfl rfl hZ ?_
  refine EA.tSub (kd := .i64) 11 rfl (by kernel_rfl) rfl rfl rfl rfl rfl (i64_in (by omega) (by omega)) hZ ?_
  refine EA.tConv (r := IntKind.u64.wrap ((n : Int) - 1)) 12 rfl (by kernel_rfl) rfl rfl rfl rfl rfl hZ ?_
  refine EA.tBinI (kd := .u64) (v := .int .u64 (slot n x : Int)) 13 rfl (by kernel_rfl) rfl rfl rfl rfl rfl ((binOp_bits (.inl rfl)).trans (by rw [slot_bits hn he])) hZ ?_
  refine EA.tIdxS 14 rfl (by kernel_rfl) rfl rfl rfl rfl rfl (by omega) (by omega) hZ ?_
  refine EA.tLoad 15 rfl (by kernel_rfl) rfl rfl rfl rfl (fun _ hz => hz ▸ cr) hZ ?_
  refine EA.tAssign 16 rfl (by kernel_rfl) rfl rfl rfl rfl hZ ?_
  refine EA.done (by kernel_rfl) ?_
  (repeat refine EK.ret ?_)
  exact EU.ret1 rfl rfl det
set_option maxRecDepth 8000 in
set_option maxHeartbeats 1000000 in
theorem dlen_ok {T : Int} {c : Nat} (r : Rep h (deqM n cap rest B v)) (hT : v 2 = W64 T) (hb : v 3 = W64 (T + c)) (hc : c <= 4096) : CallW Try.prog main S 45 #[ptr (B 0), .pointer none] h δ (Ret (Det (.int .i64 c) h δ)) := by
  have ct := deq_top r
  have cb := deq_bot r
  have hs : W64 (W64 (T + c) - W64 T) = c := by rw [w_sub, show T + c - T = (c : Int) by omega]; exact w_small (by omega) (by omega)
  refine CallW.start (n := 22) rfl rfl ?_
  (repeat (first | refine EK.seq ?_ | refine EK.region ?_ | refine ER.done ?_ | refine ER.move rfl rfl rfl ?_ | refine ER.assign rfl rfl rfl ?_))
  refine ER.callD rfl rfl rfl rfl rfl (dnone_ok ct) ?_
  (repeat (first | refine EK.seq ?_ | refine EK.region ?_ | refine ER.done ?_ | refine EK.skip ?_ | refine ER.move rfl rfl rfl ?_ | refine ER.nilCheck rfl rfl rfl ?_ | refine ER.fieldAddr rfl rfl rfl ?_ | refine EK.condF rfl ?_ | refine ER.load1 rfl rfl rfl (by assumption) ?_))
  refine ER.callD rfl rfl rfl rfl rfl (cload (deq_cell r (k := 2) (by omega) (by omega) hT)) ?_
  (repeat (first | refine EK.seq ?_ | refine EK.region ?_ | refine ER.done ?_ | refine ER.move rfl rfl rfl ?_ | refine ER.assign rfl rfl rfl ?_ | refine ER.nilCheck rfl rfl rfl ?_ | refine ER.fieldAddr rfl rfl rfl ?_ | refine ER.load1 rfl rfl rfl (by assumption) ?_))
  refine ER.callD rfl rfl rfl rfl rfl (cload (deq_cell r (k := 3) (by omega) (by omega) hb)) ?_
  (repeat refine ER.move rfl rfl rfl ?_)
  refine ER.sub' (r := (c : Int)) rfl rfl rfl rfl hs ?_
  (repeat (first | refine ER.done ?_ | refine ER.assign rfl rfl rfl ?_ | refine EK.ret ?_))
  exact EU.ret1 rfl rfl det
set_option maxRecDepth 8000 in
set_option maxHeartbeats 1000000 in
theorem dpush_ok {e c : Nat} {T x : Int} (r : Rep h (deqM n cap rest B v)) (hn : n = 2 ^ e) (he : e <= 12) (hT : v 2 = W64 T) (hb : v 3 = W64 (T + c)) (hc : c < n) (hS : DFree S δ.g n B) :
    CallW Try.prog main S 41 #[ptr (B 0), .pointer none, .int .i64 x] h δ (Ret fun w h' δ' => w = .int .i64 0 /\ δ' = δ /\ Rep h' (deqM n cap rest B (ut (ut v (4 + slot n (T + c)) x) 3 (W64 (T + c + 1)))) /\ Upd (fun b => ∃ k, k < 4 + n /\ b = B k) h h') := by
  have hle : n <= 4096 := by have := Nat.pow_le_pow_right (n := 2) (by decide) he; omega
  have hpos : 0 < n := by rw [hn]; exact Nat.two_pow_pos e
  have hlt := slot_lt hpos (T + c)
  have ct := deq_top r
  have cb := deq_bot r
  have cs := deq_sl r
  have hs : W64 (W64 (T + c) - W64 T) = c := by rw [w_sub, show T + c - T = (c : Int) by omega]; exact w_small (by omega) (by omega)
  refine CallW.start (n := 44) rfl rfl ?_
  (repeat (first | refine EK.seq ?_ | refine EK.region ?_ | refine ER.done ?_ | refine ER.move rfl rfl rfl ?_ | refine ER.assign rfl rfl rfl ?_))
  refine ER.callD rfl rfl rfl rfl rfl (dnone_ok ct) ?_
  (repeat (first | refine EK.seq ?_ | refine EK.region ?_ | refine ER.done ?_ | refine EK.skip ?_ | refine ER.move rfl rfl rfl ?_ | refine ER.nilCheck rfl rfl rfl ?_ | refine ER.fieldAddr rfl rfl rfl ?_ | refine EK.condF rfl ?_ | refine ER.load1 rfl rfl rfl (by assumption) ?_))
  refine ER.callD rfl rfl rfl rfl rfl (cload (deq_cell r (k := 3) (by omega) (by omega) hb)) ?_
  (repeat (first | refine EK.seq ?_ | refine ER.done ?_ | refine ER.assign rfl rfl rfl ?_))
  refine EK.regionAny (fun h' => h' = h) ?_
  have hZ : h = h := rfl
  refine EA.tMove 0 rfl (by kernel_rfl) rfl rfl rfl rfl hZ ?_
  refine EA.tMove 1 rfl (by kernel_rfl) rfl rfl rfl rfl hZ ?_
  refine EA.tNil 2 rfl (by kernel_rfl) rfl rfl rfl rfl hZ ?_
  refine EA.tField 3 rfl (by kernel_rfl) rfl rfl rfl rfl hZ ?_
  refine EA.tLoad 4 rfl (by kernel_rfl) rfl rfl rfl rfl (fun _ hz => hz ▸ ct) hZ ?_
  refine EA.tMove 5 rfl (by kernel_rfl) rfl rfl rfl rfl hZ ?_
  refine EA.tMove 8 rfl (by kernel_rfl) rfl rfl rfl rfl hZ ?_
  refine EA.tNil 9 rfl (by kernel_rfl) rfl rfl rfl rfl hZ ?_
  refine EA.tField 10 rfl (by kernel_rfl) rfl rfl rfl rfl hZ ?_
  refine EA.tLoad 11 rfl (by kernel_rfl) rfl rfl rfl rfl (fun _ hz => hz ▸ cs) hZ ?_
  refine EA.tLen1 12 rfl (by kernel_rfl) rfl rfl rfl rfl hZ ?_
  refine EA.callD 6 rfl (by kernel_rfl) rfl rfl rfl rfl rfl rfl (cload (deq_cell r (k := 2) (by omega) (by omega) hT)) hZ ?_
  refine EA.tSub (kd := .i64) (r := (c : Int)) 7 rfl (by kernel_rfl) rfl rfl rfl rfl rfl hs hZ ?_
  refine EA.tCmpF 13 rfl (by kernel_rfl) rfl rfl rfl rfl rfl rfl (by first | (dsimp only [cmpP]; omega) | exact rfl | exact Int.le_refl _) hZ ?_
  refine EA.done (by kernel_rfl) ?_
  (repeat (first | refine EK.seq ?_ | refine EK.region ?_ | refine EK.skip ?_ | refine ER.move rfl rfl rfl ?_ | refine EK.condF rfl ?_))
  refine ER.callD rfl rfl rfl rfl rfl (dat_ok r hn he) ?_
  rw [slot_w hn he]
  (repeat refine ER.move rfl rfl rfl ?_)
  refine ER.callD rfl rfl rfl rfl rfl (cstore (deq_cell r (k := 4 + slot n (T + c)) (by omega) (by omega) rfl) (fun o => hS _ o (by omega))) ?_
  have r1 := deq_set r (k := 4 + slot n (T + c)) (by omega) (by omega) x
  have u1 := Upd.set (T := fun b => ∃ k, k < 4 + n /\ b = B k) h (B (4 + slot n (T + c))) (cellO x) ⟨_, by omega, rfl⟩
  clear ct cb cs
  generalize h.setIfInBounds (B (4 + slot n (T + c))) (cellO x) = h1 at r1 u1 ⊢
  have cb := deq_bot r1
  (repeat (first | refine EK.seq ?_ | refine EK.region ?_ | refine ER.done ?_ | refine ER.move rfl rfl rfl ?_ | refine ER.nilCheck rfl rfl rfl ?_ | refine ER.fieldAddr rfl rfl rfl ?_ | refine ER.load1 rfl rfl rfl (by assumption) ?_))
  refine ER.add (r := W64 (T + c + 1)) rfl rfl rfl rfl w_add1 ?_
  skip
  refine ER.callD rfl rfl rfl rfl rfl (cstore (deq_cell r1 (k := 3) (by omega) (by omega) rfl) (fun o => hS _ o (by omega))) ?_
  have r2 := deq_set r1 (k := 3) (by omega) (by omega) (W64 (T + c + 1))
  have u2 := Upd.set (T := fun b => ∃ k, k < 4 + n /\ b = B k) h1 (B 3) (cellO (W64 (T + c + 1))) ⟨_, by omega, rfl⟩
  (repeat (first | refine EK.seq ?_ | refine EK.region ?_ | refine ER.done ?_ | refine ER.assign rfl rfl rfl ?_ | refine EK.ret ?_))
  exact EU.ret1 rfl rfl ⟨rfl, rfl, r2, u1.trans u2⟩
set_option maxRecDepth 8000 in
set_option maxHeartbeats 1000000 in
theorem dpush_full {e c : Nat} {T x : Int} (r : Rep h (deqM n cap rest B v)) (hn : n = 2 ^ e) (_he : e <= 12) (hT : v 2 = W64 T) (hb : v 3 = W64 (T + c)) (hc : n <= c) (hc1 : c <= 4096) :
    CallW Try.prog main S 41 #[ptr (B 0), .pointer none, .int .i64 x] h δ (Ret (Det (.int .i64 12) h δ)) := by
  have ct := deq_top r
  have cb := deq_bot r
  have cs := deq_sl r
  have hs : W64 (W64 (T + c) - W64 T) = c := by rw [w_sub, show T + c - T = (c : Int) by omega]; exact w_small (by omega) (by omega)
  refine CallW.start (n := 44) rfl rfl ?_
  (repeat (first | refine EK.seq ?_ | refine EK.region ?_ | refine ER.done ?_ | refine ER.move rfl rfl rfl ?_ | refine ER.assign rfl rfl rfl ?_))
  refine ER.callD rfl rfl rfl rfl rfl (dnone_ok ct) ?_
  (repeat (first | refine EK.seq ?_ | refine EK.region ?_ | refine ER.done ?_ | refine EK.skip ?_ | refine ER.move rfl rfl rfl ?_ | refine ER.nilCheck rfl rfl rfl ?_ | refine ER.fieldAddr rfl rfl rfl ?_ | refine EK.condF rfl ?_ | refine ER.load1 rfl rfl rfl (by assumption) ?_))
  refine ER.callD rfl rfl rfl rfl rfl (cload (deq_cell r (k := 3) (by omega) (by omega) hb)) ?_
  (repeat (first | refine EK.seq ?_ | refine ER.done ?_ | refine ER.assign rfl rfl rfl ?_))
  refine EK.regionAny (fun h' => h' = h) ?_
  have hZ : h = h := rfl
  refine EA.tMove 0 rfl (by kernel_rfl) rfl rfl rfl rfl hZ ?_
  refine EA.tMove 1 rfl (by kernel_rfl) rfl rfl rfl rfl hZ ?_
  refine EA.tNil 2 rfl (by kernel_rfl) rfl rfl rfl rfl hZ ?_
  refine EA.tField 3 rfl (by kernel_rfl) rfl rfl rfl rfl hZ ?_
  refine EA.tLoad 4 rfl (by kernel_rfl) rfl rfl rfl rfl (fun _ hz => hz ▸ ct) hZ ?_
  refine EA.tMove 5 rfl (by kernel_rfl) rfl rfl rfl rfl hZ ?_
  refine EA.tMove 8 rfl (by kernel_rfl) rfl rfl rfl rfl hZ ?_
  refine EA.tNil 9 rfl (by kernel_rfl) rfl rfl rfl rfl hZ ?_
  refine EA.tField 10 rfl (by kernel_rfl) rfl rfl rfl rfl hZ ?_
  refine EA.tLoad 11 rfl (by kernel_rfl) rfl rfl rfl rfl (fun _ hz => hz ▸ cs) hZ ?_
  refine EA.tLen1 12 rfl (by kernel_rfl) rfl rfl rfl rfl hZ ?_
  refine EA.callD 6 rfl (by kernel_rfl) rfl rfl rfl rfl rfl rfl (cload (deq_cell r (k := 2) (by omega) (by omega) hT)) hZ ?_
  refine EA.tSub (kd := .i64) (r := (c : Int)) 7 rfl (by kernel_rfl) rfl rfl rfl rfl rfl hs hZ ?_
  refine EA.tCmpT 13 rfl (by kernel_rfl) rfl rfl rfl rfl rfl rfl (by first | (dsimp only [cmpP]; omega) | exact rfl | exact Int.le_refl _) hZ ?_
  refine EA.done (by kernel_rfl) ?_
  (repeat (first | refine EK.seq ?_ | refine EK.region ?_ | refine ER.done ?_ | refine ER.assign rfl rfl rfl ?_ | refine EK.condT rfl ?_ | refine EK.ret ?_))
  exact EU.ret1 rfl rfl det
set_option maxRecDepth 8000 in
set_option maxHeartbeats 1000000 in
theorem dpop_one {e : Nat} {T x : Int} (r : Rep h (deqM n cap rest B v)) (hn : n = 2 ^ e) (he : e <= 12) (hT : v 2 = W64 T) (hb : v 3 = W64 (T + 1)) (hx : v (4 + slot n T) = x) (hS : DFree S δ.g n B) :
    CallW Try.prog main S 42 #[ptr (B 0), .pointer none] h δ (Ret fun w h' δ' => w = .tuple #[.int .i64 x, .bool true] /\ δ' = δ /\ (∃ v', v' 2 = W64 (T + 1) /\ v' 3 = W64 (T + 1) /\ Rep h' (deqM n cap rest B v')) /\ Upd (fun b => ∃ k, k < 4 + n /\ b = B k) h h') := by
  have hpos : 0 < n := by rw [hn]; exact Nat.two_pow_pos e
  have hlt := slot_lt hpos T
  have ct := deq_top r
  have cb := deq_bot r
  have hs : W64 (W64 T - W64 T) = 0 := by rw [w_sub, Int.sub_self]; exact w_small (by omega) (by omega)
  refine CallW.start (n := 74) rfl rfl ?_
  (repeat (first | refine EK.seq ?_ | refine EK.region ?_ | refine ER.done ?_ | refine ER.move rfl rfl rfl ?_ | refine ER.assign rfl rfl rfl ?_))
  refine ER.callD rfl rfl rfl rfl rfl (dnone_ok ct) ?_
  (repeat (first | refine EK.seq ?_ | refine EK.region ?_ | refine ER.done ?_ | refine EK.skip ?_ | refine ER.move rfl rfl rfl ?_ | refine ER.nilCheck rfl rfl rfl ?_ | refine ER.fieldAddr rfl rfl rfl ?_ | refine EK.condF rfl ?_ | refine ER.load1 rfl rfl rfl (by assumption) ?_))
  refine ER.callD rfl rfl rfl rfl rfl (cload (deq_cell r (k := 3) (by omega) (by omega) hb)) ?_
  refine ER.sub' (r := W64 T) rfl rfl rfl rfl (by show W64 (W64 (T + 1) - 1) = _; rw [w_sub1, show T + 1 - 1 = T by omega]) ?_
  (repeat (first | refine EK.seq ?_ | refine EK.region ?_ | refine ER.done ?_ | refine ER.move rfl rfl rfl ?_ | refine ER.assign rfl rfl rfl ?_ | refine ER.nilCheck rfl rfl rfl ?_ | refine ER.fieldAddr rfl rfl rfl ?_ | refine ER.load1 rfl rfl rfl (by assumption) ?_))
  refine ER.callD rfl rfl rfl rfl rfl (cstore (deq_cell r (k := 3) (by omega) (by omega) rfl) (fun o => hS _ o (by omega))) ?_
  have r1 := deq_set r (k := 3) (by omega) (by omega) (W64 T)
  have u1 := Upd.set (T := fun b => ∃ k, k < 4 + n /\ b = B k) h (B 3) (cellO (W64 T)) ⟨_, by omega, rfl⟩
  have hT1 : ut v 3 (W64 T) 2 = W64 T := by rw [ut_ne _ _ (by omega), hT]
  have hx1 : ut v 3 (W64 T) (4 + slot n T) = x := by rw [ut_ne _ _ (by omega), hx]
  clear ct cb hT hb hx
  generalize h.setIfInBounds (B 3) (cellO (W64 T)) = h1 at r1 u1 ⊢
  generalize ut v 3 (W64 T) = v1 at r1 hT1 hx1
  have ct := deq_top r1
  have cb := deq_bot r1
  (repeat (first | refine EK.seq ?_ | refine EK.region ?_ | refine ER.done ?_ | refine ER.move rfl rfl rfl ?_ | refine ER.nilCheck rfl rfl rfl ?_ | refine ER.fieldAddr rfl rfl rfl ?_ | refine ER.load1 rfl rfl rfl (by assumption) ?_))
  refine ER.callD rfl rfl rfl rfl rfl (cload (deq_cell r1 (k := 2) (by omega) (by omega) hT1)) ?_
  (repeat (first | refine EK.seq ?_ | refine EK.region ?_ | refine ER.done ?_ | refine EK.skip ?_ | refine ER.move rfl rfl rfl ?_ | refine ER.assign rfl rfl rfl ?_ | refine ER.cmpF rfl rfl rfl rfl rfl (by first | (dsimp only [cmpP]; omega) | exact rfl | exact Int.le_refl _) ?_ | refine ER.sub' (kd := .i64) rfl rfl rfl rfl (i64_in (by omega) (by omega)) ?_ | refine EK.condF rfl ?_))
  refine ER.callD rfl rfl rfl rfl rfl (dat_ok r1 hn he) ?_
  rw [slot_w hn he]
  (repeat refine ER.move rfl rfl rfl ?_)
  refine ER.callD rfl rfl rfl rfl rfl (cload (deq_cell r1 (k := 4 + slot n T) (by omega) (by omega) hx1)) ?_
  (repeat (first | refine EK.seq ?_ | refine EK.region ?_ | refine ER.done ?_ | refine EK.skip ?_ | refine ER.move rfl rfl rfl ?_ | refine ER.assign rfl rfl rfl ?_ | refine ER.nilCheck rfl rfl rfl ?_ | refine ER.fieldAddr rfl rfl rfl ?_ | refine ER.cmpF rfl rfl rfl rfl rfl (by first | (dsimp only [cmpP]; omega) | exact rfl | exact Int.le_refl _) ?_ | refine ER.sub' (kd := .i64) rfl rfl rfl rfl (i64_in (by omega) (by omega)) ?_ | refine EK.condF rfl ?_ | refine ER.load1 rfl rfl rfl (by assumption) ?_))
  refine ER.add (r := W64 (T + 1)) rfl rfl rfl rfl w_add1 ?_
  refine ER.callD rfl rfl rfl rfl rfl (ccas_yes (deq_cell r1 (k := 2) (by omega) (by omega) hT1) (fun o => hS _ o (by omega))) ?_
  have r2 := deq_set r1 (k := 2) (by omega) (by omega) (W64 (T + 1))
  have u2 := Upd.set (T := fun b => ∃ k, k < 4 + n /\ b = B k) h1 (B 2) (cellO (W64 (T + 1))) ⟨_, by omega, rfl⟩
  clear ct cb
  generalize h1.setIfInBounds (B 2) (cellO (W64 (T + 1))) = h2 at r2 u2 ⊢
  have cb := deq_bot r2
  (repeat (first | refine EK.seq ?_ | refine EK.region ?_ | refine ER.done ?_ | refine ER.move rfl rfl rfl ?_ | refine ER.assign rfl rfl rfl ?_ | refine ER.nilCheck rfl rfl rfl ?_ | refine ER.fieldAddr rfl rfl rfl ?_ | refine ER.load1 rfl rfl rfl (by assumption) ?_))
  refine ER.add (r := W64 (T + 1)) rfl rfl rfl rfl w_add1 ?_
  refine ER.callD rfl rfl rfl rfl rfl (cstore (deq_cell r2 (k := 3) (by omega) (by omega) rfl) (fun o => hS _ o (by omega))) ?_
  have r3 := deq_set r2 (k := 3) (by omega) (by omega) (W64 (T + 1))
  have u3 := Upd.set (T := fun b => ∃ k, k < 4 + n /\ b = B k) h2 (B 3) (cellO (W64 (T + 1))) ⟨_, by omega, rfl⟩
  (repeat (first | refine EK.seq ?_ | refine EK.region ?_ | refine ER.done ?_ | refine EK.skip ?_ | refine ER.move rfl rfl rfl ?_ | refine ER.assign rfl rfl rfl ?_ | refine ER.notB rfl rfl rfl ?_ | refine EK.condF rfl ?_ | refine EK.ret ?_))
  exact EU.ret2 rfl rfl rfl ⟨rfl, rfl, ⟨_, by rw [ut_ne _ _ (by omega), ut_same], ut_same _ _ _, r3⟩, (u1.trans u2).trans u3⟩
set_option maxRecDepth 8000 in
set_option maxHeartbeats 1000000 in
theorem dpop_empty {T : Int} (r : Rep h (deqM n cap rest B v)) (hT : v 2 = W64 T) (hb : v 3 = W64 T) (hS : DFree S δ.g n B) :
    CallW Try.prog main S 42 #[ptr (B 0), .pointer none] h δ (Ret fun w h' δ' => w = .tuple #[.int .i64 0, .bool false] /\ δ' = δ /\ Upd (fun b => ∃ k, k < 4 + n /\ b = B k) h h') := by
  have ct := deq_top r
  have cb := deq_bot r
  have hs : W64 (W64 (T - 1) - W64 T) = -1 := by rw [w_sub, show T - 1 - T = -1 by omega]; exact w_small (by omega) (by omega)
  refine CallW.start (n := 74) rfl rfl ?_
  (repeat (first | refine EK.seq ?_ | refine EK.region ?_ | refine ER.done ?_ | refine ER.move rfl rfl rfl ?_ | refine ER.assign rfl rfl rfl ?_))
  refine ER.callD rfl rfl rfl rfl rfl (dnone_ok ct) ?_
  (repeat (first | refine EK.seq ?_ | refine EK.region ?_ | refine ER.done ?_ | refine EK.skip ?_ | refine ER.move rfl rfl rfl ?_ | refine ER.nilCheck rfl rfl rfl ?_ | refine ER.fieldAddr rfl rfl rfl ?_ | refine EK.condF rfl ?_ | refine ER.load1 rfl rfl rfl (by assumption) ?_))
  refine ER.callD rfl rfl rfl rfl rfl (cload (deq_cell r (k := 3) (by omega) (by omega) hb)) ?_
  refine ER.sub' (r := W64 (T - 1)) rfl rfl rfl rfl w_sub1 ?_
  (repeat (first | refine EK.seq ?_ | refine EK.region ?_ | refine ER.done ?_ | refine ER.move rfl rfl rfl ?_ | refine ER.assign rfl rfl rfl ?_ | refine ER.nilCheck rfl rfl rfl ?_ | refine ER.fieldAddr rfl rfl rfl ?_ | refine ER.load1 rfl rfl rfl (by assumption) ?_))
  refine ER.callD rfl rfl rfl rfl rfl (cstore (deq_cell r (k := 3) (by omega) (by omega) rfl) (fun o => hS _ o (by omega))) ?_
  have r1 := deq_set r (k := 3) (by omega) (by omega) (W64 (T - 1))
  have u1 := Upd.set (T := fun b => ∃ k, k < 4 + n /\ b = B k) h (B 3) (cellO (W64 (T - 1))) ⟨_, by omega, rfl⟩
  have hT1 : ut v 3 (W64 (T - 1)) 2 = W64 T := by rw [ut_ne _ _ (by omega), hT]
  clear ct cb hT hb
  generalize h.setIfInBounds (B 3) (cellO (W64 (T - 1))) = h1 at r1 u1 ⊢
  generalize ut v 3 (W64 (T - 1)) = v1 at r1 hT1
  have ct := deq_top r1
  have cb := deq_bot r1
  (repeat (first | refine EK.seq ?_ | refine EK.region ?_ | refine ER.done ?_ | refine ER.move rfl rfl rfl ?_ | refine ER.nilCheck rfl rfl rfl ?_ | refine ER.fieldAddr rfl rfl rfl ?_ | refine ER.load1 rfl rfl rfl (by assumption) ?_))
  refine ER.callD rfl rfl rfl rfl rfl (cload (deq_cell r1 (k := 2) (by omega) (by omega) hT1)) ?_
  (repeat (first | refine EK.seq ?_ | refine EK.region ?_ | refine ER.done ?_ | refine ER.move rfl rfl rfl ?_ | refine ER.assign rfl rfl rfl ?_))
  refine ER.sub' (r := -1) rfl rfl rfl rfl hs ?_
  (repeat (first | refine EK.seq ?_ | refine EK.region ?_ | refine ER.done ?_ | refine ER.move rfl rfl rfl ?_ | refine ER.nilCheck rfl rfl rfl ?_ | refine ER.fieldAddr rfl rfl rfl ?_ | refine ER.cmpT rfl rfl rfl rfl rfl (by first | (dsimp only [cmpP]; omega) | exact rfl | exact Int.le_refl _) ?_ | refine EK.condT rfl ?_ | refine ER.load1 rfl rfl rfl (by assumption) ?_))
  refine ER.add (r := W64 T) rfl rfl rfl rfl (by show W64 (W64 (T - 1) + 1) = _; rw [w_add1, show T - 1 + 1 = T by omega]) ?_
  refine ER.callD rfl rfl rfl rfl rfl (cstore (deq_cell r1 (k := 3) (by omega) (by omega) rfl) (fun o => hS _ o (by omega))) ?_
  have u3 := Upd.set (T := fun b => ∃ k, k < 4 + n /\ b = B k) h1 (B 3) (cellO (W64 T)) ⟨_, by omega, rfl⟩
  (repeat (first | refine EK.seq ?_ | refine EK.region ?_ | refine ER.done ?_ | refine ER.assign rfl rfl rfl ?_ | refine EK.ret ?_))
  exact EU.ret2 rfl rfl rfl ⟨rfl, rfl, u1.trans u3⟩
set_option maxRecDepth 8000 in
set_option maxHeartbeats 1000000 in
theorem dsteal_ok {e c : Nat} {T x : Int} (r : Rep h (deqM n cap rest B v)) (hn : n = 2 ^ e) (he : e <= 12) (hT : v 2 = W64 T) (hb : v 3 = W64 (T + c)) (hc : 0 < c) (hc1 : c <= 4096) (hx : v (4 + slot n T) = x) (hS : DFree S δ.g n B) :
    CallW Try.prog main S 44 #[ptr (B 0), .pointer none] h δ (Ret fun w h' δ' => w = .tuple #[.int .i64 x, .int .i8 1] /\ δ' = δ /\ Rep h' (deqM n cap rest B (ut v 2 (W64 (T + 1)))) /\ Upd (fun b => ∃ k, k < 4 + n /\ b = B k) h h') := by
  have hpos : 0 < n := by rw [hn]; exact Nat.two_pow_pos e
  have hlt := slot_lt hpos T
  have ct := deq_top r
  have cb := deq_bot r
  have hs : W64 (W64 (T + c) - W64 T) = c := by rw [w_sub, show T + c - T = (c : Int) by omega]; exact w_small (by omega) (by omega)
  refine CallW.start (n := 44) rfl rfl ?_
  (repeat (first | refine EK.seq ?_ | refine EK.region ?_ | refine ER.done ?_ | refine ER.move rfl rfl rfl ?_ | refine ER.assign rfl rfl rfl ?_))
  refine ER.callD rfl rfl rfl rfl rfl (dnone_ok ct) ?_
  (repeat (first | refine EK.seq ?_ | refine EK.region ?_ | refine ER.done ?_ | refine EK.skip ?_ | refine ER.move rfl rfl rfl ?_ | refine ER.nilCheck rfl rfl rfl ?_ | refine ER.fieldAddr rfl rfl rfl ?_ | refine EK.condF rfl ?_ | refine ER.load1 rfl rfl rfl (by assumption) ?_))
  refine ER.callD rfl rfl rfl rfl rfl (cload (deq_cell r (k := 2) (by omega) (by omega) hT)) ?_
  (repeat (first | refine EK.seq ?_ | refine EK.region ?_ | refine ER.done ?_ | refine ER.move rfl rfl rfl ?_ | refine ER.assign rfl rfl rfl ?_ | refine ER.nilCheck rfl rfl rfl ?_ | refine ER.fieldAddr rfl rfl rfl ?_ | refine ER.load1 rfl rfl rfl (by assumption) ?_))
  refine ER.callD rfl rfl rfl rfl rfl (cload (deq_cell r (k := 3) (by omega) (by omega) hb)) ?_
  (repeat refine ER.move rfl rfl rfl ?_)
  refine ER.sub' (r := (c : Int)) rfl rfl rfl rfl hs ?_
  (repeat (first | refine EK.seq ?_ | refine EK.region ?_ | refine ER.done ?_ | refine EK.skip ?_ | refine ER.move rfl rfl rfl ?_ | refine ER.cmpF rfl rfl rfl rfl rfl (by first | (dsimp only [cmpP]; omega) | exact rfl | exact Int.le_refl _) ?_ | refine EK.condF rfl ?_))
  refine ER.callD rfl rfl rfl rfl rfl (dat_ok r hn he) ?_
  rw [slot_w hn he]
  refine ER.makeF rfl rfl rfl rfl rfl rfl ?_
  (repeat (first | refine EK.seq ?_ | refine EK.region ?_ | refine ER.done ?_ | refine ER.move rfl rfl rfl ?_ | refine ER.assign rfl rfl rfl ?_))
  refine ER.callFR rfl rfl rfl rfl rfl (cload (deq_cell r (k := 4 + slot n T) (by omega) (by omega) hx)) ?_
  rintro _ _ _ ⟨rfl, rfl, rfl⟩
  (repeat (first | refine EK.seq ?_ | refine EK.region ?_ | refine ER.done ?_ | refine ER.move rfl rfl rfl ?_ | refine ER.assign rfl rfl rfl ?_ | refine ER.nilCheck rfl rfl rfl ?_ | refine ER.fieldAddr rfl rfl rfl ?_ | refine ER.load1 rfl rfl rfl (by assumption) ?_))
  refine ER.add (r := W64 (T + 1)) rfl rfl rfl rfl w_add1 ?_
  refine ER.callD rfl rfl rfl rfl rfl (ccas_yes (deq_cell r (k := 2) (by omega) (by omega) hT) (fun o => hS _ o (by omega))) ?_
  have r2 := deq_set r (k := 2) (by omega) (by omega) (W64 (T + 1))
  (repeat (first | refine EK.seq ?_ | refine EK.region ?_ | refine ER.done ?_ | refine EK.skip ?_ | refine ER.move rfl rfl rfl ?_ | refine ER.assign rfl rfl rfl ?_ | refine ER.notB rfl rfl rfl ?_ | refine EK.condF rfl ?_ | refine EK.ret ?_))
  exact EU.ret2 rfl rfl rfl ⟨rfl, rfl, r2, Upd.set _ _ _ ⟨_, by omega, rfl⟩⟩
end
end
section
open Go Go.TJ Go.Conc Go.Proofs
section
variable {A : Type}
def pushD (n : Nat) (B : Nat -> Nat) (v : Int) (k : Int -> Pr A) : Pr A :=
  .step ⟨1, B 3, 0, 0⟩ fun b => .step ⟨1, B 2, 0, 0⟩ fun p => if (n : Int) <= W64 (b - p) then k 12 else .step ⟨2, B (4 + slot n b), v, 0⟩ fun _ => .step ⟨2, B 3, W64 (b + 1), 0⟩ fun _ => k 0
def popD (n : Nat) (B : Nat -> Nat) (k : Int -> Bool -> Pr A) : Pr A :=
  .step ⟨1, B 3, 0, 0⟩ fun b => .step ⟨2, B 3, W64 (b - 1), 0⟩ fun _ => .step ⟨1, B 2, 0, 0⟩ fun p =>
    if W64 (W64 (b - 1) - p) < 0 then .step ⟨2, B 3, W64 (W64 (b - 1) + 1), 0⟩ fun _ => k 0 false
    else .step ⟨1, B (4 + slot n (W64 (b - 1))), 0, 0⟩ fun v => if 0 < W64 (W64 (b - 1) - p) then k v true
      else .step ⟨3, B 2, p, W64 (p + 1)⟩ fun w => .step ⟨2, B 3, W64 (W64 (b - 1) + 1), 0⟩ fun _ => if w = p then k v true else k 0 false
def stealD (n : Nat) (B : Nat -> Nat) (k : Int -> Int -> Pr A) : Pr A :=
  .step ⟨1, B 2, 0, 0⟩ fun p => .step ⟨1, B 3, 0, 0⟩ fun b => if W64 (b - p) <= 0 then k 0 0
    else .step ⟨1, B (4 + slot n p), 0, 0⟩ fun v => .step ⟨3, B 2, p, W64 (p + 1)⟩ fun w => if w = p then k v 1 else k 0 2
end
structure DeqH (n cap : Nat) (rest : List Value) (B : Nat -> Nat) (h : Hp) : Prop where
  o0 : h[B 0]? = some (.cells #[ptr (B 2), ptr (B 3), .slice (some ⟨B 1, 0, none⟩) n cap] 236 (0, 0))
  o1 : h[B 1]? = some (.cells (((List.range n).map fun j => ptr (B (4 + j))) ++ rest).toArray 220 (0, 0))
section
variable {h : Hp} {n cap : Nat} {rest : List Value} {B : Nat -> Nat}
theorem DeqH.top (r : DeqH n cap rest B h) : hcell h ⟨B 0, 0, none⟩ = some (ptr (B 2)) := hcell_of r.o0 rfl
theorem DeqH.bot (r : DeqH n cap rest B h) : hcell h ⟨B 0, 1, none⟩ = some (ptr (B 3)) := hcell_of r.o0 rfl
theorem DeqH.sl (r : DeqH n cap rest B h) : hcell h ⟨B 0, 2, none⟩ = some (.slice (some ⟨B 1, 0, none⟩) n cap) := hcell_of r.o0 rfl
theorem DeqH.row (r : DeqH n cap rest B h) {j : Nat} (hj : j < n) : hcell h ⟨B 1, 0 + j * 1, none⟩ = some (ptr (B (4 + j))) := hcell_of r.o1 (by
  rw [show 0 + j * 1 = j by omega]
  simp only [List.getElem?_toArray]
  rw [List.getElem?_append_left (by simp; omega)]
  simp [hj])
end
section
variable {Γ : Type} {main : Bool} {S : Sit Γ} {δ : Ix Γ} {h : Hp} {n cap : Nat} {rest : List Value} {B : Nat -> Nat}
set_option maxRecDepth 8000 in
set_option maxHeartbeats 1000000 in
theorem dat_T {e : Nat} {x : Int} (r : DeqH n cap rest B h) (hn : n = 2 ^ e) (he : e <= 12) : CallW Try.prog main S 105 #[ptr (B 0), .int .i64 x] h δ (Ret (Det (ptr (B (4 + slot n x))) h δ)) := by
  have hle : n <= 4096 := by have := Nat.pow_le_pow_right (n := 2) (by decide) he; omega
  have hpos : 0 < n := by rw [hn]; exact Nat.two_pow_pos e
  have hlt := slot_lt hpos x
  have cs := r.sl
  have cr := r.row hlt
  refine CallW.start (n := 21) rfl rfl ?_
  (repeat (first | refine EK.seq ?_ | refine EK.region ?_ | refine ER.done ?_ | refine ER.assign rfl rfl rfl ?_))
  refine EK.regionAny (fun h' => h' = h) ?_
  have hZ : h = h := rfl
  refine EA.tMove 0 rfl (by kernel_rfl) rfl rfl rfl rfl hZ ?_
  refine EA.tNil 1 rfl (by kernel_rfl) rfl rfl rfl rfl hZ ?_
  refine EA.tField 2 rfl (by kernel_rfl) rfl rfl rfl rfl hZ ?_
  refine EA.tLoad 3 rfl (by kernel_rfl) rfl rfl rfl rfl (fun _ hz => hz ▸ cs) hZ ?_
  refine EA.tMove 4 rfl (by kernel_rfl) rfl rfl rfl rfl hZ ?_
  refine EA.tConv (r := IntKind.u64.wrap x) 5 rfl (by kernel_rfl) rfl rfl rfl rfl rfl hZ ?_
  refine EA.tMove 6 rfl (by kernel_rfl) rfl rfl rfl rfl hZ ?_
  refine EA.tNil 7 rfl (by kernel_rfl) rfl rfl rfl rfl hZ ?_
  refine EA.tField 8 rfl (by kernel_rfl) rfl rfl rfl rfl hZ ?_
  refine EA.tLoad 9 rfl (by kernel_rfl) rfl rfl rfl rfl (fun _ hz => hz ▸ cs) hZ ?_
  refine EA.tLen1 10 rfl (by kernel_rfl) rfl rfl rfl rfl hZ ?_
  refine EA.tSub (kd := .i64) 11 rfl (by kernel_rfl) rfl rfl rfl rfl rfl (i64_in (by omega) (by omega)) hZ ?_
  refine EA.tConv (r := IntKind.u64.wrap ((n : Int) - 1)) 12 rfl (by kernel_rfl) rfl rfl rfl rfl rfl hZ ?_
  refine EA.tBinI (kd := .u64) (v := .int .u64 (slot n x : Int)) 13 rfl (by kernel_rfl) rfl rfl rfl rfl rfl ((binOp_bits (.inl rfl)).trans (by rw [slot_bits hn he])) hZ ?_
  refine EA.tIdxS 14 rfl (by kernel_rfl) rfl rfl rfl rfl rfl (by omega) (by omega) hZ ?_
  refine EA.tLoad 15 rfl (by kernel_rfl) rfl rfl rfl rfl (fun _ hz => hz ▸ cr) hZ ?_
  refine EA.tAssign 16 rfl (by kernel_rfl) rfl rfl rfl rfl hZ ?_
  refine EA.done (by kernel_rfl) ?_
  (repeat refine EK.ret ?_)
  exact EU.ret1 rfl rfl det
end
section
variable {X : Us} [HasE X] {A : Type} {P : Nat -> Pr A} {told : X.U -> Nat -> List A} {n cap e : Nat} {rest : List Value} {B : Nat -> Nat} {i : Nat} {γ γ' : GG X} {u : X.U} {L : List (Nat × Obj)} {h : Hp} {t : Nat}
structure DeqK (X : Us) (n e : Nat) (B : Nat -> Nat) : Prop where
  cell : ∀ k, 2 <= k -> k < 4 + n -> X.isC (B k)
  hn : n = 2 ^ e
  he : e <= 12
omit [HasE X] in
theorem DeqK.pos (D : DeqK X n e B) : 0 < n := by rw [D.hn]; exact Nat.two_pow_pos e
omit [HasE X] in
theorem DeqK.slot (D : DeqK X n e B) (x : Int) : X.isC (B (4 + slot n x)) := D.cell _ (by omega) (by have := slot_lt D.pos x; omega)
omit [HasE X] in
theorem DeqK.le (D : DeqK X n e B) : n <= 4096 := by have := Nat.pow_le_pow_right (n := 2) (by decide) D.he; have := D.hn; omega
set_option maxRecDepth 8000 in
set_option maxHeartbeats 4000000 in
theorem dpush_T (K : CodX X P told (DeqH n cap rest B)) (D : DeqK X n e B) {v : Int} {k : Int -> Pr A} (a : AtP X P told i γ u L h (pushD n B v k)) (ht : t = γ.p.tb i) :
    CallW Try.prog false (SitT Try.prog (PX X) (i + 1)) 41 #[ptr (B 0), ptr t, .int .i64 v] h ⟨0, γ⟩ (RetP (fun w h' δ' => ∃ (γ' : GG X) (e : Int), δ' = ⟨0, γ'⟩ /\ w = .int .i64 e /\ Nxt X P told i γ u L γ' h' (k e)) (Halt X i γ.p)) := by
  subst ht
  have hle := D.le
  have s0 := K.mem _ _ a.thr.I
  have ct := s0.top
  have cb := s0.bot
  refine CallW.start (n := 44) rfl rfl ?_
  (repeat (first | refine EK.seq ?_ | refine EK.region ?_ | refine ER.done ?_ | refine ER.move rfl rfl rfl ?_ | refine ER.assign rfl rfl rfl ?_))
  refine ER.callD rfl rfl rfl rfl rfl (dnone_ok ct) ?_
  (repeat (first | refine EK.seq ?_ | refine EK.region ?_ | refine ER.done ?_ | refine EK.skip ?_ | refine ER.move rfl rfl rfl ?_ | refine ER.nilCheck rfl rfl rfl ?_ | refine ER.fieldAddr rfl rfl rfl ?_ | refine EK.condF rfl ?_ | refine ER.load1 rfl rfl rfl (by assumption) ?_))
  refine ER.callP rfl rfl rfl rfl rfl (loadC K a (D.cell 3 (by omega) (by have := D.pos; omega)) rfl) (fun _ _ _ x => x) ?_
  rintro _ h1 δ1 ⟨γ1, rfl, rfl, nx1, s1⟩
  generalize γ1.p.val (B 3) = b at nx1 ⊢
  clear ct cb
  (repeat (first | refine EK.seq ?_ | refine ER.done ?_ | refine ER.assign rfl rfl rfl ?_))
  refine EK.regionAny (fun h' => hcell h' ⟨B 0, 0, none⟩ = some (ptr (B 2)) /\ hcell h' ⟨B 0, 2, none⟩ = some (.slice (some ⟨B 1, 0, none⟩) n cap)) ?_
  have hZ := And.intro s1.top s1.sl
  refine EA.tMove 0 rfl (by kernel_rfl) rfl rfl rfl rfl hZ ?_
  refine EA.tMove 1 rfl (by kernel_rfl) rfl rfl rfl rfl hZ ?_
  refine EA.tNil 2 rfl (by kernel_rfl) rfl rfl rfl rfl hZ ?_
  refine EA.tField 3 rfl (by kernel_rfl) rfl rfl rfl rfl hZ ?_
  refine EA.tLoad 4 rfl (by kernel_rfl) rfl rfl rfl rfl (fun _ hz => hz.1) hZ ?_
  refine EA.tMove 5 rfl (by kernel_rfl) rfl rfl rfl rfl hZ ?_
  refine EA.tMove 8 rfl (by kernel_rfl) rfl rfl rfl rfl hZ ?_
  refine EA.tNil 9 rfl (by kernel_rfl) rfl rfl rfl rfl hZ ?_
  refine EA.tField 10 rfl (by kernel_rfl) rfl rfl rfl rfl hZ ?_
  refine EA.tLoad 11 rfl (by kernel_rfl) rfl rfl rfl rfl (fun _ hz => hz.2) hZ ?_
  refine EA.tLen1 12 rfl (by kernel_rfl) rfl rfl rfl rfl hZ ?_
  refine eaCallP 6 rfl (by kernel_rfl) rfl rfl rfl rfl rfl rfl (loadC K nx1.at_ (D.cell 2 (by omega) (by have := D.pos; omega)) nx1.al.tb.symm) (fun _ _ _ x => x.along nx1.al) ?_
  rintro _ h2 δ2 ⟨γ2, rfl, rfl, nx2, s2⟩
  generalize γ2.p.val (B 2) = p at nx2 ⊢
  have hZ := And.intro s2.top s2.sl
  refine ⟨hZ, ?_⟩
  refine EA.tSub (kd := .i64) (r := W64 (b - p)) 7 rfl (by kernel_rfl) rfl rfl rfl rfl rfl rfl hZ ?_
  have nx := nx1.trans K.ok nx2
  by_cases hc : (n : Int) <= W64 (b - p)
  · rw [if_pos hc] at nx
    refine EA.tCmpT 13 rfl (by kernel_rfl) rfl rfl rfl rfl rfl rfl (by first | (dsimp only [cmpP]; omega) | exact rfl | exact Int.le_refl _) hZ ?_
    refine EA.done (by kernel_rfl) ?_
    (repeat (first | refine EK.seq ?_ | refine EK.region ?_ | refine ER.done ?_ | refine ER.assign rfl rfl rfl ?_ | refine EK.condT rfl ?_ | refine EK.ret ?_))
    exact EU.ret1 rfl rfl ⟨γ2, 12, rfl, rfl, nx⟩
  · rw [if_neg hc] at nx nx2
    refine EA.tCmpF 13 rfl (by kernel_rfl) rfl rfl rfl rfl rfl rfl (by first | (dsimp only [cmpP]; omega) | exact rfl | exact Int.le_refl _) hZ ?_
    refine EA.done (by kernel_rfl) ?_
    (repeat (first | refine EK.seq ?_ | refine EK.region ?_ | refine EK.skip ?_ | refine ER.move rfl rfl rfl ?_ | refine EK.condF rfl ?_))
    refine ER.callD rfl rfl rfl rfl rfl (dat_T s2 D.hn D.he) ?_
    (repeat refine ER.move rfl rfl rfl ?_)
    refine ER.callP rfl rfl rfl rfl rfl (storeC K nx.at_ (D.slot b) nx.al.tb.symm) (fun _ _ _ y => y.along nx.al) ?_
    rintro _ h3 δ3 ⟨γ3, rfl, rfl, nx3, s3⟩
    replace nx := nx.trans K.ok nx3
    have cb := s3.bot
    (repeat (first | refine EK.seq ?_ | refine EK.region ?_ | refine ER.done ?_ | refine ER.move rfl rfl rfl ?_ | refine ER.nilCheck rfl rfl rfl ?_ | refine ER.fieldAddr rfl rfl rfl ?_ | refine ER.load1 rfl rfl rfl (by assumption) ?_))
    refine ER.add (r := W64 (b + 1)) rfl rfl rfl rfl rfl ?_
    skip
    refine ER.callP rfl rfl rfl rfl rfl (storeC K nx.at_ (D.cell 3 (by omega) (by have := D.pos; omega)) nx.al.tb.symm) (fun _ _ _ y => y.along nx.al) ?_
    rintro _ h4 δ4 ⟨γ4, rfl, rfl, nx4, s4⟩
    (repeat (first | refine EK.seq ?_ | refine EK.region ?_ | refine ER.done ?_ | refine ER.assign rfl rfl rfl ?_ | refine EK.ret ?_))
    exact EU.ret1 rfl rfl ⟨γ4, 0, rfl, rfl, nx.trans K.ok nx4⟩
set_option maxRecDepth 8000 in
set_option maxHeartbeats 4000000 in
theorem dpop_T (K : CodX X P told (DeqH n cap rest B)) (D : DeqK X n e B) {k : Int -> Bool -> Pr A} (a : AtP X P told i γ u L h (popD n B k)) (ht : t = γ.p.tb i) :
    CallW Try.prog false (SitT Try.prog (PX X) (i + 1)) 42 #[ptr (B 0), ptr t] h ⟨0, γ⟩ (RetP (fun w h' δ' => ∃ (γ' : GG X) (v : Int) (e : Bool), δ' = ⟨0, γ'⟩ /\ w = .tuple #[.int .i64 v, .bool e] /\ Nxt X P told i γ u L γ' h' (k v e)) (Halt X i γ.p)) := by
  subst ht
  have hle := D.le
  have hpos := D.pos
  have s0 := K.mem _ _ a.thr.I
  have ct := s0.top
  have cb := s0.bot
  refine CallW.start (n := 74) rfl rfl ?_
  (repeat (first | refine EK.seq ?_ | refine EK.region ?_ | refine ER.done ?_ | refine ER.move rfl rfl rfl ?_ | refine ER.assign rfl rfl rfl ?_))
  refine ER.callD rfl rfl rfl rfl rfl (dnone_ok ct) ?_
  (repeat (first | refine EK.seq ?_ | refine EK.region ?_ | refine ER.done ?_ | refine EK.skip ?_ | refine ER.move rfl rfl rfl ?_ | refine ER.nilCheck rfl rfl rfl ?_ | refine ER.fieldAddr rfl rfl rfl ?_ | refine EK.condF rfl ?_ | refine ER.load1 rfl rfl rfl (by assumption) ?_))
  refine ER.callP rfl rfl rfl rfl rfl (loadC K a (D.cell 3 (by omega) (by omega)) rfl) (fun _ _ _ x => x) ?_
  rintro _ h1 δ1 ⟨γ1, rfl, rfl, nx, s1⟩
  generalize γ1.p.val (B 3) = b at nx ⊢
  clear ct cb
  have cb := s1.bot
  refine ER.sub' (r := W64 (b - 1)) rfl rfl rfl rfl rfl ?_
  (repeat (first | refine EK.seq ?_ | refine EK.region ?_ | refine ER.done ?_ | refine ER.move rfl rfl rfl ?_ | refine ER.assign rfl rfl rfl ?_ | refine ER.nilCheck rfl rfl rfl ?_ | refine ER.fieldAddr rfl rfl rfl ?_ | refine ER.load1 rfl rfl rfl (by assumption) ?_))
  refine ER.callP rfl rfl rfl rfl rfl (storeC K nx.at_ (D.cell 3 (by omega) (by omega)) nx.al.tb.symm) (fun _ _ _ y => y.along nx.al) ?_
  rintro _ h2 δ2 ⟨γ2, rfl, rfl, nx2, s2⟩
  replace nx := nx.trans K.ok nx2
  clear nx2 s1 cb
  generalize W64 (b - 1) = b at nx ⊢
  have ct := s2.top
  (repeat (first | refine EK.seq ?_ | refine EK.region ?_ | refine ER.done ?_ | refine ER.move rfl rfl rfl ?_ | refine ER.nilCheck rfl rfl rfl ?_ | refine ER.fieldAddr rfl rfl rfl ?_ | refine ER.load1 rfl rfl rfl (by assumption) ?_))
  refine ER.callP rfl rfl rfl rfl rfl (loadC K nx.at_ (D.cell 2 (by omega) (by omega)) nx.al.tb.symm) (fun _ _ _ y => y.along nx.al) ?_
  rintro _ h3 δ3 ⟨γ3, rfl, rfl, nx3, s3⟩
  replace nx := nx.trans K.ok nx3
  clear nx3 s2 ct
  generalize γ3.p.val (B 2) = p at nx ⊢
  have cb := s3.bot
  have ct := s3.top
  (repeat (first | refine EK.seq ?_ | refine EK.region ?_ | refine ER.done ?_ | refine ER.move rfl rfl rfl ?_ | refine ER.assign rfl rfl rfl ?_))
  refine ER.sub' (r := W64 (b - p)) rfl rfl rfl rfl rfl ?_
  by_cases hc : W64 (b - p) < 0
  · rw [if_pos hc] at nx
    (repeat (first | refine EK.seq ?_ | refine EK.region ?_ | refine ER.done ?_ | refine ER.move rfl rfl rfl ?_ | refine ER.nilCheck rfl rfl rfl ?_ | refine ER.fieldAddr rfl rfl rfl ?_ | refine ER.cmpT rfl rfl rfl rfl rfl (by first | (dsimp only [cmpP]; omega) | exact rfl | exact Int.le_refl _) ?_ | refine EK.condT rfl ?_ | refine ER.load1 rfl rfl rfl (by assumption) ?_))
    refine ER.add (r := W64 (b + 1)) rfl rfl rfl rfl rfl ?_
    skip
    refine ER.callP rfl rfl rfl rfl rfl (storeC K nx.at_ (D.cell 3 (by omega) (by omega)) nx.al.tb.symm) (fun _ _ _ y => y.along nx.al) ?_
    rintro _ h4 δ4 ⟨γ4, rfl, rfl, nx4, s4⟩
    (repeat (first | refine EK.seq ?_ | refine EK.region ?_ | refine ER.done ?_ | refine ER.assign rfl rfl rfl ?_ | refine EK.ret ?_))
    exact EU.ret2 rfl rfl rfl ⟨γ4, 0, false, rfl, rfl, nx.trans K.ok nx4⟩
  · rw [if_neg hc] at nx
    (repeat (first | refine EK.seq ?_ | refine EK.region ?_ | refine ER.done ?_ | refine EK.skip ?_ | refine ER.move rfl rfl rfl ?_ | refine ER.cmpF rfl rfl rfl rfl rfl (by first | (dsimp only [cmpP]; omega) | exact rfl | exact Int.le_refl _) ?_ | refine EK.condF rfl ?_))
    refine ER.callD rfl rfl rfl rfl rfl (dat_T s3 D.hn D.he) ?_
    (repeat refine ER.move rfl rfl rfl ?_)
    refine ER.callP rfl rfl rfl rfl rfl (loadC K nx.at_ (D.slot b) nx.al.tb.symm) (fun _ _ _ y => y.along nx.al) ?_
    rintro _ h4 δ4 ⟨γ4, rfl, rfl, nx4, s4⟩
    replace nx := nx.trans K.ok nx4
    clear nx4 s3 cb ct
    generalize γ4.p.val (B (4 + slot n b)) = v at nx ⊢
    have cb := s4.bot
    have ct := s4.top
    (repeat (first | refine EK.seq ?_ | refine EK.region ?_ | refine ER.done ?_ | refine ER.move rfl rfl rfl ?_ | refine ER.assign rfl rfl rfl ?_))
    refine ER.sub' (r := W64 (b - p)) rfl rfl rfl rfl rfl ?_
    by_cases hd : 0 < W64 (b - p)
    · rw [if_pos hd] at nx
      (repeat (first | refine EK.seq ?_ | refine EK.region ?_ | refine ER.done ?_ | refine ER.move rfl rfl rfl ?_ | refine ER.assign rfl rfl rfl ?_ | refine ER.cmpT rfl rfl rfl rfl rfl (by first | (dsimp only [cmpP]; omega) | exact rfl | exact Int.le_refl _) ?_ | refine EK.condT rfl ?_ | refine EK.ret ?_))
      exact EU.ret2 rfl rfl rfl ⟨γ4, v, true, rfl, rfl, nx⟩
    · rw [if_neg hd] at nx
      (repeat (first | refine EK.seq ?_ | refine EK.region ?_ | refine ER.done ?_ | refine EK.skip ?_ | refine ER.move rfl rfl rfl ?_ | refine ER.nilCheck rfl rfl rfl ?_ | refine ER.fieldAddr rfl rfl rfl ?_ | refine ER.cmpF rfl rfl rfl rfl rfl (by first | (dsimp only [cmpP]; omega) | exact rfl | exact Int.le_refl _) ?_ | refine EK.condF rfl ?_ | refine ER.load1 rfl rfl rfl (by assumption) ?_))
      refine ER.add (r := W64 (p + 1)) rfl rfl rfl rfl rfl ?_
      refine ER.callP rfl rfl rfl rfl rfl (casC K nx.at_ (D.cell 2 (by omega) (by omega)) nx.al.tb.symm) (fun _ _ _ y => y.along nx.al) ?_
      rintro _ h5 δ5 ⟨γ5, rfl, rfl, nx5, s5⟩
      replace nx := nx.trans K.ok nx5
      clear nx5 s4 cb ct
      generalize γ5.p.val (B 2) = w at nx ⊢
      have cb := s5.bot
      (repeat (first | refine EK.seq ?_ | refine EK.region ?_ | refine ER.done ?_ | refine ER.move rfl rfl rfl ?_ | refine ER.assign rfl rfl rfl ?_ | refine ER.nilCheck rfl rfl rfl ?_ | refine ER.fieldAddr rfl rfl rfl ?_ | refine ER.load1 rfl rfl rfl (by assumption) ?_))
      refine ER.add (r := W64 (b + 1)) rfl rfl rfl rfl rfl ?_
      skip
      refine ER.callP rfl rfl rfl rfl rfl (storeC K nx.at_ (D.cell 3 (by omega) (by omega)) nx.al.tb.symm) (fun _ _ _ y => y.along nx.al) ?_
      rintro _ h6 δ6 ⟨γ6, rfl, rfl, nx6, s6⟩
      replace nx := nx.trans K.ok nx6
      clear nx6
      by_cases hw : w = p
      · rw [if_pos hw] at nx
        rw [decide_eq_true hw]
        (repeat (first | refine EK.seq ?_ | refine EK.region ?_ | refine ER.done ?_ | refine EK.skip ?_ | refine ER.move rfl rfl rfl ?_ | refine ER.assign rfl rfl rfl ?_ | refine ER.notB rfl rfl rfl ?_ | refine EK.condF rfl ?_ | refine EK.ret ?_))
        exact EU.ret2 rfl rfl rfl ⟨γ6, v, true, rfl, rfl, nx⟩
      · rw [if_neg hw] at nx
        rw [decide_eq_false hw]
        (repeat (first | refine EK.seq ?_ | refine EK.region ?_ | refine ER.done ?_ | refine ER.move rfl rfl rfl ?_ | refine ER.assign rfl rfl rfl ?_ | refine ER.notB rfl rfl rfl ?_ | refine EK.condT rfl ?_ | refine EK.ret ?_))
        exact EU.ret2 rfl rfl rfl ⟨γ6, 0, false, rfl, rfl, nx⟩
set_option maxRecDepth 8000 in
set_option maxHeartbeats 4000000 in
theorem dsteal_T (K : CodX X P told (DeqH n cap rest B)) (D : DeqK X n e B) {k : Int -> Int -> Pr A} (a : AtP X P told i γ u L h (stealD n B k)) (ht : t = γ.p.tb i) :
    CallW Try.prog false (SitT Try.prog (PX X) (i + 1)) 44 #[ptr (B 0), ptr t] h ⟨0, γ⟩ (RetP (fun w h' δ' => ∃ (γ' : GG X) (v how : Int), δ' = ⟨0, γ'⟩ /\ w = .tuple #[.int .i64 v, .int .i8 how] /\ Nxt X P told i γ u L γ' h' (k v how)) (Halt X i γ.p)) := by
  subst ht
  have hle := D.le
  have hpos := D.pos
  have s0 := K.mem _ _ a.thr.I
  have ct := s0.top
  refine CallW.start (n := 44) rfl rfl ?_
  (repeat (first | refine EK.seq ?_ | refine EK.region ?_ | refine ER.done ?_ | refine ER.move rfl rfl rfl ?_ | refine ER.assign rfl rfl rfl ?_))
  refine ER.callD rfl rfl rfl rfl rfl (dnone_ok ct) ?_
  (repeat (first | refine EK.seq ?_ | refine EK.region ?_ | refine ER.done ?_ | refine EK.skip ?_ | refine ER.move rfl rfl rfl ?_ | refine ER.nilCheck rfl rfl rfl ?_ | refine ER.fieldAddr rfl rfl rfl ?_ | refine EK.condF rfl ?_ | refine ER.load1 rfl rfl rfl (by assumption) ?_))
  refine ER.callP rfl rfl rfl rfl rfl (loadC K a (D.cell 2 (by omega) (by omega)) rfl) (fun _ _ _ x => x) ?_
  rintro _ h1 δ1 ⟨γ1, rfl, rfl, nx, s1⟩
  generalize γ1.p.val (B 2) = p at nx ⊢
  clear ct
  have cb := s1.bot
  (repeat (first | refine EK.seq ?_ | refine EK.region ?_ | refine ER.done ?_ | refine ER.move rfl rfl rfl ?_ | refine ER.assign rfl rfl rfl ?_ | refine ER.nilCheck rfl rfl rfl ?_ | refine ER.fieldAddr rfl rfl rfl ?_ | refine ER.load1 rfl rfl rfl (by assumption) ?_))
  refine ER.callP rfl rfl rfl rfl rfl (loadC K nx.at_ (D.cell 3 (by omega) (by omega)) nx.al.tb.symm) (fun _ _ _ y => y.along nx.al) ?_
  rintro _ h2 δ2 ⟨γ2, rfl, rfl, nx2, s2⟩
  replace nx := nx.trans K.ok nx2
  clear nx2 s1 cb
  generalize γ2.p.val (B 3) = b at nx ⊢
  have ct := s2.top
  (repeat refine ER.move rfl rfl rfl ?_)
  refine ER.sub' (r := W64 (b - p)) rfl rfl rfl rfl rfl ?_
  by_cases hc : W64 (b - p) <= 0
  · rw [if_pos hc] at nx
    (repeat (first | refine EK.seq ?_ | refine EK.region ?_ | refine ER.done ?_ | refine ER.assign rfl rfl rfl ?_ | refine ER.cmpT rfl rfl rfl rfl rfl (by first | (dsimp only [cmpP]; omega) | exact rfl | exact Int.le_refl _) ?_ | refine EK.condT rfl ?_ | refine EK.ret ?_))
    exact EU.ret2 rfl rfl rfl ⟨γ2, 0, 0, rfl, rfl, nx⟩
  · rw [if_neg hc] at nx
    (repeat (first | refine EK.seq ?_ | refine EK.region ?_ | refine ER.done ?_ | refine EK.skip ?_ | refine ER.move rfl rfl rfl ?_ | refine ER.cmpF rfl rfl rfl rfl rfl (by first | (dsimp only [cmpP]; omega) | exact rfl | exact Int.le_refl _) ?_ | refine EK.condF rfl ?_))
    refine ER.callD rfl rfl rfl rfl rfl (dat_T s2 D.hn D.he) ?_
    refine ER.makeF rfl rfl rfl rfl rfl rfl ?_
    (repeat (first | refine EK.seq ?_ | refine EK.region ?_ | refine ER.done ?_ | refine ER.move rfl rfl rfl ?_ | refine ER.assign rfl rfl rfl ?_))
    refine ER.callP rfl rfl rfl rfl rfl (loadC K nx.at_ (D.slot p) nx.al.tb.symm) (fun _ _ _ y => y.along nx.al) ?_
    rintro _ h3 δ3 ⟨γ3, rfl, rfl, nx3, s3⟩
    replace nx := nx.trans K.ok nx3
    clear nx3 s2 ct
    generalize γ3.p.val (B (4 + slot n p)) = v at nx ⊢
    have ct := s3.top
    (repeat (first | refine EK.seq ?_ | refine EK.region ?_ | refine ER.done ?_ | refine ER.move rfl rfl rfl ?_ | refine ER.assign rfl rfl rfl ?_ | refine ER.nilCheck rfl rfl rfl ?_ | refine ER.fieldAddr rfl rfl rfl ?_ | refine ER.load1 rfl rfl rfl (by assumption) ?_))
    refine ER.add (r := W64 (p + 1)) rfl rfl rfl rfl rfl ?_
    refine ER.callP rfl rfl rfl rfl rfl (casC K nx.at_ (D.cell 2 (by omega) (by omega)) nx.al.tb.symm) (fun _ _ _ y => y.along nx.al) ?_
    rintro _ h5 δ5 ⟨γ5, rfl, rfl, nx5, s5⟩
    replace nx := nx.trans K.ok nx5
    clear nx5
    generalize γ5.p.val (B 2) = w at nx ⊢
    by_cases hw : w = p
    · rw [if_pos hw] at nx
      rw [decide_eq_true hw]
      (repeat (first | refine EK.seq ?_ | refine EK.region ?_ | refine ER.done ?_ | refine EK.skip ?_ | refine ER.move rfl rfl rfl ?_ | refine ER.assign rfl rfl rfl ?_ | refine ER.notB rfl rfl rfl ?_ | refine EK.condF rfl ?_ | refine EK.ret ?_))
      exact EU.ret2 rfl rfl rfl ⟨γ5, v, 1, rfl, rfl, nx⟩
    · rw [if_neg hw] at nx
      rw [decide_eq_false hw]
      (repeat (first | refine EK.seq ?_ | refine EK.region ?_ | refine ER.done ?_ | refine ER.assign rfl rfl rfl ?_ | refine ER.notB rfl rfl rfl ?_ | refine EK.condT rfl ?_ | refine EK.ret ?_))
      exact EU.ret2 rfl rfl rfl ⟨γ5, 0, 2, rfl, rfl, nx⟩
end
end
section
open Go Go.TJ Go.Conc Go.Proofs
inductive DE where
  | pushed (e : Int)
  | pop
  | popped (v : Int) (is : Bool)
  | steal
  | stolen (v how : Int)
structure DS where
  got : Int -> Bool
  stack : List Int
  pushed : Int
  there : Int
  gets : Int
  last : Int
  popping : Bool
  was : Nat -> Int
def DS.z : DS := ⟨fun _ => false, [], 0, 0, 0, 0, false, fun _ => 0⟩
def DS.get (s : DS) (v : Int) : DS := { s with got := fun x => if x = v then true else s.got x, there := s.there - 1, gets := s.gets + 1 }
def dstep (lone : Bool) (s : DS) : Nat × DE -> DS
  | (0, .pushed e) => if e = 0 then { s with pushed := s.pushed + 1, there := s.there + 1, stack := s.stack ++ [s.pushed + 1] } else s
  | (0, .pop) => { s with popping := true }
  | (0, .popped v is) => if is then { s.get v with popping := false, stack := if lone then s.stack.dropLast else s.stack } else { s with popping := false }
  | (i + 1, .steal) => { s with was := ut s.was (i + 1) s.gets }
  | (_ + 1, .stolen v how) => if how = 1 then { s.get v with last := v } else s
  | _ => s
def dfold (lone : Bool) (g : List (Nat × DE)) : DS := g.foldl (dstep lone) DS.z
def dok (m N : Int) (lone : Bool) (s : DS) : Nat × DE -> Prop
  | (_, .pushed e) => (e = 0 \/ e = 12) /\ (lone = true -> (e = 0 -> (s.stack.length : Int) < N) /\ (e = 12 -> (s.stack.length : Int) = N))
  | (_, .pop) => True
  | (_, .popped v is) => (is = true -> 1 <= v /\ v < m /\ s.got v = false) /\ (lone = true -> (is = true -> s.stack.getLast? = some v) /\ (is = false -> s.stack = []))
  | (_, .steal) => True
  | (i, .stolen v how) => (how = 1 /\ 1 <= v /\ v < m /\ s.got v = false /\ s.last < v) \/ (how = 2 /\ v = 0 /\ (s.was i < s.gets \/ s.popping = true)) \/ (how = 0 /\ v = 0)
def dokl (m N : Int) (lone : Bool) (g : List (Nat × DE)) : Prop := ∀ g1 x g2, g = g1 ++ x :: g2 -> dok m N lone (dfold lone g1) x
theorem dfold_snoc {lone : Bool} {g : List (Nat × DE)} {x : Nat × DE} : dfold lone (g ++ [x]) = dstep lone (dfold lone g) x := by unfold dfold; rw [List.foldl_append]; rfl
theorem dokl_snoc {m N : Int} {lone : Bool} {g : List (Nat × DE)} {x : Nat × DE} (h : dokl m N lone g) (hx : dok m N lone (dfold lone g) x) : dokl m N lone (g ++ [x]) := by
  intro g1 y g2 e
  rcases List.eq_nil_or_concat g2 with rfl | ⟨g3, z, rfl⟩
  · obtain ⟨e1, e2⟩ := List.append_inj' e rfl
    injection e2 with e2 _
    subst e1 e2
    exact hx
  · rw [List.concat_eq_append, <- List.cons_append, <- List.append_assoc] at e
    obtain ⟨e1, e2⟩ := List.append_inj' e rfl
    exact h g1 y g3 e1
theorem dfold_app {lone : Bool} {g es : List (Nat × DE)} : dfold lone (g ++ es) = es.foldl (dstep lone) (dfold lone g) := by unfold dfold; rw [List.foldl_append]
theorem dstep_other {lone : Bool} {s : DS} {x : Nat × DE} : (x.1 ≠ 0 -> (dstep lone s x).pushed = s.pushed) /\ ∀ i, x.1 ≠ i -> (dstep lone s x).was i = s.was i := by
  obtain ⟨j, e⟩ := x
  cases j with
  | zero =>
    refine ⟨fun h => absurd rfl h, fun i _ => ?_⟩
    cases e with
    | pushed e =>
      show (if e = 0 then _ else s : DS).was i = _
      split <;> rfl
    | pop => rfl
    | popped v is => cases is <;> rfl
    | steal => rfl
    | stolen v how => rfl
  | succ j =>
    cases e with
    | pushed e => exact ⟨fun _ => rfl, fun _ _ => rfl⟩
    | pop => exact ⟨fun _ => rfl, fun _ _ => rfl⟩
    | popped v is => exact ⟨fun _ => rfl, fun _ _ => rfl⟩
    | steal => exact ⟨fun _ => rfl, fun i h => ut_ne _ _ (Ne.symm h)⟩
    | stolen v how =>
      refine ⟨fun _ => ?_, fun i _ => ?_⟩
      · show (if how = 1 then _ else s : DS).pushed = _
        split <;> rfl
      · show (if how = 1 then _ else s : DS).was i = _
        split <;> rfl
theorem dfold_other {lone : Bool} {g : List (Nat × DE)} : ∀ {es : List (Nat × DE)} {i : Nat}, (∀ x, x ∈ es -> x.1 ≠ i) -> (i = 0 -> (dfold lone (g ++ es)).pushed = (dfold lone g).pushed) /\ (dfold lone (g ++ es)).was i = (dfold lone g).was i := by
  intro es i
  rw [dfold_app]
  generalize dfold lone g = s
  induction es generalizing s with
  | nil => exact fun _ => ⟨fun _ => rfl, rfl⟩
  | cons x es ih =>
    intro h
    have h1 := h x List.mem_cons_self
    obtain ⟨i1, i2⟩ := ih (dstep lone s x) (fun y hy => h y (List.mem_cons_of_mem _ hy))
    refine ⟨fun hi => (i1 hi).trans (dstep_other.1 (by rw [<- hi]; exact h1)), i2.trans (dstep_other.2 i h1)⟩
theorem dstep_full {lone : Bool} {s : DS} : dstep lone s (0, .pushed 12) = s := by simp [dstep]
theorem dstep_lost {lone : Bool} {s : DS} {i : Nat} {w h : Int} (hh : h ≠ 1) : dstep lone s (i + 1, .stolen w h) = s := by simp [dstep, hh]
theorem dstep_got {lone : Bool} {s : DS} {i : Nat} {w : Int} : dstep lone s (i + 1, .stolen w 1) = { s.get w with last := w } := by simp [dstep]
structure DCnt (s : DS) : Prop where
  p : 0 <= s.pushed
  g : 0 <= s.gets
  t : s.gets + s.there = s.pushed
  l : (s.stack.length : Int) <= s.pushed
theorem dstep_cnt {lone : Bool} {s : DS} {x : Nat × DE} (c : DCnt s) : DCnt (dstep lone s x) /\ s.pushed <= (dstep lone s x).pushed /\ s.gets <= (dstep lone s x).gets := by
  obtain ⟨c1, c2, c3, c4⟩ := c
  have self : DCnt s /\ s.pushed <= s.pushed /\ s.gets <= s.gets := ⟨⟨c1, c2, c3, c4⟩, Int.le_refl _, Int.le_refl _⟩
  obtain ⟨j, e⟩ := x
  cases j with
  | zero =>
    cases e with
    | pushed e =>
      show DCnt (if e = 0 then _ else s) /\ _ <= (if e = 0 then _ else s : DS).pushed /\ _ <= (if e = 0 then _ else s : DS).gets
      split
      · refine ⟨⟨?_, c2, ?_, ?_⟩, ?_, Int.le_refl _⟩
        · show 0 <= s.pushed + 1; omega
        · show s.gets + (s.there + 1) = s.pushed + 1; omega
        · show ((s.stack ++ [s.pushed + 1]).length : Int) <= s.pushed + 1
          rw [List.length_append, List.length_singleton]; omega
        · show s.pushed <= s.pushed + 1; omega
      · exact self
    | pop => exact ⟨⟨c1, c2, c3, c4⟩, Int.le_refl _, Int.le_refl _⟩
    | popped v is =>
      cases is with
      | false => exact ⟨⟨c1, c2, c3, c4⟩, Int.le_refl _, Int.le_refl _⟩
      | true =>
        refine ⟨⟨c1, ?_, ?_, ?_⟩, Int.le_refl _, ?_⟩
        · show 0 <= s.gets + 1; omega
        · show s.gets + 1 + (s.there - 1) = s.pushed; omega
        · show ((if lone then s.stack.dropLast else s.stack).length : Int) <= s.pushed
          split
          · rw [List.length_dropLast]; omega
          · exact c4
        · show s.gets <= s.gets + 1; omega
    | steal => exact self
    | stolen v how => exact self
  | succ j =>
    cases e with
    | pushed e => exact self
    | pop => exact self
    | popped v is => exact self
    | steal => exact ⟨⟨c1, c2, c3, c4⟩, Int.le_refl _, Int.le_refl _⟩
    | stolen v how =>
      show DCnt (if how = 1 then _ else s) /\ _ <= (if how = 1 then _ else s : DS).pushed /\ _ <= (if how = 1 then _ else s : DS).gets
      split
      · refine ⟨⟨c1, ?_, ?_, c4⟩, Int.le_refl _, ?_⟩
        · show 0 <= s.gets + 1; omega
        · show s.gets + 1 + (s.there - 1) = s.pushed; omega
        · show s.gets <= s.gets + 1; omega
      · exact self
theorem dfold_cnt {lone : Bool} {g es : List (Nat × DE)} (c : DCnt (dfold lone g)) : DCnt (dfold lone (g ++ es)) /\ (dfold lone g).pushed <= (dfold lone (g ++ es)).pushed /\ (dfold lone g).gets <= (dfold lone (g ++ es)).gets := by
  rw [dfold_app]
  generalize dfold lone g = s at c ⊢
  induction es generalizing s with
  | nil => exact ⟨c, Int.le_refl _, Int.le_refl _⟩
  | cons x es ih =>
    obtain ⟨c1, c2, c3⟩ := dstep_cnt (lone := lone) (x := x) c
    obtain ⟨d1, d2, d3⟩ := ih _ c1
    exact ⟨d1, Int.le_trans c2 d2, Int.le_trans c3 d3⟩
theorem dcnt {lone : Bool} {g : List (Nat × DE)} : DCnt (dfold lone g) := (dfold_cnt (g := []) (es := g) ⟨Int.le_refl _, Int.le_refl _, rfl, Int.le_refl _⟩).1
section
variable (n : Nat) (B : Nat -> Nat)
def ownP : List Bool -> Int -> Pr DE
  | [], _ => .done
  | true :: l, p => pushD n B (p + 1) fun e => .emit (.pushed e) (ownP l (if e = 0 then p + 1 else p))
  | false :: l, p => .emit .pop (popD n B fun v is => .emit (.popped v is) (ownP l p))
def thfP : Nat -> Pr DE
  | 0 => .done
  | k + 1 => .emit .steal (stealD n B fun v how => .emit (.stolen v how) (thfP k))
def onceP (o : List Bool) (th : List Nat) : Nat -> Pr DE
  | 0 => ownP n B o 0
  | i + 1 => match th[i]? with | some k => thfP n B k | none => .done
inductive OC where
  | raw (l : List Bool) (p : Int)
  | at0 (l : List Bool) (p : Int)
  | pu1 (l : List Bool) (p b : Int)
  | pu2 (l : List Bool) (p b : Int)
  | pu3 (l : List Bool) (p b : Int)
  | po1 (l : List Bool) (p b : Int)
  | po2 (l : List Bool) (p b : Int)
  | po3 (l : List Bool) (p b : Int)
  | po4 (l : List Bool) (p b q : Int)
  | po5 (l : List Bool) (p b q x : Int)
  | po6 (l : List Bool) (p b q x w : Int)
def kpu (l : List Bool) (p : Int) (e : Int) : Pr DE := .emit (.pushed e) (ownP n B l (if e = 0 then p + 1 else p))
def kpo (l : List Bool) (p : Int) (v : Int) (is : Bool) : Pr DE := .emit (.popped v is) (ownP n B l p)
def oRes : OC -> Pr DE
  | .raw l p => ownP n B l p
  | .at0 [] _ => .done
  | .at0 (true :: l) p => pushD n B (p + 1) (kpu n B l p)
  | .at0 (false :: l) p => popD n B (kpo n B l p)
  | .pu1 l p b => .step ⟨1, B 2, 0, 0⟩ fun q => if (n : Int) <= W64 (b - q) then kpu n B l p 12 else .step ⟨2, B (4 + slot n b), p + 1, 0⟩ fun _ => .step ⟨2, B 3, W64 (b + 1), 0⟩ fun _ => kpu n B l p 0
  | .pu2 l p b => .step ⟨2, B (4 + slot n b), p + 1, 0⟩ fun _ => .step ⟨2, B 3, W64 (b + 1), 0⟩ fun _ => kpu n B l p 0
  | .pu3 l p b => .step ⟨2, B 3, W64 (b + 1), 0⟩ fun _ => kpu n B l p 0
  | .po1 l p b => .step ⟨2, B 3, W64 (b - 1), 0⟩ fun _ => .step ⟨1, B 2, 0, 0⟩ fun q =>
    if W64 (W64 (b - 1) - q) < 0 then .step ⟨2, B 3, W64 (W64 (b - 1) + 1), 0⟩ fun _ => kpo n B l p 0 false
    else .step ⟨1, B (4 + slot n (W64 (b - 1))), 0, 0⟩ fun v => if 0 < W64 (W64 (b - 1) - q) then kpo n B l p v true
      else .step ⟨3, B 2, q, W64 (q + 1)⟩ fun w => .step ⟨2, B 3, W64 (W64 (b - 1) + 1), 0⟩ fun _ => if w = q then kpo n B l p v true else kpo n B l p 0 false
  | .po2 l p b => .step ⟨1, B 2, 0, 0⟩ fun q =>
    if W64 (b - q) < 0 then .step ⟨2, B 3, W64 (b + 1), 0⟩ fun _ => kpo n B l p 0 false
    else .step ⟨1, B (4 + slot n b), 0, 0⟩ fun v => if 0 < W64 (b - q) then kpo n B l p v true
      else .step ⟨3, B 2, q, W64 (q + 1)⟩ fun w => .step ⟨2, B 3, W64 (b + 1), 0⟩ fun _ => if w = q then kpo n B l p v true else kpo n B l p 0 false
  | .po3 l p b => .step ⟨2, B 3, W64 (b + 1), 0⟩ fun _ => kpo n B l p 0 false
  | .po4 l p b q => .step ⟨1, B (4 + slot n b), 0, 0⟩ fun v => if 0 < W64 (b - q) then kpo n B l p v true
      else .step ⟨3, B 2, q, W64 (q + 1)⟩ fun w => .step ⟨2, B 3, W64 (b + 1), 0⟩ fun _ => if w = q then kpo n B l p v true else kpo n B l p 0 false
  | .po5 l p b q v => .step ⟨3, B 2, q, W64 (q + 1)⟩ fun w => .step ⟨2, B 3, W64 (b + 1), 0⟩ fun _ => if w = q then kpo n B l p v true else kpo n B l p 0 false
  | .po6 l p b q v w => .step ⟨2, B 3, W64 (b + 1), 0⟩ fun _ => if w = q then kpo n B l p v true else kpo n B l p 0 false
def otell : List Bool -> List DE
  | false :: _ => [.pop]
  | _ => []
theorem norm_own (l : List Bool) (p : Int) : norm (ownP n B l p) = (otell l, oRes n B (.at0 l p)) := by
  rcases l with - | ⟨x, l⟩
  · rfl
  · cases x <;> rfl
theorem norm_kpu (l : List Bool) (p e : Int) : norm (kpu n B l p e) = (.pushed e :: otell l, oRes n B (.at0 l (if e = 0 then p + 1 else p))) := by
  unfold kpu norm
  rw [norm_own]
theorem norm_kpo (l : List Bool) (p v : Int) (is : Bool) : norm (kpo n B l p v is) = (.popped v is :: otell l, oRes n B (.at0 l p)) := by
  unfold kpo norm
  rw [norm_own]
inductive TC where
  | fin
  | raw (k : Nat)
  | t0 (k : Nat)
  | t1 (k : Nat) (p : Int)
  | t2 (k : Nat) (p : Int)
  | t3 (k : Nat) (p x : Int)
def kst (k : Nat) (v how : Int) : Pr DE := .emit (.stolen v how) (thfP n B k)
def tRes : TC -> Pr DE
  | .fin => .done
  | .raw k => thfP n B (k + 1)
  | .t0 k => stealD n B (kst n B k)
  | .t1 k p => .step ⟨1, B 3, 0, 0⟩ fun b => if W64 (b - p) <= 0 then kst n B k 0 0
    else .step ⟨1, B (4 + slot n p), 0, 0⟩ fun v => .step ⟨3, B 2, p, W64 (p + 1)⟩ fun w => if w = p then kst n B k v 1 else kst n B k 0 2
  | .t2 k p => .step ⟨1, B (4 + slot n p), 0, 0⟩ fun v => .step ⟨3, B 2, p, W64 (p + 1)⟩ fun w => if w = p then kst n B k v 1 else kst n B k 0 2
  | .t3 k p v => .step ⟨3, B 2, p, W64 (p + 1)⟩ fun w => if w = p then kst n B k v 1 else kst n B k 0 2
def tnext : Nat -> TC
  | 0 => .fin
  | k + 1 => .t0 k
def ttell : Nat -> List DE
  | 0 => []
  | _ + 1 => [.steal]
theorem norm_thf : ∀ k, norm (thfP n B k) = (ttell k, tRes n B (tnext k))
  | 0 => rfl
  | _ + 1 => rfl
theorem norm_kst (k : Nat) (v how : Int) : norm (kst n B k v how) = (.stolen v how :: ttell k, tRes n B (tnext k)) := by
  unfold kst norm
  rw [norm_thf]
theorem pushD_in {v : Int} {k : Int -> Pr DE} {m : Nat} (hk : ∀ e, Within m (k e)) : Within (m + 4) (pushD n B v k) := by
  refine ⟨m + 3, rfl, fun b => ⟨m + 2, rfl, fun p => ?_⟩⟩
  dsimp only
  split
  · exact (hk _).mono (by omega)
  · exact ⟨m + 1, rfl, fun _ => ⟨m, rfl, fun _ => hk _⟩⟩
theorem popD_in {k : Int -> Bool -> Pr DE} {m : Nat} (hk : ∀ v e, Within m (k v e)) : Within (m + 6) (popD n B k) := by
  refine ⟨m + 5, rfl, fun b => ⟨m + 4, rfl, fun _ => ⟨m + 3, rfl, fun p => ?_⟩⟩⟩
  dsimp only
  split
  · exact ⟨m + 2, rfl, fun _ => (hk _ _).mono (by omega)⟩
  · refine ⟨m + 2, rfl, fun v => ?_⟩
    dsimp only
    split
    · exact (hk _ _).mono (by omega)
    · refine ⟨m + 1, rfl, fun w => ⟨m, rfl, fun _ => ?_⟩⟩
      dsimp only
      split
      · exact hk _ _
      · exact hk _ _
theorem stealD_in {k : Int -> Int -> Pr DE} {m : Nat} (hk : ∀ v e, Within m (k v e)) : Within (m + 4) (stealD n B k) := by
  refine ⟨m + 3, rfl, fun p => ⟨m + 2, rfl, fun b => ?_⟩⟩
  dsimp only
  split
  · exact (hk _ _).mono (by omega)
  · refine ⟨m + 1, rfl, fun v => ⟨m, rfl, fun w => ?_⟩⟩
    dsimp only
    split
    · exact hk _ _
    · exact hk _ _
theorem own_in : ∀ (l : List Bool) (p : Int), Within (6 * l.length) (ownP n B l p)
  | [], _ => by unfold ownP Within; trivial
  | true :: l, p => (pushD_in n B (m := 6 * l.length) (k := fun e => .emit (.pushed e) (ownP n B l (if e = 0 then p + 1 else p))) (fun e => own_in l _)).mono (show 6 * l.length + 4 <= 6 * (l.length + 1) by omega)
  | false :: l, p => (popD_in n B (m := 6 * l.length) (k := fun v is => .emit (.popped v is) (ownP n B l p)) (fun v e => own_in l _)).mono (show 6 * l.length + 6 <= 6 * (l.length + 1) by omega)
theorem thf_in : ∀ k, Within (4 * k) (thfP n B k)
  | 0 => by unfold thfP Within; trivial
  | k + 1 => (stealD_in n B (m := 4 * k) (k := fun v how => .emit (.stolen v how) (thfP n B k)) (fun v e => thf_in k)).mono (show 4 * k + 4 <= 4 * (k + 1) by omega)
end
end
section
open Go Go.TJ Go.Conc Go.Proofs
theorem slot_ne {n : Nat} (hn : 0 < n) {x y : Int} (h1 : x < y) (h2 : y - x < n) : slot n x ≠ slot n y := by
  intro e
  unfold slot at e
  have a1 := Int.emod_nonneg x (by omega : (n : Int) ≠ 0)
  have a2 := Int.emod_nonneg y (by omega : (n : Int) ≠ 0)
  have e' : x % (n : Int) = y % (n : Int) := by omega
  have d := Int.emod_eq_emod_iff_emod_sub_eq_zero.1 e'
  have d2 : (y - x) % (n : Int) = 0 := by
    have := Int.dvd_of_emod_eq_zero d
    have h3 : (n : Int) ∣ (y - x) := by rw [show y - x = -(x - y) by omega]; exact Int.dvd_neg.2 this
    exact Int.emod_eq_zero_of_dvd h3
  rw [Int.emod_eq_of_lt (by omega) h2] at d2
  omega
theorem w64_inj {F a b : Int} (h : W64 (F + a) = W64 (F + b)) (h1 : -100000 <= a - b) (h2 : a - b <= 100000) : a = b := by
  simp only [W64, IntKind.wrap_i64] at h
  omega
theorem w64_d {F a b : Int} (h1 : -100000 <= a - b) (h2 : a - b <= 100000) : W64 (W64 (F + a) - W64 (F + b)) = a - b := by
  rw [w_sub, show F + a - (F + b) = a - b by omega, w_small h1 h2]
theorem w64_up {F a : Int} : W64 (W64 (F + a) + 1) = W64 (F + (a + 1)) := by rw [w_add1, Int.add_assoc]
theorem w64_dn {F a : Int} : W64 (W64 (F + a) - 1) = W64 (F + (a - 1)) := by rw [w_sub1, show F + a - 1 = F + (a - 1) by omega]
structure DP where
  n : Nat
  e : Nat
  F : Int
  B : Nat -> Nat
  o : List Bool
  th : List Nat
structure DP.Ok (c : DP) : Prop where
  hn : c.n = 2 ^ c.e
  he : c.e <= 12
  inj : ∀ j k, 2 <= j -> j < 4 + c.n -> 2 <= k -> k < 4 + c.n -> c.B j = c.B k -> j = k
  len : c.o.length <= 1000
def DP.lone (c : DP) : Bool := c.th.isEmpty
def DP.m (c : DP) : Int := c.o.length + 1
theorem DP.Ok.pos {c : DP} (ok : c.Ok) : 0 < c.n := by rw [ok.hn]; exact Nat.two_pow_pos _
theorem DP.Ok.le {c : DP} (ok : c.Ok) : c.n <= 4096 := by have := Nat.pow_le_pow_right (n := 2) (by decide) ok.he; have := ok.hn; omega
def slv (c : DP) (v : Nat -> Int) (o : Int) : Int := v (c.B (4 + slot c.n (c.F + o)))
theorem slot_off (c : DP) (ok : c.Ok) (o : Int) : slot c.n (W64 (c.F + o)) = slot c.n (c.F + o) := slot_w ok.hn ok.he _
section
variable {c : DP} {v : Nat -> Int}
theorem slv_two (ok : c.Ok) (x o : Int) : slv c (ut v (c.B 2) x) o = slv c v o := by
  have := slot_lt ok.pos (c.F + o)
  exact ut_ne _ _ (fun e => by have := ok.inj _ _ (by omega) (by omega) (by omega) (by have := ok.pos; omega) e; omega)
theorem slv_three (ok : c.Ok) (x o : Int) : slv c (ut v (c.B 3) x) o = slv c v o := by
  have := slot_lt ok.pos (c.F + o)
  exact ut_ne _ _ (fun e => by have := ok.inj _ _ (by omega) (by omega) (by omega) (by have := ok.pos; omega) e; omega)
theorem slv_ne (ok : c.Ok) {x o b : Int} (h1 : o < b) (h2 : b - o < c.n) : slv c (ut v (c.B (4 + slot c.n (c.F + b))) x) o = slv c v o := by
  have := slot_lt ok.pos (c.F + o)
  have := slot_lt ok.pos (c.F + b)
  refine ut_ne _ _ (fun e => ?_)
  have := ok.inj _ _ (by omega) (by omega) (by omega) (by omega) e
  exact slot_ne ok.pos (show c.F + o < c.F + b by omega) (by omega) (by omega)
theorem slv_same (x b : Int) : slv c (ut v (c.B (4 + slot c.n (c.F + b))) x) b = x := ut_same _ _ _
theorem two_slot (ok : c.Ok) {x b : Int} : ut v (c.B (4 + slot c.n (c.F + b))) x (c.B 2) = v (c.B 2) := by
  have := slot_lt ok.pos (c.F + b)
  have := ok.pos
  exact ut_ne _ _ (fun e => by have := ok.inj _ _ (by omega) (by omega) (by omega) (by omega) e; omega)
theorem three_slot (ok : c.Ok) {x b : Int} : ut v (c.B (4 + slot c.n (c.F + b))) x (c.B 3) = v (c.B 3) := by
  have := slot_lt ok.pos (c.F + b)
  have := ok.pos
  exact ut_ne _ _ (fun e => by have := ok.inj _ _ (by omega) (by omega) (by omega) (by omega) e; omega)
theorem two_three (ok : c.Ok) : c.B 2 ≠ c.B 3 := fun e => by have := ok.pos; have := ok.inj 2 3 (by omega) (by omega) (by omega) (by omega) e; omega
end
structure DA where
  t : Int
  b : Int
  lim : Int
  hand : Option Int
  sl : Int -> Int
  s : DS
structure DG (c : DP) (a : DA) : Prop where
  t0 : 0 <= a.t
  tb : a.t <= a.b
  bp : a.b <= a.s.pushed
  pm : a.s.pushed < c.m
  room : a.b - a.t <= c.n
  val : ∀ o, a.t <= o -> o < a.b -> 1 <= a.sl o /\ a.sl o <= a.s.pushed /\ a.s.got (a.sl o) = false /\ a.s.last < a.sl o
  mono : ∀ o o', a.t <= o -> o < o' -> o' < a.b -> a.sl o < a.sl o'
  all : ∀ x, 1 <= x -> x <= a.s.pushed -> a.s.got x = true \/ (∃ o, a.t <= o /\ o < a.b /\ a.sl o = x) \/ a.hand = some x
  only : ∀ x, a.s.got x = true -> x <= a.s.pushed
  last : a.s.last <= a.s.pushed
  hand : ∀ x, a.hand = some x -> a.t = a.b /\ 1 <= x /\ x <= a.s.pushed /\ a.s.got x = false
  there : a.s.there = a.b - a.t + (if a.hand.isSome then 1 else 0)
  lone : c.lone = true -> a.s.stack = match a.hand with | some x => [x] | none => (List.range (a.b - a.t).toNat).map fun (j : Nat) => a.sl (a.t + j)
def bcl (b : Int) : OC -> Int
  | .po2 .. => b - 1
  | .po3 .. => b - 1
  | .po4 .. => b - 1
  | .po5 .. => b - 1
  | .po6 .. => b - 1
  | _ => b
structure Base (c : DP) (a : DA) (k : Int) (l : List Bool) (p0 : Int) : Prop where
  p : a.s.pushed = p0
  len : p0 + k + l.length < c.m
def OI (c : DP) (a : DA) : OC -> Prop
  | .raw l p => Base c a 0 l p /\ a.hand = none /\ a.lim = a.b
  | .at0 l p => Base c a 0 l p /\ a.hand = none /\ a.lim = a.b /\ (∀ l', l = false :: l' -> a.s.popping = true)
  | .pu1 l p b => Base c a 1 l p /\ a.hand = none /\ a.lim = a.b /\ b = W64 (c.F + a.b)
  | .pu2 l p b => Base c a 1 l p /\ a.hand = none /\ a.lim = a.b /\ b = W64 (c.F + a.b) /\ a.b - a.t < c.n
  | .pu3 l p b => Base c a 1 l p /\ a.hand = none /\ a.lim = a.b /\ b = W64 (c.F + a.b) /\ a.b - a.t < c.n /\ a.sl a.b = p + 1
  | .po1 l p b => Base c a 0 l p /\ a.hand = none /\ a.lim = a.b /\ a.s.popping = true /\ b = W64 (c.F + a.b)
  | .po2 l p b => Base c a 0 l p /\ a.hand = none /\ a.lim = a.b /\ a.s.popping = true /\ b = W64 (c.F + (a.b - 1))
  | .po3 l p b => Base c a 0 l p /\ a.hand = none /\ a.lim = a.b /\ a.s.popping = true /\ b = W64 (c.F + (a.b - 1)) /\ a.t = a.b
  | .po4 l p b q => Base c a 0 l p /\ a.hand = none /\ a.s.popping = true /\ b = W64 (c.F + (a.b - 1)) /\ ∃ q0, q = W64 (c.F + q0) /\ 0 <= q0 /\ q0 <= a.t /\
      ((q0 < a.b - 1 /\ a.lim = a.b - 1 /\ a.t <= a.b - 1) \/ (q0 = a.b - 1 /\ a.lim = a.b))
  | .po5 l p b q x => Base c a 0 l p /\ a.hand = none /\ a.lim = a.b /\ a.s.popping = true /\ b = W64 (c.F + (a.b - 1)) /\ q = W64 (c.F + (a.b - 1)) /\ a.b - 1 <= a.t /\ 0 <= a.b - 1 /\ (a.t = a.b - 1 -> x = a.sl a.t)
  | .po6 l p b q x w => Base c a 0 l p /\ a.lim = a.b /\ a.s.popping = true /\ b = W64 (c.F + (a.b - 1)) /\ a.t = a.b /\ ((w = q /\ a.hand = some x) \/ (w ≠ q /\ a.hand = none))
def TI (c : DP) (a : DA) (i : Nat) : TC -> Prop
  | .fin => True
  | .raw _ => c.lone = false
  | .t0 _ => c.lone = false /\ a.s.was i <= a.s.gets
  | .t1 _ p => c.lone = false /\ a.s.was i <= a.s.gets /\ ∃ p0, p = W64 (c.F + p0) /\ 0 <= p0 /\ p0 <= a.t /\ (p0 < a.t -> a.s.was i < a.s.gets \/ a.hand ≠ none)
  | .t2 _ p => c.lone = false /\ a.s.was i <= a.s.gets /\ ∃ p0, p = W64 (c.F + p0) /\ 0 <= p0 /\ p0 <= a.t /\ (p0 < a.t -> a.s.was i < a.s.gets \/ a.hand ≠ none) /\ (p0 = a.t -> a.t < a.lim)
  | .t3 _ p x => c.lone = false /\ a.s.was i <= a.s.gets /\ ∃ p0, p = W64 (c.F + p0) /\ 0 <= p0 /\ p0 <= a.t /\ (p0 < a.t -> a.s.was i < a.s.gets \/ a.hand ≠ none) /\ (p0 = a.t -> a.t < a.lim /\ x = a.sl a.t)
structure Mv (i : Nat) (a a' : DA) : Prop where
  t : a.t <= a'.t
  gets : a.s.gets <= a'.s.gets
  was : a'.s.was i = a.s.was i
  up : a.t < a'.t -> a.s.gets < a'.s.gets \/ a'.hand ≠ none
  hand : a.hand ≠ none -> a'.hand ≠ none \/ a.s.gets < a'.s.gets
  same : a'.t = a.t -> a.t < a.lim -> a.t < a'.lim /\ a'.sl a.t = a.sl a.t
theorem TI.mono {c : DP} {a a' : DA} {i : Nat} {k : TC} (m : Mv i a a') (x : TI c a i k) : TI c a' i k := by
  obtain ⟨m1, m2, m3, m4, m5, m6⟩ := m
  have low : ∀ p0, p0 <= a.t -> (p0 < a.t -> a.s.was i < a.s.gets \/ a.hand ≠ none) -> a.s.was i <= a.s.gets -> p0 < a'.t -> a'.s.was i < a'.s.gets \/ a'.hand ≠ none := fun p0 h1 h2 h3 h4 => by
    rw [m3]
    by_cases e : p0 < a.t
    · rcases h2 e with y | y
      · exact .inl (by omega)
      · rcases m5 y with z | z
        · exact .inr z
        · exact .inl (by omega)
    · rcases m4 (by omega) with z | z
      · exact .inl (by omega)
      · exact .inr z
  cases k with
  | fin => trivial
  | raw _ => exact x
  | t0 _ => exact ⟨x.1, by rw [m3]; exact Int.le_trans x.2 m2⟩
  | t1 _ p =>
    obtain ⟨x1, x2, p0, e, h0, h1, h2⟩ := x
    exact ⟨x1, by rw [m3]; exact Int.le_trans x2 m2, p0, e, h0, by omega, low p0 h1 h2 x2⟩
  | t2 _ p =>
    obtain ⟨x1, x2, p0, e, h0, h1, h2, h3⟩ := x
    refine ⟨x1, by rw [m3]; exact Int.le_trans x2 m2, p0, e, h0, by omega, low p0 h1 h2 x2, fun h => ?_⟩
    have e1 : a'.t = a.t := by omega
    have := (m6 e1 (h3 (by omega))).1
    omega
  | t3 _ p y =>
    obtain ⟨x1, x2, p0, e, h0, h1, h2, h3⟩ := x
    refine ⟨x1, by rw [m3]; exact Int.le_trans x2 m2, p0, e, h0, by omega, low p0 h1 h2 x2, fun h => ?_⟩
    have e1 : a'.t = a.t := by omega
    have h4 := h3 (by omega)
    have := m6 e1 h4.1
    exact ⟨by omega, by rw [e1, this.2]; exact h4.2⟩
structure DInv (c : DP) (g : List (Nat × DE)) (S : Nat -> Pr DE) (v : Nat -> Int) (a : DA) (oc : OC) (tc : Nat -> TC) : Prop where
  own : S 0 = oRes c.n c.B oc
  thf : ∀ i, S (i + 1) = tRes c.n c.B (tc i)
  s : a.s = dfold c.lone g
  sl : a.sl = slv c v
  v2 : v (c.B 2) = W64 (c.F + a.t)
  v3 : v (c.B 3) = W64 (c.F + bcl a.b oc)
  G : DG c a
  O : OI c a oc
  T : ∀ i, TI c a (i + 1) (tc i)
  ok : dokl c.m c.n c.lone g
end
section
open Go Go.TJ Go.Conc Go.Proofs
section
variable {c : DP} {g : List (Nat × DE)} {S : Nat -> Pr DE} {v : Nat -> Int} {a : DA} {oc : OC} {tc : Nat -> TC}
theorem Mv.s {i : Nat} (s' : DS) (h1 : a.s.gets <= s'.gets) (h2 : s'.was i = a.s.was i) : Mv i a { a with s := s' } := ⟨Int.le_refl _, h1, h2, fun h => absurd h (Int.lt_irrefl _), fun h => .inl h, fun _ h => ⟨h, rfl⟩⟩
theorem DG.popping (G : DG c a) (q : Bool) : DG c { a with s := { a.s with popping := q } } := ⟨G.t0, G.tb, G.bp, G.pm, G.room, G.val, G.mono, G.all, G.only, G.last, G.hand, G.there, G.lone⟩
theorem DG.lim (G : DG c a) (q : Int) : DG c { a with lim := q } := ⟨G.t0, G.tb, G.bp, G.pm, G.room, G.val, G.mono, G.all, G.only, G.last, G.hand, G.there, G.lone⟩
theorem DG.sl (G : DG c a) (f : Int -> Int) (h : ∀ o, a.t <= o -> o < a.b -> f o = a.sl o) : DG c { a with sl := f } := by
  refine ⟨G.t0, G.tb, G.bp, G.pm, G.room, fun o h1 h2 => ?_, fun o o' h1 h2 h3 => ?_, fun x h1 h2 => ?_, G.only, G.last, G.hand, G.there, fun hl => ?_⟩
  · show 1 <= f o /\ f o <= _ /\ a.s.got (f o) = false /\ _ < f o
    rw [h o h1 h2]; exact G.val o h1 h2
  · show f o < f o'
    have : a.t <= o := h1
    have : o' < a.b := h3
    rw [h o h1 (by omega), h o' (by omega) h3]; exact G.mono o o' h1 h2 h3
  · rcases G.all x h1 h2 with y | ⟨o, y1, y2, y3⟩ | y
    · exact .inl y
    · exact .inr (.inl ⟨o, y1, y2, (h o y1 y2).trans y3⟩)
    · exact .inr (.inr y)
  · have := G.lone hl
    show a.s.stack = match a.hand with | some x => [x] | none => (List.range (a.b - a.t).toNat).map fun (j : Nat) => f (a.t + j)
    rw [this]
    cases a.hand with
    | some x => rfl
    | none =>
      refine List.map_congr_left fun j hj => ?_
      have := List.mem_range.1 hj
      exact (h _ (by omega) (by omega)).symm
theorem arriveO {l : List Bool} {p : Int} (ht : ∀ i, S (i + 1) = tRes c.n c.B (tc i)) (hs : a.s = dfold c.lone g) (sl : a.sl = slv c v) (v2 : v (c.B 2) = W64 (c.F + a.t)) (v3 : v (c.B 3) = W64 (c.F + a.b)) (G : DG c a) (b : Base c a 0 l p) (hh : a.hand = none) (hl : a.lim = a.b) (T : ∀ i, TI c a (i + 1) (tc i)) (ok : dokl c.m c.n c.lone g) :
    ∃ a' oc', DInv c (g ++ (otell l).map fun e => (0, e)) (ut S 0 (oRes c.n c.B (.at0 l p))) v a' oc' tc := by
  have hS : ∀ i, ut S 0 (oRes c.n c.B (.at0 l p)) (i + 1) = tRes c.n c.B (tc i) := fun i => (ut_ne _ _ (by omega)).trans (ht i)
  by_cases hp : ∃ l', l = false :: l'
  · obtain ⟨l', rfl⟩ := hp
    refine ⟨{ a with s := { a.s with popping := true } }, .at0 (false :: l') p, ut_same _ _ _, hS, ?_, sl, v2, v3, G.popping true, ⟨⟨b.p, b.len⟩, hh, hl, fun _ _ => rfl⟩, fun i => (T i).mono (Mv.s _ (Int.le_refl _) rfl), dokl_snoc ok trivial⟩
    show _ = dfold c.lone (g ++ [(0, .pop)])
    rw [dfold_snoc, <- hs]; rfl
  · have e : otell l = [] := by
      rcases l with - | ⟨x, l⟩
      · rfl
      · cases x
        · exact absurd ⟨l, rfl⟩ hp
        · rfl
    rw [e]
    refine ⟨a, .at0 l p, ut_same _ _ _, hS, ?_, sl, v2, v3, G, ⟨b, hh, hl, fun l' hl' => absurd ⟨l', hl'⟩ hp⟩, T, ?_⟩
    · simpa using hs
    · simpa using ok
theorem behind1 {w x y : Int} : (behind 1 w x y).1 = w := rfl
theorem behind2 {w x y : Int} : (behind 2 w x y).1 = x := rfl
theorem behind3 {w x y : Int} : (behind 3 w x y).1 = if w = x then y else w := by
  unfold behind
  by_cases h : w = x <;> simp [h]
theorem stack_len (G : DG c a) (hl : c.lone = true) (hh : a.hand = none) : (a.s.stack.length : Int) = a.b - a.t := by
  have := G.lone hl
  rw [hh] at this
  rw [this, List.length_map, List.length_range]
  have := G.tb
  omega
theorem toldO {S' : Nat -> Pr DE} {v' : Nat -> Int} {k : Pr DE} {ev : DE} {l : List Bool} {p : Int} (hk : norm k = (ev :: otell l, oRes c.n c.B (.at0 l p))) (h : ∃ a' oc', DInv c ((g ++ [(0, ev)]) ++ (otell l).map fun e => (0, e)) (ut S' 0 (oRes c.n c.B (.at0 l p))) v' a' oc' tc) :
    ∃ a' oc', DInv c (g ++ (norm k).1.map fun e => (0, e)) (ut S' 0 (norm k).2) v' a' oc' tc := by
  rw [hk]
  simpa only [List.map_cons, List.append_assoc, List.singleton_append] using h
theorem muteO {v' : Nat -> Int} {k : Pr DE} (I : DInv c g S v a oc tc) (a' : DA) (oc' : OC) (hk : k = oRes c.n c.B oc') (hn : NoEm k) (hs : a'.s = a.s) (sl : a'.sl = slv c v') (v2 : v' (c.B 2) = W64 (c.F + a'.t)) (v3 : v' (c.B 3) = W64 (c.F + bcl a'.b oc')) (G : DG c a') (O : OI c a' oc') (M : ∀ i, Mv (i + 1) a a') :
    ∃ a' oc', DInv c (g ++ (norm k).1.map fun e => (0, e)) (ut S 0 (norm k).2) v' a' oc' tc := by
  rw [norm_of_no hn]
  refine ⟨a', oc', (ut_same _ _ _).trans hk, fun i => (ut_ne _ _ (by omega)).trans (I.thf i), ?_, sl, v2, v3, G, O, fun i => (I.T i).mono (M i), ?_⟩
  · simp only [List.map_nil, List.append_nil]; exact hs.trans I.s
  · simpa using I.ok
theorem Mv.refl {i : Nat} : Mv i a a := ⟨Int.le_refl _, Int.le_refl _, rfl, fun h => absurd h (Int.lt_irrefl _), fun h => .inl h, fun _ h => ⟨h, rfl⟩⟩
theorem DG.small (ok : c.Ok) (G : DG c a) : 0 <= a.t /\ a.t <= a.b /\ a.b <= 1000 := by
  have := G.t0; have := G.tb; have := G.bp; have := G.pm; have := ok.len
  unfold DP.m at *
  omega
set_option maxHeartbeats 1000000 in
theorem own_step0 (_ok : c.Ok) {l : List Bool} {p : Int} (I : DInv c g S v a (.at0 l p) tc) {r : Rq} {k : Int -> Pr DE} (hS : S 0 = .step r k) :
    ∃ a' oc', DInv c (g ++ (norm (k (v r.b))).1.map fun e => (0, e)) (ut S 0 (norm (k (v r.b))).2) (ut v r.b (behind r.op (v r.b) r.arg r.new).1) a' oc' tc := by
  have hO := I.own
  rw [hS] at hO
  obtain ⟨b0, hh, hl, hp⟩ := I.O
  rcases l with - | ⟨x, l⟩
  · cases hO
  · cases x
    · cases hO
      rw [behind1, ut_self]
      exact muteO I a (.po1 l p (v (c.B 3))) rfl nofun rfl I.sl I.v2 I.v3 I.G ⟨⟨b0.p, by have := b0.len; simp only [List.length_cons] at this; omega⟩, hh, hl, hp l rfl, I.v3⟩ fun i => Mv.refl
    · cases hO
      rw [behind1, ut_self]
      exact muteO I a (.pu1 l p (v (c.B 3))) rfl nofun rfl I.sl I.v2 I.v3 I.G ⟨⟨b0.p, by have := b0.len; simp only [List.length_cons] at this; omega⟩, hh, hl, I.v3⟩ fun i => Mv.refl
set_option maxHeartbeats 4000000 in
theorem own_push (ok : c.Ok) {l : List Bool} {p b : Int} (hoc : oc = .pu1 l p b \/ oc = .pu2 l p b \/ oc = .pu3 l p b) (I : DInv c g S v a oc tc) {r : Rq} {k : Int -> Pr DE} (hS : S 0 = .step r k) :
    ∃ a' oc', DInv c (g ++ (norm (k (v r.b))).1.map fun e => (0, e)) (ut S 0 (norm (k (v r.b))).2) (ut v r.b (behind r.op (v r.b) r.arg r.new).1) a' oc' tc := by
  have hO := I.own
  rw [hS] at hO
  have G := I.G
  obtain ⟨s0, s1, s2⟩ := G.small ok
  have hpos := ok.pos
  rcases hoc with rfl | rfl | rfl
  · obtain ⟨b0, hh, hl, hb⟩ := I.O
    cases hO
    dsimp only
    rw [behind1, ut_self]
    rw [I.v2, hb, w64_d (by omega) (by omega)]
    by_cases hc : (c.n : Int) <= a.b - a.t
    · rw [if_pos hc]
      refine toldO (norm_kpu _ _ l p 12) (arriveO (a := a) I.thf ?_ I.sl I.v2 I.v3 G ⟨by rw [if_neg (by decide)]; exact b0.p, by rw [if_neg (by decide)]; have := b0.len; omega⟩ hh hl I.T (dokl_snoc I.ok ⟨.inr rfl, fun hl => ⟨fun e => absurd e (by decide), fun _ => by have := G.room; rw [<- I.s, stack_len G hl hh]; omega⟩⟩))
      rw [dfold_snoc, <- I.s]
      exact dstep_full.symm
    · rw [if_neg hc]
      exact muteO I a (.pu2 l p _) rfl nofun rfl I.sl I.v2 I.v3 G ⟨b0, hh, hl, rfl, by omega⟩ fun i => Mv.refl
  · obtain ⟨b0, hh, hl, hb, hr⟩ := I.O
    cases hO
    dsimp only
    rw [behind2]
    subst hb
    rw [slot_off c ok]
    have hsl : ∀ o, a.t <= o -> o < a.b -> slv c (ut v (c.B (4 + slot c.n (c.F + a.b))) (p + 1)) o = a.sl o := fun o h1 h2 => by
      rw [slv_ne ok h2 (by omega), I.sl]
    refine muteO I { a with sl := slv c (ut v (c.B (4 + slot c.n (c.F + a.b))) (p + 1)) } (.pu3 l p _) rfl nofun rfl rfl ((two_slot ok).trans I.v2) ((three_slot ok).trans I.v3) (G.sl _ hsl) ⟨⟨b0.p, b0.len⟩, hh, hl, rfl, hr, slv_same _ _⟩ fun i => ?_
    refine ⟨Int.le_refl _, Int.le_refl _, rfl, fun h => absurd h (Int.lt_irrefl _), fun h => .inl h, fun _ h => ⟨h, hsl _ (Int.le_refl _) (by rw [<- hl]; exact h)⟩⟩
  · obtain ⟨b0, hh, hl, hb, hr, hx⟩ := I.O
    cases hO
    dsimp only
    rw [behind2]
    subst hb
    rw [w64_up]
    have hp := b0.p
    have hlen := b0.len
    refine toldO (norm_kpu _ _ l p 0) (arriveO (a := { a with b := a.b + 1, lim := a.b + 1, s := { a.s with pushed := a.s.pushed + 1, there := a.s.there + 1, stack := a.s.stack ++ [a.s.pushed + 1] } }) I.thf ?_ ?_ ?_ (ut_same _ _ _) ?_ ⟨by rw [if_pos rfl]; show a.s.pushed + 1 = _; omega, by rw [if_pos rfl]; omega⟩ hh rfl (fun i => (I.T i).mono ?_) (dokl_snoc I.ok ⟨.inl rfl, fun hl => ⟨fun _ => by rw [<- I.s, stack_len G hl hh]; exact hr, fun e => absurd e (by decide)⟩⟩))
    · rw [dfold_snoc, <- I.s]
      rfl
    · show a.sl = _
      rw [I.sl]; funext o; exact (slv_three ok _ _).symm
    · rw [ut_ne _ _ (two_three ok)]; exact I.v2
    · have hbp := G.bp
      have hroom := G.room
      refine ⟨G.t0, by show a.t <= a.b + 1; omega, by show a.b + 1 <= a.s.pushed + 1; omega, by show a.s.pushed + 1 < c.m; omega, by show a.b + 1 - a.t <= c.n; omega, fun o h1 h2 => ?_, fun o o' h1 h2 h3 => ?_, fun x h1 h2 => ?_, fun x hx' => ?_, ?_, fun x hx' => ?_, ?_, fun hlo => ?_⟩
      · show 1 <= a.sl o /\ a.sl o <= a.s.pushed + 1 /\ a.s.got (a.sl o) = false /\ a.s.last < a.sl o
        have h2' : o < a.b + 1 := h2
        by_cases e : o = a.b
        · rw [e, hx]
          have := G.last
          refine ⟨by omega, by omega, ?_, by omega⟩
          cases hg : a.s.got (p + 1) with
          | false => rfl
          | true => have := G.only _ hg; omega
        · obtain ⟨y1, y2, y3, y4⟩ := G.val o h1 (by omega)
          exact ⟨y1, by omega, y3, y4⟩
      · show a.sl o < a.sl o'
        have h3' : o' < a.b + 1 := h3
        have h1' : a.t <= o := h1
        by_cases e : o' = a.b
        · have := (G.val o h1 (by omega)).2.1
          rw [e, hx]; omega
        · exact G.mono o o' h1 h2 (by omega)
      · show a.s.got x = true \/ (∃ o, a.t <= o /\ o < a.b + 1 /\ a.sl o = x) \/ a.hand = some x
        have h2' : x <= a.s.pushed + 1 := h2
        by_cases e : x = a.s.pushed + 1
        · exact .inr (.inl ⟨a.b, by omega, by omega, by rw [hx]; omega⟩)
        · rcases G.all x h1 (by omega) with y | ⟨o, y1, y2, y3⟩ | y
          · exact .inl y
          · exact .inr (.inl ⟨o, y1, by omega, y3⟩)
          · exact .inr (.inr y)
      · have := G.only x hx'; show x <= a.s.pushed + 1; omega
      · have := G.last; show a.s.last <= a.s.pushed + 1; omega
      · have hx'' : a.hand = some x := hx'
        rw [hh] at hx''; cases hx''
      · show a.s.there + 1 = a.b + 1 - a.t + _
        have := G.there
        rw [hh] at this ⊢
        simp only [Option.isSome_none, Bool.false_eq_true, if_false] at this ⊢
        omega
      · have := G.lone hlo
        show a.s.stack ++ [a.s.pushed + 1] = match a.hand with | some x => [x] | none => (List.range (a.b + 1 - a.t).toNat).map fun (j : Nat) => a.sl (a.t + j)
        rw [hh] at this ⊢
        dsimp only at this ⊢
        rw [this, show (a.b + 1 - a.t).toNat = (a.b - a.t).toNat + 1 by omega, List.range_succ, List.map_append]
        congr 1
        simp only [List.map_cons, List.map_nil]
        rw [show a.t + ((a.b - a.t).toNat : Int) = a.b by omega, hx, hp]
    · exact ⟨Int.le_refl _, Int.le_refl _, rfl, fun h => absurd h (Int.lt_irrefl _), fun h => .inl h, fun _ h => ⟨by show a.t < a.b + 1; omega, rfl⟩⟩
end
end
section
open Go Go.TJ Go.Conc Go.Proofs
section
variable {c : DP} {g : List (Nat × DE)} {S : Nat -> Pr DE} {v : Nat -> Int} {a : DA} {oc : OC} {tc : Nat -> TC}
theorem stack_nil (G : DG c a) (hl : c.lone = true) (hh : a.hand = none) (ht : a.t = a.b) : a.s.stack = [] := by
  have := stack_len G hl hh
  exact List.length_eq_zero_iff.1 (by omega)
theorem range_last {f : Int -> Int} {t : Int} {n : Nat} : ((List.range (n + 1)).map fun (j : Nat) => f (t + j)) = ((List.range n).map fun (j : Nat) => f (t + j)) ++ [f (t + n)] := by
  rw [List.range_succ, List.map_append]; rfl
theorem pop_none (ok : c.Ok) (I : DInv c g S v a oc tc) {l : List Bool} {p : Int} (b0 : Base c a 0 l p) (hh : a.hand = none) (hl : a.lim = a.b) (ht : a.t = a.b) :
    ∃ a' oc', DInv c (g ++ (norm (kpo c.n c.B l p 0 false)).1.map fun e => (0, e)) (ut S 0 (norm (kpo c.n c.B l p 0 false)).2) (ut v (c.B 3) (W64 (c.F + a.b))) a' oc' tc := by
  have G := I.G
  refine toldO (norm_kpo _ _ l p 0 false) (arriveO (a := { a with s := { a.s with popping := false } }) I.thf ?_ ?_ ?_ (ut_same _ _ _) (G.popping false) ⟨b0.p, b0.len⟩ hh hl (fun i => (I.T i).mono (Mv.s _ (Int.le_refl _) rfl)) (dokl_snoc I.ok ⟨fun e => (by cases e), fun h => ⟨fun e => (by cases e), fun _ => by rw [<- I.s]; exact stack_nil G h hh ht⟩⟩))
  · rw [dfold_snoc, <- I.s]; rfl
  · show a.sl = _
    rw [I.sl]; funext o; exact (slv_three ok _ _).symm
  · rw [ut_ne _ _ (two_three ok)]; exact I.v2
theorem pop_one (ok : c.Ok) (I : DInv c g S v a oc tc) {l : List Bool} {p x : Int} (b0 : Base c a 0 l p) (hh : a.hand = some x) (hl : a.lim = a.b) (ht : a.t = a.b) :
    ∃ a' oc', DInv c (g ++ (norm (kpo c.n c.B l p x true)).1.map fun e => (0, e)) (ut S 0 (norm (kpo c.n c.B l p x true)).2) (ut v (c.B 3) (W64 (c.F + a.b))) a' oc' tc := by
  have G := I.G
  obtain ⟨-, h1, h2, h3⟩ := G.hand x hh
  have hpm := G.pm
  have hlo : c.lone = true -> a.s.stack = [x] := fun h => by have := G.lone h; rw [hh] at this; exact this
  refine toldO (norm_kpo _ _ l p x true) (arriveO (a := { a with hand := none, s := { a.s.get x with popping := false, stack := if c.lone then a.s.stack.dropLast else a.s.stack } }) I.thf ?_ ?_ ?_ (ut_same _ _ _) ?_ ⟨b0.p, b0.len⟩ rfl hl (fun i => (I.T i).mono ?_) (dokl_snoc I.ok ⟨fun _ => by rw [<- I.s]; exact ⟨h1, by omega, h3⟩, fun h => ⟨fun _ => by rw [<- I.s, hlo h]; rfl, fun e => (by cases e)⟩⟩))
  · rw [dfold_snoc, <- I.s]; rfl
  · show a.sl = _
    rw [I.sl]; funext o; exact (slv_three ok _ _).symm
  · rw [ut_ne _ _ (two_three ok)]; exact I.v2
  · refine ⟨G.t0, G.tb, G.bp, G.pm, G.room, fun o q1 q2 => ?_, fun o o' q1 q2 q3 => ?_, fun y q1 q2 => ?_, fun y q => ?_, G.last, fun y q => (by cases q), ?_, fun h => ?_⟩
    · have q1' : a.t <= o := q1
      have q2' : o < a.b := q2
      omega
    · have q1' : a.t <= o := q1
      have q3' : o' < a.b := q3
      omega
    · show (if y = x then true else a.s.got y) = true \/ _
      by_cases e : y = x
      · exact .inl (by rw [if_pos e])
      · rw [if_neg e]
        rcases G.all y q1 q2 with z | z | z
        · exact .inl z
        · exact .inr (.inl z)
        · rw [hh] at z; injection z with z; exact absurd z.symm e
    · have q' : (if y = x then true else a.s.got y) = true := q
      show y <= a.s.pushed
      by_cases e : y = x
      · omega
      · rw [if_neg e] at q'; exact G.only y q'
    · have := G.there
      rw [hh] at this
      show a.s.there - 1 = a.b - a.t + 0
      simp only [Option.isSome_some, if_true] at this
      omega
    · show (if c.lone then a.s.stack.dropLast else a.s.stack) = (List.range (a.b - a.t).toNat).map fun (j : Nat) => a.sl (a.t + j)
      rw [if_pos h, hlo h, show (a.b - a.t).toNat = 0 by omega]; rfl
  · refine ⟨Int.le_refl _, by show a.s.gets <= a.s.gets + 1; omega, rfl, fun h => absurd h (Int.lt_irrefl _), fun _ => .inr (by show a.s.gets < a.s.gets + 1; omega), fun _ h => ?_⟩
    rw [hl, ht] at h; exact absurd h (Int.lt_irrefl _)
theorem pop_more (_ok : c.Ok) (I : DInv c g S v a oc tc) {l : List Bool} {p : Int} (hb : bcl a.b oc = a.b - 1) (b0 : Base c a 0 l p) (hh : a.hand = none) (hl : a.lim = a.b - 1) (ht : a.t <= a.b - 1) :
    ∃ a' oc', DInv c (g ++ (norm (kpo c.n c.B l p (a.sl (a.b - 1)) true)).1.map fun e => (0, e)) (ut S 0 (norm (kpo c.n c.B l p (a.sl (a.b - 1)) true)).2) v a' oc' tc := by
  have G := I.G
  obtain ⟨h1, h2, h3, h4⟩ := G.val (a.b - 1) ht (by omega)
  have hpm := G.pm
  have hlo : c.lone = true -> a.s.stack = ((List.range (a.b - 1 - a.t).toNat).map fun (j : Nat) => a.sl (a.t + j)) ++ [a.sl (a.b - 1)] := fun h => by
    have := G.lone h
    rw [hh] at this
    dsimp only at this
    rw [this, show (a.b - a.t).toNat = (a.b - 1 - a.t).toNat + 1 by omega, range_last, show a.t + ((a.b - 1 - a.t).toNat : Int) = a.b - 1 by omega]
  have ne : ∀ o, a.t <= o -> o < a.b - 1 -> a.sl o ≠ a.sl (a.b - 1) := fun o q1 q2 => by have := G.mono o (a.b - 1) q1 q2 (by omega); omega
  refine toldO (norm_kpo _ _ l p _ true) (arriveO (a := { a with b := a.b - 1, lim := a.b - 1, s := { a.s.get (a.sl (a.b - 1)) with popping := false, stack := if c.lone then a.s.stack.dropLast else a.s.stack } }) I.thf ?_ I.sl I.v2 (I.v3.trans (by rw [hb])) ?_ ⟨b0.p, b0.len⟩ hh rfl (fun i => (I.T i).mono ?_) (dokl_snoc I.ok ⟨fun _ => by rw [<- I.s]; exact ⟨h1, by omega, h3⟩, fun h => ⟨fun _ => by rw [<- I.s, hlo h]; simp, fun e => (by cases e)⟩⟩))
  · rw [dfold_snoc, <- I.s]; rfl
  · have hbp := G.bp
    have hroom := G.room
    refine ⟨G.t0, ht, by show a.b - 1 <= a.s.pushed; omega, G.pm, by show a.b - 1 - a.t <= c.n; omega, fun o q1 q2 => ?_, fun o o' q1 q2 q3 => ?_, fun y q1 q2 => ?_, fun y q => ?_, G.last, fun y q => ?_, ?_, fun h => ?_⟩
    · have q2' : o < a.b - 1 := q2
      obtain ⟨z1, z2, z3, z4⟩ := G.val o q1 (by omega)
      refine ⟨z1, z2, ?_, z4⟩
      show (if a.sl o = a.sl (a.b - 1) then true else a.s.got (a.sl o)) = false
      rw [if_neg (ne o q1 q2')]; exact z3
    · have q3' : o' < a.b - 1 := q3
      exact G.mono o o' q1 q2 (by omega)
    · show (if y = a.sl (a.b - 1) then true else a.s.got y) = true \/ (∃ o, a.t <= o /\ o < a.b - 1 /\ a.sl o = y) \/ a.hand = some y
      by_cases e : y = a.sl (a.b - 1)
      · exact .inl (by rw [if_pos e])
      · rw [if_neg e]
        rcases G.all y q1 q2 with z | ⟨o, z1, z2, z3⟩ | z
        · exact .inl z
        · refine .inr (.inl ⟨o, z1, ?_, z3⟩)
          have : o ≠ a.b - 1 := fun e' => e (by rw [<- z3, e'])
          omega
        · exact .inr (.inr z)
    · have q' : (if y = a.sl (a.b - 1) then true else a.s.got y) = true := q
      show y <= a.s.pushed
      by_cases e : y = a.sl (a.b - 1)
      · omega
      · rw [if_neg e] at q'; exact G.only y q'
    · have q' : a.hand = some y := q
      rw [hh] at q'; cases q'
    · have := G.there
      show a.s.there - 1 = a.b - 1 - a.t + _
      rw [hh] at this ⊢
      simp only [Option.isSome_none, Bool.false_eq_true, if_false] at this ⊢
      omega
    · show (if c.lone then a.s.stack.dropLast else a.s.stack) = match a.hand with | some x => [x] | none => (List.range (a.b - 1 - a.t).toNat).map fun (j : Nat) => a.sl (a.t + j)
      rw [if_pos h, hlo h, hh]; simp
  · refine ⟨Int.le_refl _, by show a.s.gets <= a.s.gets + 1; omega, rfl, fun h => absurd h (Int.lt_irrefl _), fun h => absurd hh h, fun _ h => ⟨?_, rfl⟩⟩
    show a.t < a.b - 1
    rw [<- hl]; exact h
set_option maxHeartbeats 4000000 in
theorem own_pop1 (ok : c.Ok) {l : List Bool} {p b : Int} (hoc : oc = .po1 l p b \/ oc = .po2 l p b \/ oc = .po3 l p b) (I : DInv c g S v a oc tc) {r : Rq} {k : Int -> Pr DE} (hS : S 0 = .step r k) :
    ∃ a' oc', DInv c (g ++ (norm (k (v r.b))).1.map fun e => (0, e)) (ut S 0 (norm (k (v r.b))).2) (ut v r.b (behind r.op (v r.b) r.arg r.new).1) a' oc' tc := by
  have hO := I.own
  rw [hS] at hO
  have G := I.G
  obtain ⟨s0, s1, s2⟩ := G.small ok
  have hpos := ok.pos
  rcases hoc with rfl | rfl | rfl
  · obtain ⟨b0, hh, hl, hp, hb⟩ := I.O
    cases hO
    dsimp only
    rw [behind2]
    have e1 : W64 (b - 1) = W64 (c.F + (a.b - 1)) := by rw [hb, w64_dn]
    refine muteO I a (.po2 l p (W64 (b - 1))) rfl nofun rfl (by rw [I.sl]; funext o; exact (slv_three ok _ _).symm) (by rw [ut_ne _ _ (two_three ok)]; exact I.v2) ((ut_same _ _ _).trans e1) G ⟨b0, hh, hl, hp, e1⟩ fun i => Mv.refl
  · obtain ⟨b0, hh, hl, hp, hb⟩ := I.O
    cases hO
    dsimp only
    rw [behind1, ut_self]
    have e1 : W64 (b - v (c.B 2)) = a.b - 1 - a.t := by rw [hb, I.v2]; exact w64_d (by omega) (by omega)
    by_cases hc : a.b - 1 - a.t < 0
    · rw [if_pos (by rw [e1]; exact hc)]
      exact muteO I a (.po3 l p b) rfl nofun rfl I.sl I.v2 I.v3 G ⟨b0, hh, hl, hp, hb, by omega⟩ fun i => Mv.refl
    · rw [if_neg (by rw [e1]; exact hc)]
      by_cases hd : a.t < a.b - 1
      · refine muteO I { a with lim := a.b - 1 } (.po4 l p b (v (c.B 2))) rfl nofun rfl I.sl I.v2 I.v3 (G.lim _) ⟨⟨b0.p, b0.len⟩, hh, hp, hb, a.t, I.v2, s0, Int.le_refl _, .inl ⟨hd, rfl, by show a.t <= a.b - 1; omega⟩⟩ fun i => ?_
        exact ⟨Int.le_refl _, Int.le_refl _, rfl, fun h => absurd h (Int.lt_irrefl _), fun h => .inl h, fun _ h => ⟨hd, rfl⟩⟩
      · exact muteO I a (.po4 l p b (v (c.B 2))) rfl nofun rfl I.sl I.v2 I.v3 G ⟨b0, hh, hp, hb, a.t, I.v2, s0, Int.le_refl _, .inr ⟨by omega, hl⟩⟩ fun i => Mv.refl
  · obtain ⟨b0, hh, hl, hp, hb, ht⟩ := I.O
    cases hO
    dsimp only
    rw [behind2, hb, w64_up, show a.b - 1 + 1 = a.b by omega]
    exact pop_none ok I b0 hh hl ht
set_option maxHeartbeats 4000000 in
theorem own_pop2 (ok : c.Ok) {l : List Bool} {p b q x w : Int} (hoc : oc = .po4 l p b q \/ oc = .po5 l p b q x \/ oc = .po6 l p b q x w) (I : DInv c g S v a oc tc) {r : Rq} {k : Int -> Pr DE} (hS : S 0 = .step r k) :
    ∃ a' oc', DInv c (g ++ (norm (k (v r.b))).1.map fun e => (0, e)) (ut S 0 (norm (k (v r.b))).2) (ut v r.b (behind r.op (v r.b) r.arg r.new).1) a' oc' tc := by
  have hO := I.own
  rw [hS] at hO
  have G := I.G
  obtain ⟨s0, s1, s2⟩ := G.small ok
  have hpos := ok.pos
  rcases hoc with rfl | rfl | rfl
  · obtain ⟨b0, hh, hp, hb, q0, hq, q1, q2, hm⟩ := I.O
    cases hO
    dsimp only
    rw [behind1, ut_self]
    have e1 : W64 (b - q) = a.b - 1 - q0 := by rw [hb, hq]; exact w64_d (by omega) (by omega)
    have e2 : v (c.B (4 + slot c.n b)) = a.sl (a.b - 1) := by rw [hb, slot_off c ok, I.sl]; rfl
    rw [e2]
    rcases hm with ⟨m1, m2, m3⟩ | ⟨m1, m2⟩
    · rw [if_pos (by rw [e1]; omega)]
      exact pop_more ok I rfl b0 hh m2 m3
    · rw [if_neg (by rw [e1]; omega)]
      exact muteO I a (.po5 l p b q (a.sl (a.b - 1))) rfl nofun rfl I.sl I.v2 I.v3 G ⟨b0, hh, m2, hp, hb, by rw [hq, m1], by omega, by omega, fun e => by rw [e]⟩ fun i => Mv.refl
  · obtain ⟨b0, hh, hl, hp, hb, hq, h1, h2, hx⟩ := I.O
    cases hO
    dsimp only
    rw [behind3, I.v2]
    by_cases ht : a.t = a.b - 1
    · have e1 : W64 (c.F + a.t) = q := by rw [hq, ht]
      have e2 : W64 (q + 1) = W64 (c.F + a.b) := by rw [hq, w64_up, show a.b - 1 + 1 = a.b by omega]
      obtain ⟨y1, y2, y3, y4⟩ := G.val a.t (Int.le_refl _) (by omega)
      rw [<- hx ht] at y1 y2 y3 y4
      rw [show (if W64 (c.F + a.t) = q then W64 (q + 1) else W64 (c.F + a.t)) = W64 (q + 1) from if_pos e1]
      refine muteO I { a with t := a.b, hand := some x } (.po6 l p b q x (W64 (c.F + a.t))) rfl nofun rfl (by show a.sl = _; rw [I.sl]; funext o; exact (slv_two ok _ _).symm) ((ut_same _ _ _).trans e2) (by rw [ut_ne _ _ (two_three ok).symm]; exact I.v3) ?_ ⟨⟨b0.p, b0.len⟩, hl, hp, hb, rfl, .inl ⟨e1, rfl⟩⟩ fun i => ?_
      · have hbp := G.bp
        refine ⟨by show 0 <= a.b; omega, Int.le_refl _, G.bp, G.pm, by show a.b - a.b <= (c.n : Int); omega, fun o z1 z2 => ?_, fun o o' z1 z2 z3 => ?_, fun y z1 z2 => ?_, G.only, G.last, fun y z => ?_, ?_, fun h => ?_⟩
        · have z1' : a.b <= o := z1
          have z2' : o < a.b := z2
          omega
        · have z1' : a.b <= o := z1
          have z3' : o' < a.b := z3
          omega
        · rcases G.all y z1 z2 with z | ⟨o, w1, w2, w3⟩ | z
          · exact .inl z
          · refine .inr (.inr ?_)
            have : o = a.t := by omega
            show some x = some y
            rw [hx ht, <- w3, this]
          · rw [hh] at z; cases z
        · injection z with z
          subst z
          exact ⟨rfl, y1, y2, y3⟩
        · have := G.there
          rw [hh] at this
          show a.s.there = a.b - a.b + 1
          simp only [Option.isSome_none, Bool.false_eq_true, if_false] at this
          omega
        · have := G.lone h
          rw [hh] at this
          show a.s.stack = [x]
          dsimp only at this
          rw [this, show (a.b - a.t).toNat = 0 + 1 by omega, range_last, hx ht]
          simp
      · refine ⟨by show a.t <= a.b; omega, Int.le_refl _, rfl, fun _ => .inr nofun, fun h => absurd hh h, fun h => ?_⟩
        have h' : a.b = a.t := h
        omega
    · have e1 : W64 (c.F + a.t) ≠ q := by rw [hq]; exact fun e => ht (w64_inj e (by omega) (by omega))
      have hte : a.t = a.b := by omega
      rw [show (if W64 (c.F + a.t) = q then W64 (q + 1) else W64 (c.F + a.t)) = W64 (c.F + a.t) from if_neg e1]
      have e3 : ut v (c.B 2) (W64 (c.F + a.t)) = v := by rw [<- I.v2, ut_self]
      rw [e3]
      exact muteO I a (.po6 l p b q x (W64 (c.F + a.t))) rfl nofun rfl I.sl I.v2 I.v3 G ⟨b0, hl, hp, hb, hte, .inr ⟨e1, hh⟩⟩ fun i => Mv.refl
  · obtain ⟨b0, hl, hp, hb, ht, hm⟩ := I.O
    cases hO
    dsimp only
    rw [behind2, hb, w64_up, show a.b - 1 + 1 = a.b by omega]
    rcases hm with ⟨m1, m2⟩ | ⟨m1, m2⟩
    · rw [if_pos m1]
      exact pop_one ok I b0 m2 hl ht
    · rw [if_neg m1]
      exact pop_none ok I b0 m2 hl ht
end
end
section
open Go Go.TJ Go.Conc Go.Proofs
section
variable {c : DP} {g : List (Nat × DE)} {S : Nat -> Pr DE} {v : Nat -> Int} {a : DA} {oc : OC} {tc : Nat -> TC}
theorem OI.lim (O : OI c a oc) : bcl a.b oc <= a.lim := by
  cases oc with
  | raw => obtain ⟨-, -, h⟩ := O; show a.b <= _; omega
  | at0 => obtain ⟨-, -, h, -⟩ := O; show a.b <= _; omega
  | pu1 => obtain ⟨-, -, h, -⟩ := O; show a.b <= _; omega
  | pu2 => obtain ⟨-, -, h, -⟩ := O; show a.b <= _; omega
  | pu3 => obtain ⟨-, -, h, -⟩ := O; show a.b <= _; omega
  | po1 => obtain ⟨-, -, h, -⟩ := O; show a.b <= _; omega
  | po2 => obtain ⟨-, -, h, -⟩ := O; show a.b - 1 <= _; omega
  | po3 => obtain ⟨-, -, h, -⟩ := O; show a.b - 1 <= _; omega
  | po4 => obtain ⟨-, -, -, -, q0, -, -, -, h | h⟩ := O <;> (show a.b - 1 <= _; omega)
  | po5 => obtain ⟨-, -, h, -⟩ := O; show a.b - 1 <= _; omega
  | po6 => obtain ⟨-, h, -⟩ := O; show a.b - 1 <= _; omega
theorem OI.limb (O : OI c a oc) : a.lim <= a.b := by
  cases oc with
  | raw => obtain ⟨-, -, h⟩ := O; omega
  | at0 => obtain ⟨-, -, h, -⟩ := O; omega
  | pu1 => obtain ⟨-, -, h, -⟩ := O; omega
  | pu2 => obtain ⟨-, -, h, -⟩ := O; omega
  | pu3 => obtain ⟨-, -, h, -⟩ := O; omega
  | po1 => obtain ⟨-, -, h, -⟩ := O; omega
  | po2 => obtain ⟨-, -, h, -⟩ := O; omega
  | po3 => obtain ⟨-, -, h, -⟩ := O; omega
  | po4 => obtain ⟨-, -, -, -, q0, -, -, -, h | h⟩ := O <;> omega
  | po5 => obtain ⟨-, -, h, -⟩ := O; omega
  | po6 => obtain ⟨-, h, -⟩ := O; omega
theorem OI.hands (O : OI c a oc) (h : a.hand ≠ none) : a.s.popping = true := by
  cases oc with
  | po6 => exact O.2.2.1
  | raw => exact absurd O.2.1 h
  | at0 => exact absurd O.2.1 h
  | pu1 => exact absurd O.2.1 h
  | pu2 => exact absurd O.2.1 h
  | pu3 => exact absurd O.2.1 h
  | po1 => exact absurd O.2.1 h
  | po2 => exact absurd O.2.1 h
  | po3 => exact absurd O.2.1 h
  | po4 => exact absurd O.2.1 h
  | po5 => exact absurd O.2.1 h
theorem OI.nohand (O : OI c a oc) (G : DG c a) (h : a.t < a.lim) : a.hand = none := by
  cases e : a.hand with
  | none => rfl
  | some x => have := (G.hand x e).1; have := O.limb; omega
def DA.steal (a : DA) : DA := { a with t := a.t + 1, s := { a.s.get (a.sl a.t) with last := a.sl a.t } }
theorem OI.steal (O : OI c a oc) (h : a.t < a.lim) : OI c a.steal oc := by
  have hb := O.limb
  cases oc with
  | raw => obtain ⟨b, h1, h2⟩ := O; exact ⟨⟨b.p, b.len⟩, h1, h2⟩
  | at0 => obtain ⟨b, h1, h2, h3⟩ := O; exact ⟨⟨b.p, b.len⟩, h1, h2, h3⟩
  | pu1 => obtain ⟨b, h1, h2, h3⟩ := O; exact ⟨⟨b.p, b.len⟩, h1, h2, h3⟩
  | pu2 => obtain ⟨b, h1, h2, h3, h4⟩ := O; exact ⟨⟨b.p, b.len⟩, h1, h2, h3, by show a.b - (a.t + 1) < _; omega⟩
  | pu3 => obtain ⟨b, h1, h2, h3, h4, h5⟩ := O; exact ⟨⟨b.p, b.len⟩, h1, h2, h3, by show a.b - (a.t + 1) < _; omega, h5⟩
  | po1 => obtain ⟨b, h1, h2, h3, h4⟩ := O; exact ⟨⟨b.p, b.len⟩, h1, h2, h3, h4⟩
  | po2 => obtain ⟨b, h1, h2, h3, h4⟩ := O; exact ⟨⟨b.p, b.len⟩, h1, h2, h3, h4⟩
  | po3 => obtain ⟨b, h1, h2, h3, h4, h5⟩ := O; omega
  | po4 =>
    obtain ⟨b, h1, h2, h3, q0, h4, h5, h6, h7⟩ := O
    refine ⟨⟨b.p, b.len⟩, h1, h2, h3, q0, h4, h5, by show q0 <= a.t + 1; omega, ?_⟩
    rcases h7 with ⟨m1, m2, m3⟩ | m
    · exact .inl ⟨m1, m2, by show a.t + 1 <= a.b - 1; omega⟩
    · exact .inr m
  | po5 =>
    obtain ⟨b, h1, h2, h3, h4, h5, h6, h7, h8⟩ := O
    refine ⟨⟨b.p, b.len⟩, h1, h2, h3, h4, h5, by show a.b - 1 <= a.t + 1; omega, h7, fun e => ?_⟩
    have e' : a.t + 1 = a.b - 1 := e
    omega
  | po6 => obtain ⟨b, h1, h2, h3, h4, h5⟩ := O; omega
theorem DG.steal (G : DG c a) (hb : a.t < a.b) (hh : a.hand = none) (hlo : c.lone = false) : DG c a.steal := by
  obtain ⟨y1, y2, y3, y4⟩ := G.val a.t (Int.le_refl _) hb
  have hroom := G.room
  have ht0 := G.t0
  have ne : ∀ o, a.t + 1 <= o -> o < a.b -> a.sl a.t < a.sl o := fun o q1 q2 => G.mono a.t o (Int.le_refl _) (by omega) q2
  refine ⟨by show 0 <= a.t + 1; omega, by show a.t + 1 <= a.b; omega, G.bp, G.pm, by show a.b - (a.t + 1) <= c.n; omega, fun o q1 q2 => ?_, fun o o' q1 q2 q3 => ?_, fun y q1 q2 => ?_, fun y q => ?_, y2, fun y q => ?_, ?_, fun h => by rw [hlo] at h; cases h⟩
  · have q1' : a.t + 1 <= o := q1
    obtain ⟨z1, z2, z3, z4⟩ := G.val o (by omega) q2
    have := ne o q1' q2
    refine ⟨z1, z2, ?_, this⟩
    show (if a.sl o = a.sl a.t then true else a.s.got (a.sl o)) = false
    rw [if_neg (by omega)]; exact z3
  · have q1' : a.t + 1 <= o := q1
    exact G.mono o o' (by omega) q2 q3
  · show (if y = a.sl a.t then true else a.s.got y) = true \/ (∃ o, a.t + 1 <= o /\ o < a.b /\ a.sl o = y) \/ a.hand = some y
    by_cases e : y = a.sl a.t
    · exact .inl (by rw [if_pos e])
    · rw [if_neg e]
      rcases G.all y q1 q2 with z | ⟨o, z1, z2, z3⟩ | z
      · exact .inl z
      · refine .inr (.inl ⟨o, ?_, z2, z3⟩)
        have : o ≠ a.t := fun e' => e (by rw [<- z3, e'])
        omega
      · exact .inr (.inr z)
  · have q' : (if y = a.sl a.t then true else a.s.got y) = true := q
    show y <= a.s.pushed
    by_cases e : y = a.sl a.t
    · omega
    · rw [if_neg e] at q'; exact G.only y q'
  · have q' : a.hand = some y := q
    rw [hh] at q'; cases q'
  · have := G.there
    show a.s.there - 1 = a.b - (a.t + 1) + (if a.hand.isSome then 1 else 0)
    rw [hh] at this ⊢
    simp only [Option.isSome_none, Bool.false_eq_true, if_false] at this ⊢
    omega
theorem OI.was (O : OI c a oc) (w : Nat -> Int) : OI c { a with s := { a.s with was := w } } oc := by
  cases oc with
  | raw => obtain ⟨b, h1, h2⟩ := O; exact ⟨⟨b.p, b.len⟩, h1, h2⟩
  | at0 => obtain ⟨b, h1, h2, h3⟩ := O; exact ⟨⟨b.p, b.len⟩, h1, h2, h3⟩
  | pu1 => obtain ⟨b, h1, h2, h3⟩ := O; exact ⟨⟨b.p, b.len⟩, h1, h2, h3⟩
  | pu2 => obtain ⟨b, h⟩ := O; exact ⟨⟨b.p, b.len⟩, h⟩
  | pu3 => obtain ⟨b, h⟩ := O; exact ⟨⟨b.p, b.len⟩, h⟩
  | po1 => obtain ⟨b, h⟩ := O; exact ⟨⟨b.p, b.len⟩, h⟩
  | po2 => obtain ⟨b, h⟩ := O; exact ⟨⟨b.p, b.len⟩, h⟩
  | po3 => obtain ⟨b, h⟩ := O; exact ⟨⟨b.p, b.len⟩, h⟩
  | po4 => obtain ⟨b, h⟩ := O; exact ⟨⟨b.p, b.len⟩, h⟩
  | po5 => obtain ⟨b, h⟩ := O; exact ⟨⟨b.p, b.len⟩, h⟩
  | po6 => obtain ⟨b, h⟩ := O; exact ⟨⟨b.p, b.len⟩, h⟩
theorem DG.was (G : DG c a) (w : Nat -> Int) : DG c { a with s := { a.s with was := w } } := ⟨G.t0, G.tb, G.bp, G.pm, G.room, G.val, G.mono, G.all, G.only, G.last, G.hand, G.there, G.lone⟩
theorem arriveT {i k : Nat} (ho : S 0 = oRes c.n c.B oc) (ht : ∀ j, j ≠ i -> S (j + 1) = tRes c.n c.B (tc j)) (hs : a.s = dfold c.lone g) (sl : a.sl = slv c v) (v2 : v (c.B 2) = W64 (c.F + a.t)) (v3 : v (c.B 3) = W64 (c.F + bcl a.b oc)) (G : DG c a) (O : OI c a oc) (T : ∀ j, j ≠ i -> TI c a (j + 1) (tc j)) (hlo : c.lone = false) (ok : dokl c.m c.n c.lone g) :
    ∃ a' tc', DInv c (g ++ (ttell k).map fun e => (i + 1, e)) (ut S (i + 1) (tRes c.n c.B (tnext k))) v a' oc tc' := by
  have hS : ∀ j, ut S (i + 1) (tRes c.n c.B (tnext k)) (j + 1) = tRes c.n c.B (ut tc i (tnext k) j) := fun j => by
    by_cases e : j = i
    · subst e; rw [ut_same, ut_same]
    · rw [ut_ne _ _ (by omega), ut_ne _ _ e]; exact ht j e
  have h0 : ut S (i + 1) (tRes c.n c.B (tnext k)) 0 = oRes c.n c.B oc := (ut_ne _ _ (by omega)).trans ho
  cases k with
  | zero =>
    refine ⟨a, ut tc i .fin, h0, hS, ?_, sl, v2, v3, G, O, fun j => ?_, ?_⟩
    · simpa [ttell] using hs
    · by_cases e : j = i
      · subst e; rw [ut_same]; trivial
      · rw [ut_ne _ _ e]; exact T j e
    · simpa [ttell] using ok
  | succ k =>
    refine ⟨{ a with s := { a.s with was := ut a.s.was (i + 1) a.s.gets } }, ut tc i (.t0 k), h0, hS, ?_, sl, v2, v3, G.was _, O.was _, fun j => ?_, dokl_snoc ok trivial⟩
    · show _ = dfold c.lone (g ++ [(i + 1, .steal)])
      rw [dfold_snoc, <- hs]; rfl
    · by_cases e : j = i
      · subst e; rw [ut_same]
        refine ⟨hlo, ?_⟩
        show ut a.s.was (j + 1) a.s.gets (j + 1) <= a.s.gets
        rw [ut_same]; exact Int.le_refl _
      · rw [ut_ne _ _ e]
        exact (T j e).mono (Mv.s _ (Int.le_refl _) (ut_ne _ _ (by omega)))
theorem toldT {S' : Nat -> Pr DE} {v' : Nat -> Int} {kk : Pr DE} {ev : DE} {i k : Nat} (hk : norm kk = (ev :: ttell k, tRes c.n c.B (tnext k))) (h : ∃ a' tc', DInv c ((g ++ [(i + 1, ev)]) ++ (ttell k).map fun e => (i + 1, e)) (ut S' (i + 1) (tRes c.n c.B (tnext k))) v' a' oc tc') :
    ∃ a' tc', DInv c (g ++ (norm kk).1.map fun e => (i + 1, e)) (ut S' (i + 1) (norm kk).2) v' a' oc tc' := by
  rw [hk]
  simpa only [List.map_cons, List.append_assoc, List.singleton_append] using h
theorem muteT {kk : Pr DE} {i : Nat} (I : DInv c g S v a oc tc) (x : TC) (hk : kk = tRes c.n c.B x) (hn : NoEm kk) (hx : TI c a (i + 1) x) :
    ∃ a' tc', DInv c (g ++ (norm kk).1.map fun e => (i + 1, e)) (ut S (i + 1) (norm kk).2) v a' oc tc' := by
  rw [norm_of_no hn]
  refine ⟨a, ut tc i x, (ut_ne _ _ (by omega)).trans I.own, fun j => ?_, ?_, I.sl, I.v2, I.v3, I.G, I.O, fun j => ?_, ?_⟩
  · by_cases e : j = i
    · subst e; rw [ut_same, ut_same]; exact hk
    · rw [ut_ne _ _ (by omega), ut_ne _ _ e]; exact I.thf j
  · simpa using I.s
  · by_cases e : j = i
    · subst e; rw [ut_same]; exact hx
    · rw [ut_ne _ _ e]; exact I.T j
  · simpa using I.ok
theorem bcl_le (O : OI c a oc) : a.b - 1 <= bcl a.b oc /\ bcl a.b oc <= a.b := by
  cases oc <;> (unfold bcl; dsimp only; omega)
set_option maxHeartbeats 4000000 in
theorem thf_step (ok : c.Ok) (I : DInv c g S v a oc tc) {i : Nat} {r : Rq} {k : Int -> Pr DE} (hS : S (i + 1) = .step r k) :
    ∃ a' tc', DInv c (g ++ (norm (k (v r.b))).1.map fun e => (i + 1, e)) (ut S (i + 1) (norm (k (v r.b))).2) (ut v r.b (behind r.op (v r.b) r.arg r.new).1) a' oc tc' := by
  have hO := I.thf i
  rw [hS] at hO
  have G := I.G
  obtain ⟨s0, s1, s2⟩ := G.small ok
  have hpos := ok.pos
  have hT := I.T i
  obtain ⟨bc1, bc2⟩ := bcl_le I.O
  have keep : ∀ {w : Int}, a.s = dfold c.lone g -> ∀ {h : Int}, h ≠ 1 -> a.s = dfold c.lone (g ++ [(i + 1, .stolen w h)]) := fun {w} e {h} hh => by
    rw [dfold_snoc, <- e]
    exact (dstep_lost hh).symm
  generalize htc : tc i = x at hO hT
  cases x with
  | fin => cases hO
  | raw k => cases hO
  | t0 k =>
    cases hO
    dsimp only
    rw [behind1, ut_self]
    exact muteT I (.t1 k (v (c.B 2))) rfl nofun ⟨hT.1, hT.2, a.t, I.v2, s0, Int.le_refl _, fun h => absurd h (Int.lt_irrefl _)⟩
  | t1 k p =>
    obtain ⟨h1, h2, p0, hp, q0, q1, q2⟩ := hT
    cases hO
    dsimp only
    rw [behind1, ut_self]
    have e1 : W64 (v (c.B 3) - p) = bcl a.b oc - p0 := by rw [I.v3, hp]; exact w64_d (by omega) (by omega)
    by_cases hc : bcl a.b oc - p0 <= 0
    · rw [if_pos (by rw [e1]; exact hc)]
      exact toldT (norm_kst _ _ k 0 0) (arriveT (a := a) I.own (fun j _ => I.thf j) (keep I.s (by decide)) I.sl I.v2 I.v3 G I.O (fun j _ => I.T j) h1 (dokl_snoc I.ok (.inr (.inr ⟨rfl, rfl⟩))))
    · rw [if_neg (by rw [e1]; exact hc)]
      exact muteT I (.t2 k p) rfl nofun ⟨h1, h2, p0, hp, q0, q1, q2, fun e => by have := I.O.lim; omega⟩
  | t2 k p =>
    obtain ⟨h1, h2, p0, hp, q0, q1, q2, q3⟩ := hT
    cases hO
    dsimp only
    rw [behind1, ut_self]
    exact muteT I (.t3 k p (v (c.B (4 + slot c.n p)))) rfl nofun ⟨h1, h2, p0, hp, q0, q1, q2, fun e => ⟨q3 e, by rw [I.sl, hp, slot_off c ok, e]; rfl⟩⟩
  | t3 k p x =>
    obtain ⟨h1, h2, p0, hp, q0, q1, q2, q3⟩ := hT
    cases hO
    dsimp only
    rw [behind3, I.v2]
    by_cases e : p0 = a.t
    · obtain ⟨q4, q5⟩ := q3 e
      have hb : a.t < a.b := by have := I.O.limb; omega
      have hh := I.O.nohand G q4
      obtain ⟨y1, y2, y3, y4⟩ := G.val a.t (Int.le_refl _) hb
      have hpm := G.pm
      have e1 : W64 (c.F + a.t) = p := by rw [hp, e]
      rw [if_pos e1, if_pos e1, q5]
      have e2 : W64 (p + 1) = W64 (c.F + (a.t + 1)) := by rw [hp, w64_up, e]
      refine toldT (norm_kst _ _ k _ 1) (arriveT (a := a.steal) I.own (fun j _ => I.thf j) ?_ ?_ ?_ ?_ (G.steal hb hh h1) (I.O.steal q4) (fun j hj => (I.T j).mono ?_) h1 (dokl_snoc I.ok (.inl ⟨rfl, y1, by omega, by rw [<- I.s]; exact y3, by rw [<- I.s]; exact y4⟩)))
      · rw [dfold_snoc, <- I.s]; rfl
      · show a.sl = _
        rw [I.sl]; funext o; exact (slv_two ok _ _).symm
      · exact (ut_same _ _ _).trans e2
      · rw [ut_ne _ _ (two_three ok).symm]; exact I.v3
      · refine ⟨by show a.t <= a.t + 1; omega, by show a.s.gets <= a.s.gets + 1; omega, rfl, fun _ => .inl (by show a.s.gets < a.s.gets + 1; omega), fun h => absurd hh h, fun h => ?_⟩
        have h' : a.t + 1 = a.t := h
        omega
    · have e1 : W64 (c.F + a.t) ≠ p := by rw [hp]; exact fun e' => e (w64_inj e' (by omega) (by omega)).symm
      rw [if_neg e1, if_neg e1]
      have e3 : ut v (c.B 2) (W64 (c.F + a.t)) = v := by rw [<- I.v2, ut_self]
      rw [e3]
      refine toldT (norm_kst _ _ k 0 2) (arriveT (a := a) I.own (fun j _ => I.thf j) (keep I.s (by decide)) I.sl I.v2 I.v3 G I.O (fun j _ => I.T j) h1 (dokl_snoc I.ok (.inr (.inl ⟨rfl, rfl, ?_⟩))))
      rw [<- I.s]
      rcases q2 (by omega) with z | z
      · exact .inl z
      · exact .inr (I.O.hands z)
theorem oRes_no {x : OC} (h : ∀ l p, x ≠ .raw l p) : NoEm (oRes c.n c.B x) := by
  cases x with
  | raw l p => exact absurd rfl (h l p)
  | at0 l p =>
    rcases l with - | ⟨y, l⟩
    · exact nofun
    · cases y <;> exact nofun
  | _ => exact nofun
theorem tRes_no {x : TC} (h : ∀ k, x ≠ .raw k) : NoEm (tRes c.n c.B x) := by
  cases x with
  | raw k => exact absurd rfl (h k)
  | _ => exact nofun
theorem dinv_all (ok : c.Ok) {v0 : Nat -> Int} (h2 : v0 (c.B 2) = W64 c.F) (h3 : v0 (c.B 3) = W64 c.F) {l : List Ev} (R : GR (onceP c.n c.B c.o c.th) v0 l g S v) : ∃ a oc tc, DInv c g S v a oc tc := by
  induction R with
  | init =>
    refine ⟨⟨0, 0, 0, none, slv c v0, DS.z⟩, .raw c.o 0, fun i => match c.th[i]? with | some (k + 1) => .raw k | _ => .fin, rfl, fun i => ?_, rfl, rfl, by rw [h2, Int.add_zero], by show _ = W64 (c.F + 0); rw [h3, Int.add_zero], ?_, ⟨⟨rfl, by unfold DP.m; omega⟩, rfl, rfl⟩, fun i => ?_, fun g1 x g2 e => by cases g1 <;> cases e⟩
    · show (match c.th[i]? with | some k => thfP c.n c.B k | none => .done) = _
      cases c.th[i]? with
      | none => rfl
      | some k => cases k <;> rfl
    · have := ok.pos
      refine ⟨Int.le_refl _, Int.le_refl _, Int.le_refl _, by show (0 : Int) < c.o.length + 1; omega, by show (0 : Int) - 0 <= c.n; omega, fun o h1 h2 => ?_, fun o o' h1 h2 h3 => ?_, fun x h1 h2 => ?_, fun x h => (by cases h), Int.le_refl _, fun x h => (by cases h), rfl, fun _ => rfl⟩
      · have h1' : 0 <= o := h1
        have h2' : o < 0 := h2
        omega
      · have h1' : 0 <= o := h1
        have h3' : o' < 0 := h3
        omega
      · have h2' : x <= 0 := h2
        omega
    · cases e : c.th[i]? with
      | none => trivial
      | some k =>
        cases k with
        | zero => trivial
        | succ k =>
          show c.lone = false
          unfold DP.lone
          cases hth : c.th with
          | nil => rw [hth] at e; cases e
          | cons x xs => rfl
  | @tell l g S v i _ ih =>
    obtain ⟨a, oc, tc, I⟩ := ih
    cases i with
    | zero =>
      by_cases hr : ∃ l p, oc = .raw l p
      · obtain ⟨l, p, rfl⟩ := hr
        obtain ⟨b0, hh, hl⟩ := I.O
        rw [show S 0 = ownP c.n c.B l p from I.own, norm_own]
        obtain ⟨a', oc', I'⟩ := arriveO I.thf I.s I.sl I.v2 I.v3 I.G b0 hh hl I.T I.ok
        exact ⟨a', oc', tc, I'⟩
      · have hn : NoEm (S 0) := by rw [I.own]; exact oRes_no fun l p e => hr ⟨l, p, e⟩
        rw [norm_of_no hn]
        refine ⟨a, oc, tc, ?_⟩
        rw [ut_self]
        simpa using I
    | succ i =>
      by_cases hr : ∃ k, tc i = .raw k
      · obtain ⟨k, hk⟩ := hr
        have e := I.thf i
        rw [hk] at e
        have hT := I.T i
        rw [hk] at hT
        rw [show S (i + 1) = thfP c.n c.B (k + 1) from e, norm_thf]
        obtain ⟨a', tc', I'⟩ := arriveT (k := k + 1) I.own (fun j _ => I.thf j) I.s I.sl I.v2 I.v3 I.G I.O (fun j _ => I.T j) hT I.ok (i := i)
        exact ⟨a', oc, tc', I'⟩
      · have hn : NoEm (S (i + 1)) := by rw [I.thf]; exact tRes_no fun k e => hr ⟨k, e⟩
        rw [norm_of_no hn]
        refine ⟨a, oc, tc, ?_⟩
        rw [ut_self]
        simpa using I
  | @step l g S v i r k _ hS ih =>
    obtain ⟨a, oc, tc, I⟩ := ih
    cases i with
    | zero =>
      have fin : (∃ a' oc', DInv c (g ++ (norm (k (v r.b))).1.map fun e => (0, e)) (ut S 0 (norm (k (v r.b))).2) (ut v r.b (behind r.op (v r.b) r.arg r.new).1) a' oc' tc) -> ∃ a oc tc, DInv c (g ++ (norm (k (v r.b))).1.map fun e => (0, e)) (ut S 0 (norm (k (v r.b))).2) (ut v r.b (behind r.op (v r.b) r.arg r.new).1) a oc tc := fun ⟨a', oc', I'⟩ => ⟨a', oc', tc, I'⟩
      apply fin
      cases oc with
      | raw l p =>
        obtain ⟨b0, hh, hl⟩ := I.O
        have e : ∀ l', l ≠ false :: l' := fun l' e => by
          have := I.own
          rw [hS, e] at this
          cases this
        have e2 : oRes c.n c.B (.raw l p) = oRes c.n c.B (.at0 l p) := by
          rcases l with - | ⟨x, l⟩
          · rfl
          · cases x
            · exact absurd rfl (e l)
            · rfl
        exact own_step0 ok (l := l) (p := p) ⟨I.own.trans e2, I.thf, I.s, I.sl, I.v2, I.v3, I.G, ⟨b0, hh, hl, fun l' e' => absurd e' (e l')⟩, I.T, I.ok⟩ hS
      | at0 l p => exact own_step0 ok I hS
      | pu1 l p b => exact own_push ok (.inl rfl) I hS
      | pu2 l p b => exact own_push ok (.inr (.inl rfl)) I hS
      | pu3 l p b => exact own_push ok (.inr (.inr rfl)) I hS
      | po1 l p b => exact own_pop1 ok (.inl rfl) I hS
      | po2 l p b => exact own_pop1 ok (.inr (.inl rfl)) I hS
      | po3 l p b => exact own_pop1 ok (.inr (.inr rfl)) I hS
      | po4 l p b q => exact own_pop2 ok (x := 0) (w := 0) (.inl rfl) I hS
      | po5 l p b q x => exact own_pop2 ok (w := 0) (.inr (.inl rfl)) I hS
      | po6 l p b q x w => exact own_pop2 ok (.inr (.inr rfl)) I hS
    | succ i =>
      obtain ⟨a', tc', I'⟩ := thf_step ok I hS
      exact ⟨a', oc, tc', I'⟩
end
end
end Go.Proofs.Ytcpcdnkemobneaa
section
open Lean Elab Tactic Meta
end
namespace Go.Proofs.Ytcpcdnkemobneaa
section
open Go Go.TJ Go.Conc Go.Proofs
inductive DNm where
  | got | stk | pushed | there | gets | pop | last | wrong
  deriving DecidableEq
structure QS where
  got : Int -> Bool
  stk : Value
  pushed : Int
  there : Int
  gets : Int
  last : Int
  pop : Bool
def gotC (m : Nat) (f : Int -> Bool) : Array Value := ((List.range m).map fun j => .bool (f j)).toArray
def dO (m : Nat) (q : QS) : DNm -> Obj
  | .got => .cells (gotC m q.got) 4 (0, 0)
  | .stk => .cells #[q.stk] 64 (0, 0)
  | .pushed => .cells #[.int .i64 q.pushed] 2 (0, 0)
  | .there => .cells #[.int .i64 q.there] 3 (0, 0)
  | .gets => .cells #[.int .i64 q.gets] 3 (0, 0)
  | .pop => .cells #[.bool q.pop] 4 (0, 0)
  | .last => .cells #[.int .i64 q.last] 2 (0, 0)
  | .wrong => .cells #[.bool false] 4 (0, 0)
def dM (m : Nat) (D : DNm -> Nat) (q : QS) : Mem DNm := ⟨fun _ => True, D, dO m q⟩
def QS.of (s : DS) (mv : Value) : QS := ⟨s.got, mv, s.pushed, s.there, s.gets, s.last, s.popping⟩
def QS.get (q : QS) (v : Int) : QS := { q with got := fun x => if x = v then true else q.got x, there := q.there - 1, gets := q.gets + 1 }
section
variable {h : Hp} {m : Nat} {D : DNm -> Nat} {q : QS}
theorem dwrite (r : Rep h (dM m D q)) (k : DNm) {c : Array Value} {e : TypeId} {f : Nat × Nat} (ho : dO m q k = .cells c e f) (i : Nat) (v : Value) {q' : QS} (h1 : dO m q' k = .cells (c.setIfInBounds i v) e f) (h2 : ∀ j, j ≠ k -> dO m q' j = dO m q j) : Rep (hset h ⟨D k, i, none⟩ v) (dM m D q') := by
  refine (r.hset (k := k) trivial ho i v).congr (fun _ x => x) (fun _ _ => rfl) fun j _ => ?_
  show dO m q' j = ut (dO m q) k _ j
  by_cases e : j = k
  · subst e; rw [ut_same]; exact h1
  · rw [ut_ne _ _ e]; exact h2 j e
theorem dcell (r : Rep h (dM m D q)) (k : DNm) {c : Array Value} {e : TypeId} {f : Nat × Nat} (ho : dO m q k = .cells c e f) {i : Nat} {v : Value} (hv : c[i]? = some v) : hcell h ⟨D k, i, none⟩ = some v := r.cell (k := k) trivial ho hv
theorem dfroz (r : Rep h (dM m D q)) (k : DNm) {c : Array Value} {e : TypeId} (ho : dO m q k = .cells c e (0, 0)) {i : Nat} : hfroz h ⟨D k, i, none⟩ = false := hfroz_of (r.get (k := k) trivial ho)
theorem gotC_get {f : Int -> Bool} {j : Nat} (hj : j < m) : (gotC m f)[j]? = some (.bool (f j)) := by
  unfold gotC
  simp [hj]
theorem gotC_set {f : Int -> Bool} {v : Int} (h0 : 0 <= v) : gotC m (fun x => if x = v then true else f x) = (gotC m f).setIfInBounds v.toNat (.bool true) := by
  apply Array.ext_getElem?
  intro j
  by_cases hj : j < m
  · rw [gotC_get hj]
    by_cases e : j = v.toNat
    · have e' : (j : Int) = v := by omega
      rw [if_pos e', <- e, Array.getElem?_setIfInBounds_self_of_lt (by simp [gotC, hj])]
    · have e' : (j : Int) ≠ v := by omega
      rw [if_neg e', Array.getElem?_setIfInBounds_ne (Ne.symm e), gotC_get hj]
  · rw [Array.getElem?_eq_none (by simp [gotC]; omega), Array.getElem?_eq_none (by simp [gotC]; omega)]
end
section
variable {Γ : Type} {main : Bool} {S : Sit Γ} {δ : Ix Γ} {h : Hp} {m : Nat} {D : DNm -> Nat} {q : QS}
set_option maxRecDepth 8000 in
set_option maxHeartbeats 4000000 in
theorem dget_ok {bg : Nat} {v : Int} (r : Rep h (dM m D q)) (hg : h[bg]? = some (.cells #[.slice (some ⟨D .got, 0, none⟩) m m] 63 (0, 0))) (hbg : ∀ k, bg ≠ D k) (hm : m <= 100000) (h1 : 1 <= v) (h2 : v < m) (h3 : q.got v = false) (ht : -100000 <= q.there /\ q.there <= 100000) (hgt : -100000 <= q.gets /\ q.gets <= 100000) (hS : ∀ k o, ¬ S.still δ.g ⟨D k, o, none⟩) :
    CallW Try.prog main S 39 #[.int .i64 v, ptr (D .wrong), ptr bg, ptr (D .there), ptr (D .gets)] h δ (Ret fun _ h' δ' => δ' = δ /\ Rep h' (dM m D (q.get v)) /\ Upd (fun b => ∃ k, b = D k) h h') := by
  obtain ⟨j, hj⟩ : ∃ j : Nat, v = j := ⟨v.toNat, by omega⟩
  subst hj
  have cw : hcell h ⟨D .wrong, 0, none⟩ = some (.bool false) := dcell r .wrong rfl (i := 0) rfl
  have cg : hcell h ⟨bg, 0, none⟩ = some (.slice (some ⟨D .got, 0, none⟩) m m) := hcell_of hg rfl
  have cj : hcell h ⟨D .got, 0 + j * 1, none⟩ = some (.bool false) := by
    rw [show 0 + j * 1 = j by omega]
    exact dcell r .got rfl (by rw [gotC_get (by omega), h3])
  refine CallW.start (n := 37) rfl rfl ?_
  (repeat (first | refine EK.seq ?_ | refine EK.region ?_ | refine ER.move rfl rfl rfl ?_ | refine ER.load1 rfl rfl rfl (hcell_of (by assumption) rfl) ?_ | refine ER.pickF rfl rfl rfl rfl ?_ | refine ER.cmpF rfl rfl rfl rfl rfl (by first | (dsimp only [cmpP]; omega) | exact rfl | exact Int.le_refl _) ?_ | refine ER.sub' (kd := .i64) rfl rfl rfl rfl (i64_in (by omega) (by omega)) ?_ | refine ER.len1 rfl rfl rfl ?_ | refine ER.load1 rfl rfl rfl (by assumption) ?_))
  refine ER.min (r := (j : Int)) rfl rfl rfl rfl (by rw [if_neg (by omega)]) ?_
  refine ER.max (r := (j : Int)) rfl rfl rfl rfl (by rw [if_neg (by omega)]) ?_
  (repeat (first | refine ER.pickF rfl rfl rfl rfl ?_ | refine ER.indexSl rfl rfl rfl rfl (by omega) (by omega) ?_ | refine ER.load1 rfl rfl rfl (by assumption) ?_))
  refine ER.store1 rfl rfl rfl ⟨nofun, nofun⟩ ⟨_, dcell r .wrong rfl rfl⟩ (dfroz r .wrong rfl) (hS .wrong _) ?_
  have u' := Upd.hset (T := fun b => ∃ k, b = D k) h ⟨D .wrong, 0, none⟩ (.bool false) ⟨_, rfl⟩
  have r' := dwrite r .wrong rfl 0 (.bool false) (q' := q) rfl (fun j hj => by cases j <;> first | rfl | exact absurd rfl hj)
  have u1 := u'
  clear cw cg cj
  generalize hset h ⟨D .wrong, 0, none⟩ (.bool false) = x1 at u1 u' r' ⊢
  have hg1 := u1.get hg (fun ⟨k, e⟩ => hbg k e)
  have cw : hcell x1 ⟨D .wrong, 0, none⟩ = some (.bool false) := dcell r' .wrong rfl (i := 0) rfl
  have cg : hcell x1 ⟨bg, 0, none⟩ = some (.slice (some ⟨D .got, 0, none⟩) m m) := hcell_of hg1 rfl
  have r1 := r'
  clear r r' u' hg
  (repeat (first | refine EK.seq ?_ | refine EK.region ?_ | refine ER.done ?_ | refine ER.move rfl rfl rfl ?_ | refine ER.load1 rfl rfl rfl (hcell_of (by assumption) rfl) ?_ | refine ER.notB rfl rfl rfl ?_ | refine ER.indexSl rfl rfl rfl rfl (by omega) (by omega) ?_ | refine EK.condT rfl ?_ | refine ER.load1 rfl rfl rfl (by assumption) ?_))
  refine ER.store1 rfl rfl rfl ⟨nofun, nofun⟩ ⟨_, by rw [show 0 + (j : Int).toNat * 1 = j by omega]; exact dcell r1 .got rfl (gotC_get (by omega))⟩ (dfroz r1 .got rfl) (hS .got _) ?_
  rw [show 0 + (j : Int).toNat * 1 = j by omega]
  have u2 := u1.trans (Upd.hset (T := fun b => ∃ k, b = D k) x1 ⟨D .got, j, none⟩ (.bool true) ⟨_, rfl⟩)
  have r2 := dwrite r1 .got rfl j (.bool true) (q' := { q with got := fun x => if x = (j : Int) then true else q.got x }) (by show Obj.cells _ _ _ = _; rw [gotC_set (by omega)]; rfl) (fun k hk => by cases k <;> first | rfl | exact absurd rfl hk)
  clear cw cg hg1 u1 r1
  generalize hset x1 ⟨D .got, j, none⟩ (.bool true) = x2 at u2 r2 ⊢
  have ct : hcell x2 ⟨D .there, 0, none⟩ = some (.int .i64 q.there) := dcell r2 .there rfl (i := 0) rfl
  (repeat (first | refine EK.seq ?_ | refine EK.region ?_ | refine ER.done ?_ | refine ER.sub' (kd := .i64) rfl rfl rfl rfl (i64_in (by omega) (by omega)) ?_ | refine ER.load1 rfl rfl rfl (by assumption) ?_))
  refine ER.store1 rfl rfl rfl ⟨nofun, nofun⟩ ⟨_, dcell r2 .there rfl rfl⟩ (dfroz r2 .there rfl) (hS .there _) ?_
  have u' := Upd.hset (T := fun b => ∃ k, b = D k) x2 ⟨D .there, 0, none⟩ (.int .i64 (q.there - 1)) ⟨_, rfl⟩
  have r' := dwrite r2 .there rfl 0 (.int .i64 (q.there - 1)) (q' := { q with got := fun x => if x = (j : Int) then true else q.got x, there := q.there - 1 }) rfl (fun j hj => by cases j <;> first | rfl | exact absurd rfl hj)
  have u3 := u2.trans u'
  clear u' u2 ct r2
  generalize hset x2 ⟨D .there, 0, none⟩ (.int .i64 (q.there - 1)) = x3 at u3 r' ⊢
  have r3 := r'
  clear r'
  have ct : hcell x3 ⟨D .gets, 0, none⟩ = some (.int .i64 q.gets) := dcell r3 .gets rfl (i := 0) rfl
  (repeat (first | refine EK.region ?_ | refine ER.done ?_ | refine ER.add (kd := .i64) rfl rfl rfl rfl (i64_in (by omega) (by omega)) ?_ | refine ER.load1 rfl rfl rfl (by assumption) ?_))
  refine ER.store1 rfl rfl rfl ⟨nofun, nofun⟩ ⟨_, dcell r3 .gets rfl rfl⟩ (dfroz r3 .gets rfl) (hS .gets _) ?_
  have u' := Upd.hset (T := fun b => ∃ k, b = D k) x3 ⟨D .gets, 0, none⟩ (.int .i64 (q.gets + 1)) ⟨_, rfl⟩
  have r' := dwrite r3 .gets rfl 0 (.int .i64 (q.gets + 1)) (q' := q.get j) rfl (fun j hj => by cases j <;> first | rfl | exact absurd rfl hj)
  (repeat refine ER.done ?_)
  exact EK.done (EU.ret0 rfl ⟨rfl, r', u3.trans u'⟩)
end
end
section
open Go Go.TJ Go.Conc Go.Proofs
structure D1 where
  c : DP
  hN : Hp
  ex : Nat -> Prop
  D : DNm -> Nat
  v0 : Nat -> Int
def D1.isC (d : D1) (b : Nat) : Prop := ∃ k, 2 <= k /\ k < 4 + d.c.n /\ b = d.c.B k
def D1.old (d : D1) (b : Nat) : Prop := b < d.hN.size /\ ¬ d.isC b /\ ¬ d.ex b /\ ∀ k, b ≠ d.D k
def D1.ml (d : D1) : Nat := d.c.o.length + 1
def D1.s (d : D1) (g : List (Nat × DE)) : DS := dfold d.c.lone g
structure DMI (d : D1) (g : List (Nat × DE)) (mv : Value) (h : Hp) : Prop where
  old : ∀ b, d.old b -> h[b]? = d.hN[b]?
  rep : Rep h (dM d.ml d.D (QS.of (d.s g) mv))
  sl : SliceO h mv 2 1 (d.s g).stack.length ((d.s g).stack.map fun x => .int .i64 x)
  new : ∀ b, blk mv = some b -> ¬ d.old b /\ ¬ d.isC b /\ ∀ k, b ≠ d.D k
def gcD (d : D1) : GC DE Value where
  isC := d.isC
  P := onceP d.c.n d.c.B d.c.o d.c.th
  v0 := d.v0
  Dom := fun m b => d.old b \/ (∃ k, b = d.D k) \/ (¬ d.isC b /\ blk m = some b)
  I := DMI d
  JV := fun _ => True
abbrev XD (d : D1) : Us := UsN (gcD d)
abbrev dtold (d : D1) : (XD d).U -> Nat -> List DE := fun u i => toldOf i u.1
section
variable {d : D1} {g : List (Nat × DE)} {mv mv' : Value} {h h' : Hp} {i : Nat} {γ γ' : GG (XD d)} {u : (XD d).U}
theorem SliceO.same2 {h h' : Hp} {s : Value} {e sz n : Nat} {cells : List Value} (x : SliceO h s e sz n cells) (hb : ∀ b, blk s = some b -> h'[b]? = h[b]?) : SliceO h' s e sz n cells := by
  refine ⟨x.1, x.2.imp id ?_⟩
  rintro ⟨b, cap, rest, rfl, h1, h2, h3⟩
  exact ⟨b, cap, rest, rfl, h1, h2, (hb b rfl).trans h3⟩
theorem gcD_ok (hD : ∀ k, ¬ d.isC (d.D k)) : (XD d).Ok :=
  usN_ok (fun _g _m _h _h' hb I => ⟨fun b h1 => (hb b (.inl h1)).trans (I.old b h1), ⟨fun k hk => (hb _ (.inr (.inl ⟨k, rfl⟩))).trans (I.rep.has k hk), I.rep.inj⟩, SliceO.same2 I.sl fun b hbb => hb b (.inr (.inr ⟨(I.new b hbb).2.1, hbb⟩)), I.new⟩)
    (fun _m _b hd hc => hd.elim (fun y => y.2.1 hc) fun y => y.elim (fun ⟨k, e⟩ => hD k (e ▸ hc)) fun y => y.1 hc)
theorem DMI.oldlt (I : DMI d g mv h) {b : Nat} (hb : d.old b) : b < h.size := by
  have := I.old b hb
  rw [Array.getElem?_eq_getElem hb.1] at this
  exact lt_of_get this
theorem dcl {L : List (Nat × Obj)} (T : Thr (XD d) i γ u L h) : ∀ b, d.isC b -> b < h.size := fun b hb => by
  obtain ⟨s, M, g⟩ := T.gi
  exact lt_of_get (g.cel b hb).1
theorem dput (hD : ∀ k, ¬ d.isC (d.D k)) (T : Thr (XD d) i γ u [] h) {a : DE} (up : Upd (fun b => (∃ k, b = d.D k) \/ blk u.2 = some b) h h') (rep : Rep h' (dM d.ml d.D (QS.of (d.s (u.1 ++ [(i, a)])) mv')))
    (sl : SliceO h' mv' 2 1 (d.s (u.1 ++ [(i, a)])).stack.length ((d.s (u.1 ++ [(i, a)])).stack.map fun x => .int .i64 x)) (hb : ∀ b, blk mv' = some b -> blk u.2 = some b \/ h.size <= b) : Thr (XD d) i γ (u.1 ++ [(i, a)], mv') [] h' := by
  have I : DMI d u.1 u.2 h := T.I
  let u' : (XD d).U := (u.1 ++ [(i, a)], mv')
  have hs := up.size
  have hnew : ∀ b, blk mv' = some b -> ¬ d.old b /\ ¬ d.isC b /\ ∀ k, b ≠ d.D k := fun b hbb => by
    rcases hb b hbb with y | y
    · exact I.new b y
    · exact ⟨fun z => by have := I.oldlt z; omega, fun z => by have := dcl T b z; omega, fun k e => by have := I.rep.lt (k := k) trivial; change d.D k < _ at this; omega⟩
  show Thr (XD d) i γ u' [] _
  refine T.user (gcD_ok hD) (u' := u') (L' := []) (up.mono fun b _ x => .inl (.inr (x.imp id fun y => ⟨(I.new b y).2.1, y⟩))) (fun b hb' => ?_) (fun q hq => by cases hq) ⟨fun b h1 => ?_, rep, sl, hnew⟩ fun x hx => ⟨[(i, a)], rfl, fun y hy => by rw [List.mem_singleton.1 hy]; exact Ne.symm hx⟩
  · rcases hb' with y | ⟨k, e⟩ | ⟨y1, y2⟩
    · exact ⟨.inl (.inl y), by have := I.oldlt y; omega⟩
    · refine ⟨.inl (.inr (.inl ⟨k, e⟩)), ?_⟩
      have := rep.lt (k := k) trivial
      change d.D k < _ at this
      omega
    · refine ⟨?_, SliceO.lt sl y2⟩
      rcases hb b y2 with z | z
      · exact .inl (.inr (.inr ⟨y1, z⟩))
      · exact .inr z
  · rw [up.2 b (I.oldlt h1) (fun x => x.elim (fun ⟨k, e⟩ => h1.2.2.2 k e) fun x => (I.new b x).1 h1)]
    exact I.old b h1
end
structure DEnv (d : D1) (cap : Nat) (rest : List Value) (bx bd bg bget : Nat) (fr bs : Int) (oS tS pS : Value) (ths : List Nat) : Prop where
  ok : d.c.Ok
  hD : ∀ k, ¬ d.isC (d.D k)
  K : CodX (XD d) (onceP d.c.n d.c.B d.c.o d.c.th) (dtold d) (DeqH d.c.n cap rest d.c.B)
  DK : DeqK (XD d) d.c.n d.c.e d.c.B
  v2 : d.v0 (d.c.B 2) = W64 d.c.F
  v3 : d.v0 (d.c.B 3) = W64 d.c.F
  x : d.old bx /\ d.hN[bx]? = some (.cells #[.int .i64 d.c.n, .int .i64 fr, .int .i64 bs, oS, tS, pS] 98 (0, 0))
  dq : d.old bd /\ d.hN[bd]? = some (.cells #[ptr (d.c.B 0)] 89 (0, 0))
  g : d.old bg /\ d.hN[bg]? = some (.cells #[.slice (some ⟨d.D .got, 0, none⟩) d.ml d.ml] 63 (0, 0))
  get : d.old bget /\ d.hN[bget]? = some (.cells #[.func (.func 39) #[] #[ptr (d.D .wrong), ptr bg, ptr (d.D .there), ptr (d.D .gets)]] 101 (0, 0))
  own : RdS d.hN oS (d.c.o.map fun x => .bool x) /\ (d.c.o ≠ [] -> ∀ b, blk oS = some b -> d.old b)
  thf : RdS d.hN tS (ths.map fun (x : Nat) => .int .u8 x) /\ (ths ≠ [] -> ∀ b, blk tS = some b -> d.old b)
  th : d.c.th = ths.map fun x => x % 40
  u8 : ∀ x, x ∈ ths -> x < 256
  big : d.c.o.length <= 200 /\ ths.length <= 6
section
variable {d : D1} {cap : Nat} {rest : List Value} {bx bd bg bget : Nat} {fr bs : Int} {oS tS pS : Value} {ths : List Nat} {h : Hp} {i : Nat} {γ γ' : GG (XD d)} {u : (XD d).U}
theorem dlaw (E : DEnv d cap rest bx bd bg bget fr bs oS tS pS ths) {p : Pr DE} (a : AtP (XD d) (onceP d.c.n d.c.B d.c.o d.c.th) (dtold d) i γ u [] h p) :
    dokl d.c.m d.c.n d.c.lone (u.1 ++ (norm p).1.map fun e => (i, e)) /\ DCnt (d.s u.1) /\ (d.s u.1).pushed < d.c.m /\ (d.s u.1).gets < d.c.m := by
  obtain ⟨S, R⟩ := usN_reach a.thr a.res a.ext
  obtain ⟨A, oc, tc, I⟩ := dinv_all E.ok E.v2 E.v3 R
  obtain ⟨c1, c2, c3⟩ := dfold_cnt (es := (norm p).1.map fun e => (i, e)) (dcnt (lone := d.c.lone) (g := u.1))
  have hpm := I.G.pm
  have ht := I.G.there
  have htb := I.G.tb
  have hg := c1.t
  rw [I.s] at hpm ht
  refine ⟨I.ok, dcnt, Int.lt_of_le_of_lt c2 hpm, ?_⟩
  have : 0 <= (dfold d.c.lone (u.1 ++ (norm p).1.map fun e => (i, e))).there := by
    rw [ht]
    split <;> omega
  show (dfold d.c.lone u.1).gets < _
  omega
theorem dnext (E : DEnv d cap rest bx bd bg bget fr bs oS tS pS ths) {e : DE} {k : Pr DE} (a : AtP (XD d) (onceP d.c.n d.c.B d.c.o d.c.th) (dtold d) i γ u [] h (.emit e k)) :
    dok d.c.m d.c.n d.c.lone (d.s u.1) (i, e) /\ DCnt (d.s u.1) /\ (d.s u.1).pushed < d.c.m /\ (d.s u.1).gets < d.c.m := by
  obtain ⟨l1, l2⟩ := dlaw E a
  exact ⟨l1 u.1 (i, e) ((norm k).1.map fun e => (i, e)) rfl, l2⟩
structure DNow (d : D1) (bx bd bg bget : Nat) (fr bs : Int) (oS tS pS : Value) (ths : List Nat) (h : Hp) : Prop where
  x : h[bx]? = some (.cells #[.int .i64 d.c.n, .int .i64 fr, .int .i64 bs, oS, tS, pS] 98 (0, 0))
  dq : hcell h ⟨bd, 0, none⟩ = some (ptr (d.c.B 0))
  g : h[bg]? = some (.cells #[.slice (some ⟨d.D .got, 0, none⟩) d.ml d.ml] 63 (0, 0))
  get : hcell h ⟨bget, 0, none⟩ = some (.func (.func 39) #[] #[ptr (d.D .wrong), ptr bg, ptr (d.D .there), ptr (d.D .gets)])
  own : RdS h oS (d.c.o.map fun x => .bool x)
  thf : RdS h tS (ths.map fun (x : Nat) => .int .u8 x)
theorem RdS.low {h h' : Hp} {s : Value} {vs : List Value} (x : RdS h s vs) (hb : vs ≠ [] -> ∀ b, blk s = some b -> h'[b]? = h[b]?) : RdS h' s vs := by
  refine ⟨x.val, fun i v hv => ?_⟩
  obtain ⟨b, o, k, e, hc⟩ := x.cell i v hv
  refine ⟨b, o, k, e, ?_⟩
  unfold TJ.hcell at hc ⊢
  rw [hb (fun y => by rw [y] at hv; cases hv) b (by rw [e]; rfl)]
  exact hc
theorem DEnv.now (E : DEnv d cap rest bx bd bg bget fr bs oS tS pS ths) {h' : Hp} (hh : ∀ b, d.old b -> h'[b]? = d.hN[b]?) : DNow d bx bd bg bget fr bs oS tS pS ths h' :=
  ⟨(hh _ E.x.1).trans E.x.2, hcell_of ((hh _ E.dq.1).trans E.dq.2) rfl, (hh _ E.g.1).trans E.g.2, hcell_of ((hh _ E.get.1).trans E.get.2) rfl,
    E.own.1.low fun hv b hb => hh b (E.own.2 (fun e => hv (by rw [e]; rfl)) b hb), E.thf.1.low fun hv b hb => hh b (E.thf.2 (fun e => hv (by rw [e]; rfl)) b hb)⟩
structure CallD (d : D1) (i : Nat) (γ γ' : GG (XD d)) (u' : (XD d).U) (h' : Hp) (p : Pr DE) : Prop where
  al : Along (XD d) i γ.p γ'.p
  at_ : AtP (XD d) (onceP d.c.n d.c.B d.c.o d.c.th) (dtold d) i γ' u' [] h' p
theorem dtells {e : DE} {k : Pr DE} (a : AtP (XD d) (onceP d.c.n d.c.B d.c.o d.c.th) (dtold d) i γ u [] h (.emit e k)) {mv : Value} {h' : Hp} (T : Thr (XD d) i γ (u.1 ++ [(i, e)], mv) [] h') : AtP (XD d) (onceP d.c.n d.c.B d.c.o d.c.th) (dtold d) i γ (u.1 ++ [(i, e)], mv) [] h' k := by
  refine ⟨T, ?_, ?_⟩
  · have := a.res.tell
    show Goes i _ _ (toldOf i (u.1 ++ [(i, e)])) k
    rw [toldOf_app, show [(i, e)] = [e].map (fun a => (i, a)) from rfl, toldOf_own]
    exact this
  · obtain ⟨es, he⟩ := a.ext
    refine ⟨es ++ [e], ?_⟩
    have he' : u.1 = γ.p.u.1 ++ es.map fun a => (i, a) := he
    show u.1 ++ [(i, e)] = _
    rw [he', List.map_append, List.append_assoc]; rfl
end
end
section
open Go Go.TJ Go.Conc Go.Proofs
section
variable {d : D1} {cap : Nat} {rest : List Value} {bx bd bg bget : Nat} {fr bs : Int} {oS tS pS : Value} {ths : List Nat} {h h' : Hp} {i : Nat} {γ γ' : GG (XD d)} {u : (XD d).U}
theorem dsteals (E : DEnv d cap rest bx bd bg bget fr bs oS tS pS ths) {k : Pr DE} (a : AtP (XD d) (onceP d.c.n d.c.B d.c.o d.c.th) (dtold d) (i + 1) γ u [] h (.emit .steal k)) :
    AtP (XD d) (onceP d.c.n d.c.B d.c.o d.c.th) (dtold d) (i + 1) γ (u.1 ++ [(i + 1, .steal)], u.2) [] h k /\ (d.s (u.1 ++ [(i + 1, .steal)])).was (i + 1) = (d.s u.1).gets := by
  have I : DMI d u.1 u.2 h := a.thr.I
  have e : d.s (u.1 ++ [(i + 1, .steal)]) = { d.s u.1 with was := ut (d.s u.1).was (i + 1) (d.s u.1).gets } := dfold_snoc
  refine ⟨dtells a (dput E.hD a.thr (Upd.refl _ _) ?_ ?_ fun b hb => .inl hb), ?_⟩
  · rw [e]; exact I.rep
  · rw [e]; exact I.sl
  · rw [e]; exact ut_same _ _ _
set_option maxRecDepth 8000 in
set_option maxHeartbeats 4000000 in
theorem dthf_T (E : DEnv d cap rest bx bd bg bget fr bs oS tS pS ths) {iB w : Nat} (hi : d.old iB /\ d.hN[iB]? = some (.cells #[.int .i64 (i : Int)] 3 (0, 0))) (hw : ths[i]? = some w) (a : AtP (XD d) (onceP d.c.n d.c.B d.c.o d.c.th) (dtold d) (i + 1) γ u [] h (thfP d.c.n d.c.B (w % 40))) {t : Nat} (ht : t = γ.p.tb (i + 1)) :
    CallW Try.prog false (SitT Try.prog (PX (XD d)) (i + 1 + 1)) 43 #[ptr t, ptr bx, ptr iB, ptr (d.D .gets), ptr bd, ptr bget, ptr (d.D .wrong), ptr (d.D .last), ptr (d.D .pop)] h ⟨0, γ⟩ (RetP (fun w h' δ' => ∃ (γ' : GG (XD d)) (u' : (XD d).U), δ' = ⟨0, γ'⟩ /\ w = .tuple #[] /\ CallD d (i + 1) γ γ' u' h' .done) (Halt (XD d) (i + 1) γ.p)) := by
  subst ht
  obtain ⟨aT, kT, eT⟩ := E.thf.1.val
  rw [List.length_map] at eT
  subst eT
  have hth6 := E.big.2
  have hil : i < ths.length := by
    rcases Nat.lt_or_ge i ths.length with y | y
    · exact y
    · rw [List.getElem?_eq_none y] at hw; cases hw
  have hw8 := E.u8 w (List.mem_of_getElem? hw)
  refine CallW.start (n := 69) rfl rfl ?_
  (repeat (first | refine EK.seq ?_ | refine EK.region ?_ | refine ER.done ?_ | refine EK.block ?_ | refine ER.assign rfl rfl rfl ?_))
  refine EK.loopInv (fun q : GG (XD d) × (XD d).U × Nat => [(10, .int .u8 q.2.2), (8, ptr (d.D .pop)), (7, ptr (d.D .last)), (6, ptr (d.D .wrong)), (5, ptr bget), (4, ptr bd), (3, ptr (d.D .gets)), (2, ptr iB), (1, ptr bx), (0, ptr (γ.p.tb (i + 1)))]) (fun q h' δ' => δ' = ⟨0, q.1⟩ /\ AtP (XD d) (onceP d.c.n d.c.B d.c.o d.c.th) (dtold d) (i + 1) q.1 q.2.1 [] h' (thfP d.c.n d.c.B (w % 40 - q.2.2)) /\ Along (XD d) (i + 1) γ.p q.1.p /\ q.2.2 <= w % 40) (fun q => w % 40 - q.2.2) (γ, u, 0) ⟨rfl, rfl, rfl, rfl, rfl, rfl, rfl, rfl, rfl, rfl, trivial⟩ ⟨rfl, a, Along.refl _ _, Nat.zero_le _⟩ ?_
  clear a
  rintro ⟨γ1, u1, k⟩ h1 δ1 ⟨hδ, a1, al, hk⟩ again
  dsimp only at hδ a1 al hk again ⊢
  subst hδ
  have I1 : DMI d u1.1 u1.2 h1 := a1.thr.I
  have N1 := E.now I1.old
  have c4 : hcell h1 ⟨bx, 4, none⟩ = some (.slice aT ths.length kT) := hcell_of N1.x rfl
  have ci : hcell h1 ⟨iB, 0, none⟩ = some (.int .i64 (i : Int)) := hcell_of ((I1.old _ hi.1).trans hi.2) rfl
  obtain ⟨bT, oT, kT', eT, cT⟩ := N1.thf.cell i (.int .u8 w) (by rw [List.getElem?_map, hw]; rfl)
  injection eT with e1 e2 e3
  subst e1 e3
  have hw40 : w % 40 < 40 := Nat.mod_lt _ (by decide)
  (repeat (first | refine EK.seq ?_ | refine EK.region ?_ | refine ER.move rfl rfl rfl ?_ | refine ER.fieldAddr rfl rfl rfl ?_ | refine ER.indexSl rfl rfl rfl rfl (by omega) (by omega) ?_ | refine ER.load1 rfl rfl rfl (by assumption) ?_))
  refine ER.rem (r := ((w % 40 : Nat) : Int)) rfl rfl rfl rfl (by decide) rfl ?_
  by_cases hlt : k < w % 40
  · obtain ⟨r, hr⟩ : ∃ r, w % 40 - k = r + 1 := ⟨w % 40 - k - 1, by omega⟩
    have hr' : w % 40 - (k + 1) = r := by omega
    rw [hr] at a1
    have a1' : AtP (XD d) (onceP d.c.n d.c.B d.c.o d.c.th) (dtold d) (i + 1) γ1 u1 [] h1 (.emit .steal (stealD d.c.n d.c.B (kst d.c.n d.c.B r))) := a1
    obtain ⟨a2, hwas⟩ := dsteals E a1'
    have cgs : hcell h1 ⟨d.D .gets, 0, none⟩ = some (.int .i64 (d.s u1.1).gets) := dcell I1.rep .gets rfl (i := 0) rfl
    have cdq := N1.dq
    clear ci c4 cT
    (repeat (first | refine EK.seq ?_ | refine EK.region ?_ | refine ER.done ?_ | refine EK.skip ?_ | refine EK.block ?_ | refine ER.move rfl rfl rfl ?_ | refine ER.assign rfl rfl rfl ?_ | refine ER.cmpT rfl rfl rfl rfl rfl (by first | (dsimp only [cmpP]; omega) | exact rfl | exact Int.le_refl _) ?_ | refine EK.condT rfl ?_ | refine ER.load1 rfl rfl rfl (by assumption) ?_))
    refine ER.callP rfl rfl rfl rfl rfl (dsteal_T E.K E.DK a2 al.tb.symm) (fun _ _ _ x => x.along al) ?_
    clear cgs cdq N1 I1 a1 a1'
    rintro _ h2 δ2 ⟨γ2, v, how, rfl, rfl, nx⟩
    have al2 := al.trans nx.al
    have a3 : AtP (XD d) (onceP d.c.n d.c.B d.c.o d.c.th) (dtold d) (i + 1) γ2 γ2.p.u [] h2 (.emit (.stolen v how) (thfP d.c.n d.c.B r)) := nx.at_
    have T3 := a3.thr
    have I2 : DMI d γ2.p.u.1 γ2.p.u.2 h2 := T3.I
    have N2 := E.now I2.old
    have hS : ∀ k o, ¬ (SitT Try.prog (PX (XD d)) (i + 1 + 1)).still γ2 ⟨d.D k, o, none⟩ := fun k o => T3.free (.inl (.inr (.inl ⟨k, rfl⟩)))
    obtain ⟨hok, hcn, hpm, hgm⟩ := dnext E a3
    have hwas2 : (d.s γ2.p.u.1).was (i + 1) = (d.s u1.1).gets := by
      obtain ⟨es, he, hes⟩ := nx.V
      have he' : γ2.p.u.1 = (u1.1 ++ [(i + 1, DE.steal)]) ++ es := he
      rw [he', <- hwas]
      exact (dfold_other hes).2
    generalize (d.s u1.1).gets = W0 at hwas2 hwas ⊢
    have cw : hcell h2 ⟨d.D .wrong, 0, none⟩ = some (.bool false) := dcell I2.rep .wrong rfl (i := 0) rfl
    obtain ⟨cn1, cn2, cn3, cn4⟩ := hcn
    have hml : (d.ml : Int) = d.c.m := rfl
    have hmb : d.c.m <= 201 := by have := E.big.1; unfold DP.m; omega
    rcases hok with ⟨rfl, v1, v2, v3, v4⟩ | ⟨rfl, rfl, v1⟩ | ⟨rfl, rfl⟩
    · have cgt := N2.get
      (repeat (first | refine EK.seq ?_ | refine EK.region ?_ | refine ER.done ?_ | refine EK.block ?_ | refine ER.move rfl rfl rfl ?_ | refine ER.assign rfl rfl rfl ?_ | refine ER.extract rfl rfl rfl rfl ?_ | refine ER.cmpT rfl rfl rfl rfl rfl (by first | (dsimp only [cmpP]; omega) | exact rfl | exact Int.le_refl _) ?_ | refine EK.condT rfl ?_ | refine ER.load1 rfl rfl rfl (by assumption) ?_))
      refine ER.callR rfl rfl rfl rfl rfl (dget_ok I2.rep N2.g (fun k e => E.g.1.2.2.2 k e) (by omega) v1 (by omega) v3 ⟨by show _ <= (d.s γ2.p.u.1).there; omega, by show (d.s γ2.p.u.1).there <= _; omega⟩ ⟨by show _ <= (d.s γ2.p.u.1).gets; omega, by show (d.s γ2.p.u.1).gets <= _; omega⟩ hS) ?_
      rintro _ h3 δ3 ⟨rfl, r3, u3⟩
      clear cw cgt
      have cw : hcell h3 ⟨d.D .wrong, 0, none⟩ = some (.bool false) := dcell r3 .wrong rfl (i := 0) rfl
      have cl : hcell h3 ⟨d.D .last, 0, none⟩ = some (.int .i64 (d.s γ2.p.u.1).last) := dcell r3 .last rfl (i := 0) rfl
      (repeat (first | refine EK.seq ?_ | refine EK.region ?_ | refine ER.done ?_ | refine ER.move rfl rfl rfl ?_ | refine ER.pickF rfl rfl rfl rfl ?_ | refine ER.cmpF rfl rfl rfl rfl rfl (by first | (dsimp only [cmpP]; omega) | exact rfl | exact Int.le_refl _) ?_ | refine ER.load1 rfl rfl rfl (by assumption) ?_))
      refine ER.store1 (v := (.bool false)) rfl rfl rfl ⟨nofun, nofun⟩ ⟨_, dcell r3 .wrong rfl rfl⟩ (dfroz r3 .wrong rfl) (hS .wrong _) ?_
      have u' := Upd.hset (T := fun b => ∃ k, b = d.D k) h3 ⟨d.D .wrong, 0, none⟩ (.bool false) ⟨_, rfl⟩
      have r' := dwrite r3 .wrong rfl 0 (.bool false) (q' := (QS.get (QS.of (d.s γ2.p.u.1) γ2.p.u.2) v)) rfl (fun j hj => by cases j <;> first | rfl | exact absurd rfl hj)
      have u4 := u3.trans u'
      have r4 := r'
      clear cw cl u' r'
      generalize hset h3 ⟨d.D .wrong, 0, none⟩ (.bool false) = h4 at u4 r4 ⊢
      (repeat (first | refine EK.region ?_ | refine ER.done ?_ | refine ER.move rfl rfl rfl ?_))
      refine ER.store1 (v := (.int .i64 v)) rfl rfl rfl ⟨nofun, nofun⟩ ⟨_, dcell r4 .last rfl rfl⟩ (dfroz r4 .last rfl) (hS .last _) ?_
      have u' := Upd.hset (T := fun b => ∃ k, b = d.D k) h4 ⟨d.D .last, 0, none⟩ (.int .i64 v) ⟨_, rfl⟩
      have r' := dwrite r4 .last rfl 0 (.int .i64 v) (q' := { QS.get (QS.of (d.s γ2.p.u.1) γ2.p.u.2) v with last := v }) rfl (fun j hj => by cases j <;> first | rfl | exact absurd rfl hj)
      have u5 := u4.trans u'
      clear u'
      generalize hset h4 ⟨d.D .last, 0, none⟩ (.int .i64 v) = h5 at u5 r' ⊢
      have T5 := dput E.hD T3 (a := .stolen v 1) (mv' := γ2.p.u.2) (u5.mono fun b _ x => .inl x) (by rw [show d.s (γ2.p.u.1 ++ [(i + 1, .stolen v 1)]) = _ from dfold_snoc.trans dstep_got]; exact r') (by rw [show d.s (γ2.p.u.1 ++ [(i + 1, .stolen v 1)]) = _ from dfold_snoc.trans dstep_got]; exact I2.sl.upd u5 (fun b hb ⟨k, e⟩ => (I2.new b hb).2.2 k e)) (fun b hb => .inl hb)
      have a5 := dtells a3 T5
      (repeat (first | refine EK.region ?_ | refine ER.done ?_ | refine EK.inBlock ?_ | refine ER.move rfl rfl rfl ?_))
      refine ER.add (r := ((k + 1 : Nat) : Int)) rfl rfl rfl rfl (by rw [IntKind.wrap_u8]; omega) ?_
      (repeat (first | refine ER.done ?_ | refine ER.assign rfl rfl rfl ?_))
      exact EK.back (again (γ2, (γ2.p.u.1 ++ [(i + 1, .stolen v 1)], γ2.p.u.2), k + 1) _ _ (by dsimp only; omega) ⟨rfl, by dsimp only; rw [hr']; exact a5, al2, by dsimp only; omega⟩) ⟨rfl, rfl, rfl, rfl, rfl, rfl, rfl, rfl, rfl, rfl, trivial⟩
    · have cgs : hcell h2 ⟨d.D .gets, 0, none⟩ = some (.int .i64 (d.s γ2.p.u.1).gets) := dcell I2.rep .gets rfl (i := 0) rfl
      have cp : hcell h2 ⟨d.D .pop, 0, none⟩ = some (.bool (d.s γ2.p.u.1).popping) := dcell I2.rep .pop rfl (i := 0) rfl
      rw [hwas2] at v1
      by_cases hgw : (d.s γ2.p.u.1).gets = W0
      · have hp : (d.s γ2.p.u.1).popping = true := v1.resolve_left (by omega)
        rw [hgw] at cgs
        rw [hp] at cp
        (repeat (first | refine EK.seq ?_ | refine EK.region ?_ | refine ER.done ?_ | refine EK.block ?_ | refine ER.move rfl rfl rfl ?_ | refine ER.assign rfl rfl rfl ?_ | refine ER.notB rfl rfl rfl ?_ | refine ER.pickT rfl rfl rfl rfl ?_ | refine ER.pickF rfl rfl rfl rfl ?_ | refine ER.extract rfl rfl rfl rfl ?_ | refine ER.cmpT rfl rfl rfl rfl rfl (by first | (dsimp only [cmpP]; omega) | exact rfl | exact Int.le_refl _) ?_ | refine ER.cmpF rfl rfl rfl rfl rfl (by first | (dsimp only [cmpP]; omega) | exact rfl | exact Int.le_refl _) ?_ | refine EK.condT rfl ?_ | refine EK.condF rfl ?_ | refine ER.load1 rfl rfl rfl (by assumption) ?_))
        refine ER.store1 (v := (.bool false)) rfl rfl rfl ⟨nofun, nofun⟩ ⟨_, dcell I2.rep .wrong rfl rfl⟩ (dfroz I2.rep .wrong rfl) (hS .wrong _) ?_
        have u' := Upd.hset (T := fun b => ∃ k, b = d.D k) h2 ⟨d.D .wrong, 0, none⟩ (.bool false) ⟨_, rfl⟩
        have r' := dwrite I2.rep .wrong rfl 0 (.bool false) (q' := (QS.of (d.s γ2.p.u.1) γ2.p.u.2)) rfl (fun j hj => by cases j <;> first | rfl | exact absurd rfl hj)
        clear cw
        generalize hset h2 ⟨d.D .wrong, 0, none⟩ (.bool false) = h5 at u' r' ⊢
        have T5 := dput E.hD T3 (a := .stolen 0 2) (mv' := γ2.p.u.2) (u'.mono fun b _ x => .inl x) (by rw [show d.s (γ2.p.u.1 ++ [(i + 1, .stolen 0 2)]) = d.s γ2.p.u.1 from dfold_snoc.trans (dstep_lost (by decide))]; exact r') (by rw [show d.s (γ2.p.u.1 ++ [(i + 1, .stolen 0 2)]) = d.s γ2.p.u.1 from dfold_snoc.trans (dstep_lost (by decide))]; exact I2.sl.upd u' (fun b hb ⟨k, e⟩ => (I2.new b hb).2.2 k e)) (fun b hb => .inl hb)
        have a5 := dtells a3 T5
        (repeat (first | refine EK.region ?_ | refine ER.done ?_ | refine EK.inBlock ?_ | refine ER.move rfl rfl rfl ?_))
        refine ER.add (r := ((k + 1 : Nat) : Int)) rfl rfl rfl rfl (by rw [IntKind.wrap_u8]; omega) ?_
        (repeat (first | refine ER.done ?_ | refine ER.assign rfl rfl rfl ?_))
        exact EK.back (again (γ2, (γ2.p.u.1 ++ [(i + 1, .stolen 0 2)], γ2.p.u.2), k + 1) _ _ (by dsimp only; omega) ⟨rfl, by dsimp only; rw [hr']; exact a5, al2, by dsimp only; omega⟩) ⟨rfl, rfl, rfl, rfl, rfl, rfl, rfl, rfl, rfl, rfl, trivial⟩
      · (repeat (first | refine EK.seq ?_ | refine EK.region ?_ | refine ER.done ?_ | refine EK.block ?_ | refine ER.move rfl rfl rfl ?_ | refine ER.assign rfl rfl rfl ?_ | refine ER.no rfl rfl ?_ | refine ER.pickF rfl rfl rfl rfl ?_ | refine ER.extract rfl rfl rfl rfl ?_ | refine ER.cmpT rfl rfl rfl rfl rfl (by first | (dsimp only [cmpP]; omega) | exact rfl | exact Int.le_refl _) ?_ | refine ER.cmpF rfl rfl rfl rfl rfl (by first | (dsimp only [cmpP]; omega) | exact rfl | exact Int.le_refl _) ?_ | refine EK.condT rfl ?_ | refine EK.condF rfl ?_ | refine ER.load1 rfl rfl rfl (by assumption) ?_))
        refine ER.store1 (v := (.bool false)) rfl rfl rfl ⟨nofun, nofun⟩ ⟨_, dcell I2.rep .wrong rfl rfl⟩ (dfroz I2.rep .wrong rfl) (hS .wrong _) ?_
        have u' := Upd.hset (T := fun b => ∃ k, b = d.D k) h2 ⟨d.D .wrong, 0, none⟩ (.bool false) ⟨_, rfl⟩
        have r' := dwrite I2.rep .wrong rfl 0 (.bool false) (q' := (QS.of (d.s γ2.p.u.1) γ2.p.u.2)) rfl (fun j hj => by cases j <;> first | rfl | exact absurd rfl hj)
        clear cw
        generalize hset h2 ⟨d.D .wrong, 0, none⟩ (.bool false) = h5 at u' r' ⊢
        have T5 := dput E.hD T3 (a := .stolen 0 2) (mv' := γ2.p.u.2) (u'.mono fun b _ x => .inl x) (by rw [show d.s (γ2.p.u.1 ++ [(i + 1, .stolen 0 2)]) = d.s γ2.p.u.1 from dfold_snoc.trans (dstep_lost (by decide))]; exact r') (by rw [show d.s (γ2.p.u.1 ++ [(i + 1, .stolen 0 2)]) = d.s γ2.p.u.1 from dfold_snoc.trans (dstep_lost (by decide))]; exact I2.sl.upd u' (fun b hb ⟨k, e⟩ => (I2.new b hb).2.2 k e)) (fun b hb => .inl hb)
        have a5 := dtells a3 T5
        (repeat (first | refine EK.region ?_ | refine ER.done ?_ | refine EK.inBlock ?_ | refine ER.move rfl rfl rfl ?_))
        refine ER.add (r := ((k + 1 : Nat) : Int)) rfl rfl rfl rfl (by rw [IntKind.wrap_u8]; omega) ?_
        (repeat (first | refine ER.done ?_ | refine ER.assign rfl rfl rfl ?_))
        exact EK.back (again (γ2, (γ2.p.u.1 ++ [(i + 1, .stolen 0 2)], γ2.p.u.2), k + 1) _ _ (by dsimp only; omega) ⟨rfl, by dsimp only; rw [hr']; exact a5, al2, by dsimp only; omega⟩) ⟨rfl, rfl, rfl, rfl, rfl, rfl, rfl, rfl, rfl, rfl, trivial⟩
    · (repeat (first | refine EK.seq ?_ | refine EK.region ?_ | refine ER.done ?_ | refine EK.block ?_ | refine ER.move rfl rfl rfl ?_ | refine ER.assign rfl rfl rfl ?_ | refine ER.pickF rfl rfl rfl rfl ?_ | refine ER.extract rfl rfl rfl rfl ?_ | refine ER.cmpF rfl rfl rfl rfl rfl (by first | (dsimp only [cmpP]; omega) | exact rfl | exact Int.le_refl _) ?_ | refine EK.condF rfl ?_ | refine ER.load1 rfl rfl rfl (by assumption) ?_))
      refine ER.store1 (v := (.bool false)) rfl rfl rfl ⟨nofun, nofun⟩ ⟨_, dcell I2.rep .wrong rfl rfl⟩ (dfroz I2.rep .wrong rfl) (hS .wrong _) ?_
      have u' := Upd.hset (T := fun b => ∃ k, b = d.D k) h2 ⟨d.D .wrong, 0, none⟩ (.bool false) ⟨_, rfl⟩
      have r' := dwrite I2.rep .wrong rfl 0 (.bool false) (q' := (QS.of (d.s γ2.p.u.1) γ2.p.u.2)) rfl (fun j hj => by cases j <;> first | rfl | exact absurd rfl hj)
      clear cw
      generalize hset h2 ⟨d.D .wrong, 0, none⟩ (.bool false) = h5 at u' r' ⊢
      have T5 := dput E.hD T3 (a := .stolen 0 0) (mv' := γ2.p.u.2) (u'.mono fun b _ x => .inl x) (by rw [show d.s (γ2.p.u.1 ++ [(i + 1, .stolen 0 0)]) = d.s γ2.p.u.1 from dfold_snoc.trans (dstep_lost (by decide))]; exact r') (by rw [show d.s (γ2.p.u.1 ++ [(i + 1, .stolen 0 0)]) = d.s γ2.p.u.1 from dfold_snoc.trans (dstep_lost (by decide))]; exact I2.sl.upd u' (fun b hb ⟨k, e⟩ => (I2.new b hb).2.2 k e)) (fun b hb => .inl hb)
      have a5 := dtells a3 T5
      (repeat (first | refine EK.region ?_ | refine ER.done ?_ | refine EK.inBlock ?_ | refine ER.move rfl rfl rfl ?_))
      refine ER.add (r := ((k + 1 : Nat) : Int)) rfl rfl rfl rfl (by rw [IntKind.wrap_u8]; omega) ?_
      (repeat (first | refine ER.done ?_ | refine ER.assign rfl rfl rfl ?_))
      exact EK.back (again (γ2, (γ2.p.u.1 ++ [(i + 1, .stolen 0 0)], γ2.p.u.2), k + 1) _ _ (by dsimp only; omega) ⟨rfl, by dsimp only; rw [hr']; exact a5, al2, by dsimp only; omega⟩) ⟨rfl, rfl, rfl, rfl, rfl, rfl, rfl, rfl, rfl, rfl, trivial⟩
  · obtain rfl : k = w % 40 := by omega
    rw [Nat.sub_self] at a1
    clear again ci c4 cT
    (repeat (first | refine ER.done ?_ | refine ER.cmpF rfl rfl rfl rfl rfl (by first | (dsimp only [cmpP]; omega) | exact rfl | exact Int.le_refl _) ?_ | refine EK.condF rfl ?_ | refine EK.exit rfl ?_))
    exact EK.done (EU.ret0 rfl ⟨γ1, u1, rfl, rfl, al, a1⟩)
end
end
section
open Go Go.TJ Go.Conc Go.Proofs
theorem dstep_push {lone : Bool} {s : DS} : dstep lone s (0, .pushed 0) = { s with pushed := s.pushed + 1, there := s.there + 1, stack := s.stack ++ [s.pushed + 1] } := by simp [dstep]
section
variable {d : D1} {cap : Nat} {rest : List Value} {bx bd bg bget : Nat} {fr bs : Int} {oS tS pS : Value} {ths : List Nat} {h h' : Hp} {i : Nat} {γ γ' : GG (XD d)} {u : (XD d).U}
theorem dkeep {g : List (Nat × DE)} {mv : Value} (I : DMI d g mv h) (up : Upd (fun b => (∃ k, b = d.D k) \/ blk mv = some b) h h') : ∀ b, d.old b -> h'[b]? = d.hN[b]? := fun b hb =>
  (up.2 b (I.oldlt hb) (fun x => x.elim (fun ⟨k, e⟩ => hb.2.2.2 k e) fun x => (I.new b x).1 hb)).trans (I.old b hb)
theorem dlone (E : DEnv d cap rest bx bd bg bget fr bs oS tS pS ths) : d.c.lone = true ↔ ths.length = 0 := by
  unfold DP.lone
  rw [E.th, List.isEmpty_iff, List.map_eq_nil_iff, List.length_eq_zero_iff]
theorem dstep_pop1 {lone : Bool} {s : DS} {v : Int} : dstep lone s (0, .popped v true) = { s.get v with popping := false, stack := if lone then s.stack.dropLast else s.stack } := by simp [dstep]
theorem dstep_pop0 {lone : Bool} {s : DS} {v : Int} : dstep lone s (0, .popped v false) = { s with popping := false } := by simp [dstep]
theorem dpops (E : DEnv d cap rest bx bd bg bget fr bs oS tS pS ths) {k : Pr DE} (a : AtP (XD d) (onceP d.c.n d.c.B d.c.o d.c.th) (dtold d) 0 γ u [] h (.emit .pop k)) (up : Upd (fun b => ∃ k, b = d.D k) h h') (r : Rep h' (dM d.ml d.D { QS.of (d.s u.1) u.2 with pop := true })) :
    AtP (XD d) (onceP d.c.n d.c.B d.c.o d.c.th) (dtold d) 0 γ (u.1 ++ [(0, .pop)], u.2) [] h' k /\ (d.s (u.1 ++ [(0, .pop)])).pushed = (d.s u.1).pushed := by
  have I : DMI d u.1 u.2 h := a.thr.I
  have e : d.s (u.1 ++ [(0, .pop)]) = { d.s u.1 with popping := true } := dfold_snoc
  refine ⟨dtells a (dput E.hD a.thr (up.mono fun b _ x => .inl x) ?_ ?_ fun b hb => .inl hb), ?_⟩
  · rw [e]; exact r
  · rw [e]; exact I.sl.upd up fun b hb ⟨k, e⟩ => (I.new b hb).2.2 k e
  · rw [e]
set_option maxRecDepth 8000 in
set_option maxHeartbeats 8000000 in
theorem down_T (E : DEnv d cap rest bx bd bg bget fr bs oS tS pS ths) (a : AtP (XD d) (onceP d.c.n d.c.B d.c.o d.c.th) (dtold d) 0 γ u [] h (ownP d.c.n d.c.B d.c.o (d.s u.1).pushed)) {t : Nat} (ht : t = γ.p.tb 0) :
    CallW Try.prog false (SitT Try.prog (PX (XD d)) (0 + 1)) 40 #[ptr t, ptr bx, ptr bd, ptr (d.D .pushed), ptr (d.D .there), ptr (d.D .stk), ptr (d.D .wrong), ptr (d.D .pop), ptr bget] h ⟨0, γ⟩ (RetP (fun w h' δ' => ∃ (γ' : GG (XD d)) (u' : (XD d).U), δ' = ⟨0, γ'⟩ /\ w = .tuple #[] /\ CallD d 0 γ γ' u' h' .done) (Halt (XD d) 0 γ.p)) := by
  subst ht
  obtain ⟨aT, kT, eT⟩ := E.thf.1.val
  rw [List.length_map] at eT
  subst eT
  obtain ⟨aO, kO, eO⟩ := E.own.1.val
  rw [List.length_map] at eO
  subst eO
  have hlen := E.big.1
  have hth6 := E.big.2
  have hn4 := E.ok.le
  have hlone := dlone E
  refine CallW.start (n := 128) rfl rfl ?_
  (repeat (first | refine EK.seq ?_ | refine EK.region ?_ | refine ER.done ?_ | refine EK.block ?_ | refine ER.assign rfl rfl rfl ?_))
  refine EK.loopInv (fun q : GG (XD d) × (XD d).U × Nat => [(10, .int .i64 q.2.2), (8, ptr bget), (7, ptr (d.D .pop)), (6, ptr (d.D .wrong)), (5, ptr (d.D .stk)), (4, ptr (d.D .there)), (3, ptr (d.D .pushed)), (2, ptr bd), (1, ptr bx), (0, ptr (γ.p.tb 0))]) (fun q h' δ' => δ' = ⟨0, q.1⟩ /\ AtP (XD d) (onceP d.c.n d.c.B d.c.o d.c.th) (dtold d) 0 q.1 q.2.1 [] h' (ownP d.c.n d.c.B (d.c.o.drop q.2.2) (d.s q.2.1.1).pushed) /\ Along (XD d) 0 γ.p q.1.p /\ q.2.2 <= d.c.o.length) (fun q => d.c.o.length - q.2.2) (γ, u, 0) ⟨rfl, rfl, rfl, rfl, rfl, rfl, rfl, rfl, rfl, rfl, trivial⟩ ⟨rfl, a, Along.refl _ _, Nat.zero_le _⟩ ?_
  clear a
  rintro ⟨γ1, u1, i⟩ h1 δ1 ⟨hδ, a1, al, hi⟩ again
  dsimp only at hδ a1 al hi again ⊢
  subst hδ
  have I1 : DMI d u1.1 u1.2 h1 := a1.thr.I
  have N1 := E.now I1.old
  obtain ⟨-, ⟨cn1, cn2, cn3, cn4⟩, hpm, hgm⟩ := dlaw E a1
  have hmb : d.c.m <= 201 := by unfold DP.m; omega
  have c3 : hcell h1 ⟨bx, 3, none⟩ = some (.slice aO d.c.o.length kO) := hcell_of N1.x rfl
  have hml : (d.ml : Int) = d.c.m := rfl
  by_cases hin : i < d.c.o.length
  · obtain ⟨x, hx⟩ : ∃ x, d.c.o[i]? = some x := ⟨_, List.getElem?_eq_getElem hin⟩
    obtain ⟨bO, oO, kO', eO, cO⟩ := N1.own.cell i (.bool x) (by rw [List.getElem?_map, hx]; rfl)
    injection eO with e1 e2 e3
    subst e1 e3
    have hd : d.c.o.drop i = x :: d.c.o.drop (i + 1) := by
      rw [List.drop_eq_getElem_cons hin]
      rw [List.getElem?_eq_getElem hin] at hx
      injection hx with hx
      rw [hx]
    rw [hd] at a1
    have cdq := N1.dq
    obtain ⟨p, hp⟩ : ∃ p, p = (d.s u1.1).pushed := ⟨_, rfl⟩
    rw [<- hp] at a1 cn1 cn3 cn4 hpm
    cases x with
    | true =>
      have a1' : AtP (XD d) (onceP d.c.n d.c.B d.c.o d.c.th) (dtold d) 0 γ1 u1 [] h1 (pushD d.c.n d.c.B (p + 1) (kpu d.c.n d.c.B (d.c.o.drop (i + 1)) p)) := a1
      have cpu : hcell h1 ⟨d.D .pushed, 0, none⟩ = some (.int .i64 p) := by rw [hp]; exact dcell I1.rep .pushed rfl (i := 0) rfl
      (repeat (first | refine EK.seq ?_ | refine EK.region ?_ | refine ER.done ?_ | refine EK.skip ?_ | refine EK.block ?_ | refine ER.move rfl rfl rfl ?_ | refine ER.fieldAddr rfl rfl rfl ?_ | refine ER.cmpT rfl rfl rfl rfl rfl (by first | (dsimp only [cmpP]; omega) | exact rfl | exact Int.le_refl _) ?_ | refine ER.add (kd := .i64) rfl rfl rfl rfl (i64_in (by omega) (by omega)) ?_ | refine ER.len1 rfl rfl rfl ?_ | refine ER.indexSl rfl rfl rfl rfl (by omega) (by omega) ?_ | refine EK.condT rfl ?_ | refine ER.load1 rfl rfl rfl (by assumption) ?_))
      refine ER.callP rfl rfl rfl rfl rfl (dpush_T E.K E.DK a1' al.tb.symm) (fun _ _ _ x => x.along al) ?_
      clear cpu cdq N1 I1 a1 c3 cO cn2 cn3 cn4 hgm
      rintro _ h2 δ2 ⟨γ2, e, rfl, rfl, nx⟩
      have al2 := al.trans nx.al
      have a3 : AtP (XD d) (onceP d.c.n d.c.B d.c.o d.c.th) (dtold d) 0 γ2 γ2.p.u [] h2 (.emit (.pushed e) (ownP d.c.n d.c.B (d.c.o.drop (i + 1)) (if e = 0 then p + 1 else p))) := nx.at_
      have T3 := a3.thr
      have I2 : DMI d γ2.p.u.1 γ2.p.u.2 h2 := T3.I
      have N2 := E.now I2.old
      have hS : ∀ k o, ¬ (SitT Try.prog (PX (XD d)) (0 + 1)).still γ2 ⟨d.D k, o, none⟩ := fun k o => T3.free (.inl (.inr (.inl ⟨k, rfl⟩)))
      obtain ⟨⟨he, hok⟩, ⟨cn1', cn2, cn3, cn4⟩, hpm', hgm⟩ := dnext E a3
      have hps : (d.s γ2.p.u.1).pushed = p := by
        obtain ⟨es, he, hes⟩ := nx.V
        have he' : γ2.p.u.1 = u1.1 ++ es := he
        rw [he', hp]
        exact (dfold_other hes).1 rfl
      rw [hlone] at hok
      clear nx a1'
      obtain ⟨aS, kS, eS⟩ := I2.sl.val
      have r2 := I2.rep
      have l2 := I2.sl
      rcases he with rfl | rfl
      · have cpu : hcell h2 ⟨d.D .pushed, 0, none⟩ = some (.int .i64 p) := by rw [<- hps]; exact dcell r2 .pushed rfl (i := 0) rfl
        (repeat (first | refine EK.seq ?_ | refine EK.region ?_ | refine ER.done ?_ | refine ER.move rfl rfl rfl ?_ | refine ER.assign rfl rfl rfl ?_ | refine ER.cmpT rfl rfl rfl rfl rfl (by first | (dsimp only [cmpP]; omega) | exact rfl | exact Int.le_refl _) ?_ | refine ER.add (kd := .i64) rfl rfl rfl rfl (i64_in (by omega) (by omega)) ?_ | refine EK.condT rfl ?_ | refine ER.load1 rfl rfl rfl (by assumption) ?_))
        refine ER.store1 (v := (.int .i64 (p + 1))) rfl rfl rfl ⟨nofun, nofun⟩ ⟨_, dcell r2 .pushed rfl rfl⟩ (dfroz r2 .pushed rfl) (hS .pushed _) ?_
        have u' := Upd.hset (T := fun b => ∃ k, b = d.D k) h2 ⟨d.D .pushed, 0, none⟩ (.int .i64 (p + 1)) ⟨_, rfl⟩
        have r' := dwrite r2 .pushed rfl 0 (.int .i64 (p + 1)) (q' := { QS.of (d.s γ2.p.u.1) γ2.p.u.2 with pushed := p + 1 }) rfl (fun j hj => by cases j <;> first | rfl | exact absurd rfl hj)
        have u3 := u'
        have r3 := r'
        clear u' r' cpu
        generalize hset h2 ⟨d.D .pushed, 0, none⟩ (.int .i64 (p + 1)) = h3 at u3 r3 ⊢
        have ct : hcell h3 ⟨d.D .there, 0, none⟩ = some (.int .i64 (d.s γ2.p.u.1).there) := dcell r3 .there rfl (i := 0) rfl
        (repeat (first | refine EK.seq ?_ | refine EK.region ?_ | refine ER.done ?_ | refine ER.add (kd := .i64) rfl rfl rfl rfl (i64_in (by omega) (by omega)) ?_ | refine ER.load1 rfl rfl rfl (by assumption) ?_))
        refine ER.store1 (v := (.int .i64 ((d.s γ2.p.u.1).there + 1))) rfl rfl rfl ⟨nofun, nofun⟩ ⟨_, dcell r3 .there rfl rfl⟩ (dfroz r3 .there rfl) (hS .there _) ?_
        have u' := Upd.hset (T := fun b => ∃ k, b = d.D k) h3 ⟨d.D .there, 0, none⟩ (.int .i64 ((d.s γ2.p.u.1).there + 1)) ⟨_, rfl⟩
        have r' := dwrite r3 .there rfl 0 (.int .i64 ((d.s γ2.p.u.1).there + 1)) (q' := { QS.of (d.s γ2.p.u.1) γ2.p.u.2 with pushed := p + 1, there := (d.s γ2.p.u.1).there + 1 }) rfl (fun j hj => by cases j <;> first | rfl | exact absurd rfl hj)
        have u4 := u3.trans u'
        have r4 := r'
        clear u' r' ct u3 r3
        generalize hset h3 ⟨d.D .there, 0, none⟩ (.int .i64 ((d.s γ2.p.u.1).there + 1)) = h4 at u4 r4 ⊢
        have l4 := l2.upd u4 fun b hb ⟨k, e⟩ => (I2.new b hb).2.2 k e
        have cs : hcell h4 ⟨d.D .stk, 0, none⟩ = some (.slice aS (d.s γ2.p.u.1).stack.length kS) := by rw [<- eS]; exact dcell r4 .stk rfl (i := 0) rfl
        have cpu : hcell h4 ⟨d.D .pushed, 0, none⟩ = some (.int .i64 (p + 1)) := dcell r4 .pushed rfl (i := 0) rfl
        (repeat (first | refine EK.region ?_ | refine ER.done ?_ | refine ER.load1 rfl rfl rfl (by assumption) ?_))
        refine ER.slice1 (sz := 1) (z := .int .i64 0) (cells := #[.int .i64 (p + 1)]) rfl rfl rfl (by omega) (by omega) (by rfl) rfl ?_
        have u5 := u4.trans (Upd.push (T := fun b => ∃ k, b = d.D k) h4 (.cells #[.int .i64 (p + 1)] 2))
        have r5 := r4.upd0 (Upd.push (T := fun _ => False) h4 (.cells #[.int .i64 (p + 1)] 2))
        have l5 := l4.upd (Upd.push (T := fun _ => False) h4 (.cells #[.int .i64 (p + 1)] 2)) (fun _ _ x => x)
        rw [eS] at l5
        refine ER.append1 (new := [.int .i64 (p + 1)]) rfl rfl rfl rfl l5 (get_push_new _ _) rfl (by simp [OneCell]) (by omega) (by omega) (by rfl) (fun b o hb => T3.free (.inl (.inr (.inr ⟨(I2.new b (by rw [eS]; exact hb)).2.1, by rw [eS]; exact hb⟩)))) ?_
        clear cs cpu l4 r4 u4
        generalize h4.push (.cells #[.int .i64 (p + 1)] 2) = h5 at u5 r5 l5 ⊢
        intro s7 h7 l7 u7 hb7
        rw [<- eS] at u7 hb7
        have r7 := r5.upd u7 fun k _ hk => (I2.new _ hk).2.2 k rfl
        have v7 : Upd (fun b => (∃ k, b = d.D k) \/ blk γ2.p.u.2 = some b) h2 h7 := (u5.mono fun b _ x => .inl x).trans (u7.mono fun b _ x => .inr x)
        obtain ⟨a7, k7, e7⟩ := l7.val
        refine ER.store1 (v := s7) rfl rfl rfl (by rw [e7]; exact ⟨nofun, nofun⟩) ⟨_, dcell r7 .stk rfl rfl⟩ (dfroz r7 .stk rfl) (hS .stk _) ?_
        have u8 := Upd.hset (T := fun b => ∃ k, b = d.D k) h7 ⟨d.D .stk, 0, none⟩ s7 ⟨_, rfl⟩
        have r8 := dwrite r7 .stk rfl 0 s7 (q' := { QS.of (d.s γ2.p.u.1) s7 with pushed := p + 1, there := (d.s γ2.p.u.1).there + 1 }) rfl (fun j hj => by cases j <;> first | rfl | exact absurd rfl hj)
        have hb5 : h2.size <= h5.size := u5.size
        have n7 : ∀ b, blk s7 = some b -> blk γ2.p.u.2 = some b \/ h2.size <= b := fun b hb => (hb7 b hb).imp id fun e => by omega
        have d7 : ∀ b, blk s7 = some b -> ∀ k, b ≠ d.D k := fun b hb k e => by
          rcases n7 b hb with y | y
          · exact (I2.new b y).2.2 k e
          · have := r2.lt (k := k) trivial
            change d.D k < _ at this
            omega
        have l8 := l7.upd u8 fun b hb ⟨k, e⟩ => d7 b hb k e
        have v8 := v7.trans (u8.mono fun b _ x => Or.inl x)
        clear u5 r5 l5 u7 hb7 r7 v7 l7 u8
        generalize hset h7 ⟨d.D .stk, 0, none⟩ s7 = h8 at r8 l8 v8 ⊢
        have N8 := E.now (dkeep I2 v8)
        have cw : hcell h8 ⟨d.D .wrong, 0, none⟩ = some (.bool false) := dcell r8 .wrong rfl (i := 0) rfl
        have c4 : hcell h8 ⟨bx, 4, none⟩ = some (.slice aT ths.length kT) := hcell_of N8.x rfl
        have c0 : hcell h8 ⟨bx, 0, none⟩ = some (.int .i64 d.c.n) := hcell_of N8.x rfl
        have cs : hcell h8 ⟨d.D .stk, 0, none⟩ = some (.slice a7 ((d.s γ2.p.u.1).stack.length + 1) k7) := by rw [<- e7]; exact dcell r8 .stk rfl (i := 0) rfl
        by_cases hl : ths.length = 0
        · have hfit := (hok hl).1 rfl
          (repeat (first | refine EK.seq ?_ | refine EK.region ?_ | refine ER.done ?_ | refine ER.move rfl rfl rfl ?_ | refine ER.fieldAddr rfl rfl rfl ?_ | refine ER.no rfl rfl ?_ | refine ER.pickT rfl rfl rfl rfl ?_ | refine ER.pickF rfl rfl rfl rfl ?_ | refine ER.cmpT rfl rfl rfl rfl rfl (by first | (dsimp only [cmpP]; omega) | exact rfl | exact Int.le_refl _) ?_ | refine ER.cmpF rfl rfl rfl rfl rfl (by first | (dsimp only [cmpP]; omega) | exact rfl | exact Int.le_refl _) ?_ | refine ER.len1 rfl rfl rfl ?_ | refine ER.load1 rfl rfl rfl (by assumption) ?_))
          refine ER.store1 (v := (.bool false)) rfl rfl rfl ⟨nofun, nofun⟩ ⟨_, dcell r8 .wrong rfl rfl⟩ (dfroz r8 .wrong rfl) (hS .wrong _) ?_
          have u' := Upd.hset (T := fun b => ∃ k, b = d.D k) h8 ⟨d.D .wrong, 0, none⟩ (.bool false) ⟨_, rfl⟩
          have r' := dwrite r8 .wrong rfl 0 (.bool false) (q' := { QS.of (d.s γ2.p.u.1) s7 with pushed := p + 1, there := (d.s γ2.p.u.1).there + 1 }) rfl (fun j hj => by cases j <;> first | rfl | exact absurd rfl hj)
          have v9 := v8.trans (u'.mono fun b _ x => Or.inl x)
          have l9 := l8.upd u' fun b hb ⟨k, e⟩ => d7 b hb k e
          clear cw c4 c0 cs u' v8 l8 r8
          generalize hset h8 ⟨d.D .wrong, 0, none⟩ (.bool false) = h9 at r' l9 v9 ⊢
          have e9 : d.s (γ2.p.u.1 ++ [(0, .pushed 0)]) = { d.s γ2.p.u.1 with pushed := (d.s γ2.p.u.1).pushed + 1, there := (d.s γ2.p.u.1).there + 1, stack := (d.s γ2.p.u.1).stack ++ [(d.s γ2.p.u.1).pushed + 1] } := dfold_snoc.trans dstep_push
          rw [<- hps] at r' l9
          have T5 := dput E.hD T3 (a := .pushed 0) (mv' := s7) v9 (by rw [e9]; exact r') (by rw [e9]; dsimp only; rw [List.length_append, List.map_append]; exact l9) n7
          have a5 : AtP (XD d) (onceP d.c.n d.c.B d.c.o d.c.th) (dtold d) 0 γ2 (γ2.p.u.1 ++ [(0, .pushed 0)], s7) [] h9 (ownP d.c.n d.c.B (d.c.o.drop (i + 1)) (d.s (γ2.p.u.1 ++ [(0, .pushed 0)])).pushed) := by
            have := dtells a3 T5
            rw [if_pos rfl] at this
            rw [e9]
            dsimp only
            rw [hps]
            exact this
          (repeat (first | refine EK.region ?_ | refine ER.done ?_ | refine ER.move rfl rfl rfl ?_ | refine ER.assign rfl rfl rfl ?_ | refine ER.add (kd := .i64) rfl rfl rfl rfl (i64_in (by omega) (by omega)) ?_ | refine EK.exit rfl ?_))
          exact EK.back (again (γ2, (γ2.p.u.1 ++ [(0, .pushed 0)], s7), i + 1) _ _ (by dsimp only; omega) ⟨rfl, by dsimp only; exact a5, al2, by dsimp only; omega⟩) ⟨rfl, rfl, rfl, rfl, rfl, rfl, rfl, rfl, rfl, rfl, trivial⟩
        · (repeat (first | refine EK.seq ?_ | refine EK.region ?_ | refine ER.done ?_ | refine ER.move rfl rfl rfl ?_ | refine ER.fieldAddr rfl rfl rfl ?_ | refine ER.no rfl rfl ?_ | refine ER.pickF rfl rfl rfl rfl ?_ | refine ER.cmpF rfl rfl rfl rfl rfl (by first | (dsimp only [cmpP]; omega) | exact rfl | exact Int.le_refl _) ?_ | refine ER.len1 rfl rfl rfl ?_ | refine ER.load1 rfl rfl rfl (by assumption) ?_))
          refine ER.store1 (v := (.bool false)) rfl rfl rfl ⟨nofun, nofun⟩ ⟨_, dcell r8 .wrong rfl rfl⟩ (dfroz r8 .wrong rfl) (hS .wrong _) ?_
          have u' := Upd.hset (T := fun b => ∃ k, b = d.D k) h8 ⟨d.D .wrong, 0, none⟩ (.bool false) ⟨_, rfl⟩
          have r' := dwrite r8 .wrong rfl 0 (.bool false) (q' := { QS.of (d.s γ2.p.u.1) s7 with pushed := p + 1, there := (d.s γ2.p.u.1).there + 1 }) rfl (fun j hj => by cases j <;> first | rfl | exact absurd rfl hj)
          have v9 := v8.trans (u'.mono fun b _ x => Or.inl x)
          have l9 := l8.upd u' fun b hb ⟨k, e⟩ => d7 b hb k e
          clear cw c4 c0 cs u' v8 l8 r8
          generalize hset h8 ⟨d.D .wrong, 0, none⟩ (.bool false) = h9 at r' l9 v9 ⊢
          have e9 : d.s (γ2.p.u.1 ++ [(0, .pushed 0)]) = { d.s γ2.p.u.1 with pushed := (d.s γ2.p.u.1).pushed + 1, there := (d.s γ2.p.u.1).there + 1, stack := (d.s γ2.p.u.1).stack ++ [(d.s γ2.p.u.1).pushed + 1] } := dfold_snoc.trans dstep_push
          rw [<- hps] at r' l9
          have T5 := dput E.hD T3 (a := .pushed 0) (mv' := s7) v9 (by rw [e9]; exact r') (by rw [e9]; dsimp only; rw [List.length_append, List.map_append]; exact l9) n7
          have a5 : AtP (XD d) (onceP d.c.n d.c.B d.c.o d.c.th) (dtold d) 0 γ2 (γ2.p.u.1 ++ [(0, .pushed 0)], s7) [] h9 (ownP d.c.n d.c.B (d.c.o.drop (i + 1)) (d.s (γ2.p.u.1 ++ [(0, .pushed 0)])).pushed) := by
            have := dtells a3 T5
            rw [if_pos rfl] at this
            rw [e9]
            dsimp only
            rw [hps]
            exact this
          (repeat (first | refine EK.region ?_ | refine ER.done ?_ | refine ER.move rfl rfl rfl ?_ | refine ER.assign rfl rfl rfl ?_ | refine ER.add (kd := .i64) rfl rfl rfl rfl (i64_in (by omega) (by omega)) ?_ | refine EK.exit rfl ?_))
          exact EK.back (again (γ2, (γ2.p.u.1 ++ [(0, .pushed 0)], s7), i + 1) _ _ (by dsimp only; omega) ⟨rfl, by dsimp only; exact a5, al2, by dsimp only; omega⟩) ⟨rfl, rfl, rfl, rfl, rfl, rfl, rfl, rfl, rfl, rfl, trivial⟩
      · have cw : hcell h2 ⟨d.D .wrong, 0, none⟩ = some (.bool false) := dcell r2 .wrong rfl (i := 0) rfl
        have c4 : hcell h2 ⟨bx, 4, none⟩ = some (.slice aT ths.length kT) := hcell_of N2.x rfl
        have c0 : hcell h2 ⟨bx, 0, none⟩ = some (.int .i64 d.c.n) := hcell_of N2.x rfl
        have cs : hcell h2 ⟨d.D .stk, 0, none⟩ = some (.slice aS (d.s γ2.p.u.1).stack.length kS) := by rw [<- eS]; exact dcell r2 .stk rfl (i := 0) rfl
        by_cases hl : ths.length = 0
        · have hfit := (hok hl).2 rfl
          (repeat (first | refine EK.seq ?_ | refine EK.region ?_ | refine ER.done ?_ | refine EK.skip ?_ | refine ER.move rfl rfl rfl ?_ | refine ER.assign rfl rfl rfl ?_ | refine ER.fieldAddr rfl rfl rfl ?_ | refine ER.pickT rfl rfl rfl rfl ?_ | refine ER.pickF rfl rfl rfl rfl ?_ | refine ER.cmpT rfl rfl rfl rfl rfl (by first | (dsimp only [cmpP]; omega) | exact rfl | exact Int.le_refl _) ?_ | refine ER.cmpF rfl rfl rfl rfl rfl (by first | (dsimp only [cmpP]; omega) | exact rfl | exact Int.le_refl _) ?_ | refine ER.len1 rfl rfl rfl ?_ | refine EK.condF rfl ?_ | refine ER.load1 rfl rfl rfl (by assumption) ?_))
          refine ER.store1 (v := (.bool false)) rfl rfl rfl ⟨nofun, nofun⟩ ⟨_, dcell r2 .wrong rfl rfl⟩ (dfroz r2 .wrong rfl) (hS .wrong _) ?_
          have u' := Upd.hset (T := fun b => ∃ k, b = d.D k) h2 ⟨d.D .wrong, 0, none⟩ (.bool false) ⟨_, rfl⟩
          have r' := dwrite r2 .wrong rfl 0 (.bool false) (q' := (QS.of (d.s γ2.p.u.1) γ2.p.u.2)) rfl (fun j hj => by cases j <;> first | rfl | exact absurd rfl hj)
          clear cw c4 c0 cs
          generalize hset h2 ⟨d.D .wrong, 0, none⟩ (.bool false) = h9 at r' u' ⊢
          have e9 : d.s (γ2.p.u.1 ++ [(0, .pushed 12)]) = d.s γ2.p.u.1 := dfold_snoc.trans dstep_full
          have T5 := dput E.hD T3 (a := .pushed 12) (mv' := γ2.p.u.2) (u'.mono fun b _ x => .inl x) (by rw [e9]; exact r') (by rw [e9]; exact l2.upd u' fun b hb ⟨k, e⟩ => (I2.new b hb).2.2 k e) (fun b hb => .inl hb)
          have a5 : AtP (XD d) (onceP d.c.n d.c.B d.c.o d.c.th) (dtold d) 0 γ2 (γ2.p.u.1 ++ [(0, .pushed 12)], γ2.p.u.2) [] h9 (ownP d.c.n d.c.B (d.c.o.drop (i + 1)) (d.s (γ2.p.u.1 ++ [(0, .pushed 12)])).pushed) := by
            have := dtells a3 T5
            rw [if_neg (by decide)] at this
            rw [e9, hps]
            exact this
          (repeat (first | refine EK.region ?_ | refine ER.done ?_ | refine ER.move rfl rfl rfl ?_ | refine ER.assign rfl rfl rfl ?_ | refine ER.add (kd := .i64) rfl rfl rfl rfl (i64_in (by omega) (by omega)) ?_ | refine EK.exit rfl ?_))
          exact EK.back (again (γ2, (γ2.p.u.1 ++ [(0, .pushed 12)], γ2.p.u.2), i + 1) _ _ (by dsimp only; omega) ⟨rfl, by dsimp only; exact a5, al2, by dsimp only; omega⟩) ⟨rfl, rfl, rfl, rfl, rfl, rfl, rfl, rfl, rfl, rfl, trivial⟩
        · (repeat (first | refine EK.seq ?_ | refine EK.region ?_ | refine ER.done ?_ | refine EK.skip ?_ | refine ER.move rfl rfl rfl ?_ | refine ER.assign rfl rfl rfl ?_ | refine ER.fieldAddr rfl rfl rfl ?_ | refine ER.no rfl rfl ?_ | refine ER.pickT rfl rfl rfl rfl ?_ | refine ER.pickF rfl rfl rfl rfl ?_ | refine ER.cmpT rfl rfl rfl rfl rfl (by first | (dsimp only [cmpP]; omega) | exact rfl | exact Int.le_refl _) ?_ | refine ER.cmpF rfl rfl rfl rfl rfl (by first | (dsimp only [cmpP]; omega) | exact rfl | exact Int.le_refl _) ?_ | refine ER.len1 rfl rfl rfl ?_ | refine EK.condF rfl ?_ | refine ER.load1 rfl rfl rfl (by assumption) ?_))
          refine ER.store1 (v := (.bool false)) rfl rfl rfl ⟨nofun, nofun⟩ ⟨_, dcell r2 .wrong rfl rfl⟩ (dfroz r2 .wrong rfl) (hS .wrong _) ?_
          have u' := Upd.hset (T := fun b => ∃ k, b = d.D k) h2 ⟨d.D .wrong, 0, none⟩ (.bool false) ⟨_, rfl⟩
          have r' := dwrite r2 .wrong rfl 0 (.bool false) (q' := (QS.of (d.s γ2.p.u.1) γ2.p.u.2)) rfl (fun j hj => by cases j <;> first | rfl | exact absurd rfl hj)
          clear cw c4 c0 cs
          generalize hset h2 ⟨d.D .wrong, 0, none⟩ (.bool false) = h9 at r' u' ⊢
          have e9 : d.s (γ2.p.u.1 ++ [(0, .pushed 12)]) = d.s γ2.p.u.1 := dfold_snoc.trans dstep_full
          have T5 := dput E.hD T3 (a := .pushed 12) (mv' := γ2.p.u.2) (u'.mono fun b _ x => .inl x) (by rw [e9]; exact r') (by rw [e9]; exact l2.upd u' fun b hb ⟨k, e⟩ => (I2.new b hb).2.2 k e) (fun b hb => .inl hb)
          have a5 : AtP (XD d) (onceP d.c.n d.c.B d.c.o d.c.th) (dtold d) 0 γ2 (γ2.p.u.1 ++ [(0, .pushed 12)], γ2.p.u.2) [] h9 (ownP d.c.n d.c.B (d.c.o.drop (i + 1)) (d.s (γ2.p.u.1 ++ [(0, .pushed 12)])).pushed) := by
            have := dtells a3 T5
            rw [if_neg (by decide)] at this
            rw [e9, hps]
            exact this
          (repeat (first | refine EK.region ?_ | refine ER.done ?_ | refine ER.move rfl rfl rfl ?_ | refine ER.assign rfl rfl rfl ?_ | refine ER.add (kd := .i64) rfl rfl rfl rfl (i64_in (by omega) (by omega)) ?_ | refine EK.exit rfl ?_))
          exact EK.back (again (γ2, (γ2.p.u.1 ++ [(0, .pushed 12)], γ2.p.u.2), i + 1) _ _ (by dsimp only; omega) ⟨rfl, by dsimp only; exact a5, al2, by dsimp only; omega⟩) ⟨rfl, rfl, rfl, rfl, rfl, rfl, rfl, rfl, rfl, rfl, trivial⟩
    | false =>
      have a1' : AtP (XD d) (onceP d.c.n d.c.B d.c.o d.c.th) (dtold d) 0 γ1 u1 [] h1 (.emit .pop (popD d.c.n d.c.B (kpo d.c.n d.c.B (d.c.o.drop (i + 1)) p))) := a1
      have T1 := a1.thr
      have hS : ∀ k o, ¬ (SitT Try.prog (PX (XD d)) (0 + 1)).still γ1 ⟨d.D k, o, none⟩ := fun k o => T1.free (.inl (.inr (.inl ⟨k, rfl⟩)))
      have r1 := I1.rep
      clear cdq
      (repeat (first | refine EK.seq ?_ | refine EK.region ?_ | refine ER.done ?_ | refine EK.skip ?_ | refine EK.block ?_ | refine ER.move rfl rfl rfl ?_ | refine ER.fieldAddr rfl rfl rfl ?_ | refine ER.cmpT rfl rfl rfl rfl rfl (by first | (dsimp only [cmpP]; omega) | exact rfl | exact Int.le_refl _) ?_ | refine ER.len1 rfl rfl rfl ?_ | refine ER.indexSl rfl rfl rfl rfl (by omega) (by omega) ?_ | refine EK.condT rfl ?_ | refine EK.condF rfl ?_ | refine ER.load1 rfl rfl rfl (by assumption) ?_))
      refine ER.store1 (v := (.bool true)) rfl rfl rfl ⟨nofun, nofun⟩ ⟨_, dcell r1 .pop rfl rfl⟩ (dfroz r1 .pop rfl) (hS .pop _) ?_
      have u' := Upd.hset (T := fun b => ∃ k, b = d.D k) h1 ⟨d.D .pop, 0, none⟩ (.bool true) ⟨_, rfl⟩
      have r' := dwrite r1 .pop rfl 0 (.bool true) (q' := { QS.of (d.s u1.1) u1.2 with pop := true }) rfl (fun j hj => by cases j <;> first | rfl | exact absurd rfl hj)
      obtain ⟨a2, hps2⟩ := dpops E a1' u' r'
      clear cO c3 N1 I1 a1 a1' T1 hS r1
      generalize hset h1 ⟨d.D .pop, 0, none⟩ (.bool true) = h1' at u' r' a2 ⊢
      have I1 : DMI d (u1.1 ++ [(0, .pop)]) u1.2 h1' := a2.thr.I
      have N1 := E.now I1.old
      have cdq := N1.dq
      clear u' r'
      (repeat (first | refine EK.seq ?_ | refine EK.region ?_ | refine ER.done ?_ | refine ER.move rfl rfl rfl ?_ | refine ER.load1 rfl rfl rfl (by assumption) ?_))
      refine ER.callP rfl rfl rfl rfl rfl (dpop_T E.K E.DK a2 al.tb.symm) (fun _ _ _ x => x.along al) ?_
      clear cdq N1 I1 cn2 cn3 cn4 hgm
      rintro _ h2 δ2 ⟨γ2, v, is, rfl, rfl, nx⟩
      have al2 := al.trans nx.al
      have a3 : AtP (XD d) (onceP d.c.n d.c.B d.c.o d.c.th) (dtold d) 0 γ2 γ2.p.u [] h2 (.emit (.popped v is) (ownP d.c.n d.c.B (d.c.o.drop (i + 1)) p)) := nx.at_
      have T3 := a3.thr
      have I2 : DMI d γ2.p.u.1 γ2.p.u.2 h2 := T3.I
      have hS : ∀ k o, ¬ (SitT Try.prog (PX (XD d)) (0 + 1)).still γ2 ⟨d.D k, o, none⟩ := fun k o => T3.free (.inl (.inr (.inl ⟨k, rfl⟩)))
      obtain ⟨⟨hok1, hok2⟩, ⟨cn1', cn2, cn3, cn4⟩, hpm', hgm⟩ := dnext E a3
      have hps : (d.s γ2.p.u.1).pushed = p := by
        obtain ⟨es, he, hes⟩ := nx.V
        have he' : γ2.p.u.1 = (u1.1 ++ [(0, DE.pop)]) ++ es := he
        rw [he', hp, <- hps2]
        exact (dfold_other hes).1 rfl
      rw [hlone] at hok2
      clear nx a2 hps2
      obtain ⟨aS, kS, eS⟩ := I2.sl.val
      have r2 := I2.rep
      have l2 := I2.sl
      (repeat (first | refine EK.seq ?_ | refine EK.region ?_ | refine ER.done ?_ | refine ER.move rfl rfl rfl ?_ | refine ER.assign rfl rfl rfl ?_ | refine ER.extract rfl rfl rfl rfl ?_))
      refine ER.store1 (v := (.bool false)) rfl rfl rfl ⟨nofun, nofun⟩ ⟨_, dcell r2 .pop rfl rfl⟩ (dfroz r2 .pop rfl) (hS .pop _) ?_
      have u' := Upd.hset (T := fun b => ∃ k, b = d.D k) h2 ⟨d.D .pop, 0, none⟩ (.bool false) ⟨_, rfl⟩
      have r' := dwrite r2 .pop rfl 0 (.bool false) (q' := { QS.of (d.s γ2.p.u.1) γ2.p.u.2 with pop := false }) rfl (fun j hj => by cases j <;> first | rfl | exact absurd rfl hj)
      have u3 := u'
      have r3 := r'
      have l3 := l2.upd u3 fun b hb ⟨k, e⟩ => (I2.new b hb).2.2 k e
      clear u' r' r2 l2
      generalize hset h2 ⟨d.D .pop, 0, none⟩ (.bool false) = h3 at u3 r3 l3 ⊢
      have N3 := E.now (dkeep I2 (u3.mono fun b _ x => .inl x))
      cases is with
      | true =>
        obtain ⟨g1, g2, g3⟩ := hok1 rfl
        have cgt := N3.get
        (repeat (first | refine EK.seq ?_ | refine EK.region ?_ | refine ER.done ?_ | refine ER.move rfl rfl rfl ?_ | refine EK.condT rfl ?_ | refine ER.load1 rfl rfl rfl (by assumption) ?_))
        refine ER.callR rfl rfl rfl rfl rfl (dget_ok r3 N3.g (fun k e => E.g.1.2.2.2 k e) (by omega) g1 (by omega) g3 ⟨by show _ <= (d.s γ2.p.u.1).there; omega, by show (d.s γ2.p.u.1).there <= _; omega⟩ ⟨by show _ <= (d.s γ2.p.u.1).gets; omega, by show (d.s γ2.p.u.1).gets <= _; omega⟩ hS) ?_
        rintro _ h4 δ4 ⟨rfl, r4, u4'⟩
        have u4 := u3.trans u4'
        have l4 := l3.upd u4' fun b hb ⟨k, e⟩ => (I2.new b hb).2.2 k e
        clear cgt u3 u4' r3 l3 N3
        have N4 := E.now (dkeep I2 (u4.mono fun b _ x => .inl x))
        have c4 : hcell h4 ⟨bx, 4, none⟩ = some (.slice aT ths.length kT) := hcell_of N4.x rfl
        by_cases hl : ths.length = 0
        · obtain ⟨hlast, -⟩ := hok2 hl
          have hlast := hlast rfl
          obtain ⟨st, hst⟩ : ∃ st, (d.s γ2.p.u.1).stack = st ++ [v] := by
            obtain ⟨st, e⟩ := List.getLast?_eq_some_iff.1 hlast
            exact ⟨st, e⟩
          have cw : hcell h4 ⟨d.D .wrong, 0, none⟩ = some (.bool false) := dcell r4 .wrong rfl (i := 0) rfl
          have hsl : (d.s γ2.p.u.1).stack.length = st.length + 1 := by rw [hst]; simp
          rw [hst] at l4 eS cn4
          rw [List.length_append, List.length_singleton] at l4 eS cn4
          obtain ⟨bS, kS', eS', cSS, -⟩ := l4.cell (by omega)
          have cs : hcell h4 ⟨d.D .stk, 0, none⟩ = some (.slice (some ⟨bS, 0, none⟩) (st.length + 1) kS') := by rw [<- eS']; exact dcell r4 .stk rfl (i := 0) rfl
          have cv : hcell h4 ⟨bS, 0 + (((st.length + 1 : Nat) : Int) - 1).toNat * 1, none⟩ = some (.int .i64 v) := by
            rw [show 0 + (((st.length + 1 : Nat) : Int) - 1).toNat * 1 = st.length by omega]
            exact cSS _ _ (by rw [List.getElem?_map, List.getElem?_append_right (Nat.le_refl _)]; simp)
          (repeat (first | refine EK.seq ?_ | refine EK.region ?_ | refine ER.done ?_ | refine EK.skip ?_ | refine ER.move rfl rfl rfl ?_ | refine ER.fieldAddr rfl rfl rfl ?_ | refine ER.neqV rfl rfl rfl rfl rfl ?_ | refine ER.pickT rfl rfl rfl rfl ?_ | refine ER.pickF rfl rfl rfl rfl ?_ | refine ER.cmpT rfl rfl rfl rfl rfl (by first | (dsimp only [cmpP]; omega) | exact rfl | exact Int.le_refl _) ?_ | refine ER.cmpF rfl rfl rfl rfl rfl (by first | (dsimp only [cmpP]; omega) | exact rfl | exact Int.le_refl _) ?_ | refine ER.sub' (kd := .i64) rfl rfl rfl rfl (i64_in (by omega) (by omega)) ?_ | refine ER.len1 rfl rfl rfl ?_ | refine ER.indexSl rfl rfl rfl rfl (by omega) (by omega) ?_ | refine EK.condF rfl ?_ | refine ER.load1 rfl rfl rfl (by assumption) ?_))
          refine ER.store1 (v := (.bool false)) rfl rfl rfl ⟨nofun, nofun⟩ ⟨_, dcell r4 .wrong rfl rfl⟩ (dfroz r4 .wrong rfl) (hS .wrong _) ?_
          have u' := Upd.hset (T := fun b => ∃ k, b = d.D k) h4 ⟨d.D .wrong, 0, none⟩ (.bool false) ⟨_, rfl⟩
          have r' := dwrite r4 .wrong rfl 0 (.bool false) (q' := (QS.get { QS.of (d.s γ2.p.u.1) γ2.p.u.2 with pop := false } v)) rfl (fun j hj => by cases j <;> first | rfl | exact absurd rfl hj)
          have u5 := u4.trans u'
          have r5 := r'
          have l5 := l4.upd u' fun b hb ⟨k, e⟩ => (I2.new b hb).2.2 k e
          clear cw cs cv u' r' r4 u4 l4 cSS
          generalize hset h4 ⟨d.D .wrong, 0, none⟩ (.bool false) = h5 at u5 r5 l5 ⊢
          have cs : hcell h5 ⟨d.D .stk, 0, none⟩ = some (.slice (some ⟨bS, 0, none⟩) (st.length + 1) kS') := by rw [<- eS']; exact dcell r5 .stk rfl (i := 0) rfl
          have hcap : st.length + 1 <= kS' := by
            obtain ⟨-, ⟨-, h⟩ | ⟨b, cap, rest, e, h, -⟩⟩ := l5
            · omega
            · rw [eS'] at e
              injection e with _ _ e
              rw [e]; exact h
          (repeat (first | refine EK.seq ?_ | refine EK.region ?_ | refine ER.done ?_ | refine ER.move rfl rfl rfl ?_ | refine ER.pickT rfl rfl rfl rfl ?_ | refine ER.cmpT rfl rfl rfl rfl rfl (by first | (dsimp only [cmpP]; omega) | exact rfl | exact Int.le_refl _) ?_ | refine ER.sub' (kd := .i64) rfl rfl rfl rfl (i64_in (by omega) (by omega)) ?_ | refine ER.len1 rfl rfl rfl ?_ | refine EK.condT rfl ?_ | refine ER.load1 rfl rfl rfl (by assumption) ?_))
          refine ER.sliceTo (hi := st.length) rfl rfl rfl (by show some (Value.int .i64 (((st.length + 1 : Nat) : Int) - 1)) = _; rw [show (((st.length + 1 : Nat) : Int) - 1) = (st.length : Int) by omega]) (by omega) ?_
          rw [if_neg (by omega)]
          refine ER.store1 (v := .slice (some ⟨bS, 0, none⟩) st.length kS') rfl rfl rfl ⟨nofun, nofun⟩ ⟨_, dcell r5 .stk rfl rfl⟩ (dfroz r5 .stk rfl) (hS .stk _) ?_
          have u6 := u5.trans (Upd.hset (T := fun b => ∃ k, b = d.D k) h5 ⟨d.D .stk, 0, none⟩ (.slice (some ⟨bS, 0, none⟩) st.length kS') ⟨_, rfl⟩)
          have r6 := dwrite r5 .stk rfl 0 (.slice (some ⟨bS, 0, none⟩) st.length kS') (q' := QS.get { QS.of (d.s γ2.p.u.1) (.slice (some ⟨bS, 0, none⟩) st.length kS') with pop := false } v) rfl (fun j hj => by cases j <;> first | rfl | exact absurd rfl hj)
          have hbS : blk γ2.p.u.2 = some bS := by rw [eS']; rfl
          have l6 : SliceO (hset h5 ⟨d.D .stk, 0, none⟩ (.slice (some ⟨bS, 0, none⟩) st.length kS')) (.slice (some ⟨bS, 0, none⟩) st.length kS') 2 1 st.length (st.map fun x => .int .i64 x) := by
            have l6 := l5.upd (Upd.hset (T := fun b => ∃ k, b = d.D k) h5 ⟨d.D .stk, 0, none⟩ (.slice (some ⟨bS, 0, none⟩) st.length kS') ⟨_, rfl⟩) fun b hb ⟨k, e⟩ => (I2.new b hb).2.2 k e
            rw [eS'] at l6
            obtain ⟨-, ⟨h, -⟩ | ⟨b, cap, rest, e, h1, h2, h3⟩⟩ := l6
            · cases h
            · injection e with e1 e2 e3
              injection e1 with e1
              injection e1 with e1 _
              subst e1 e3
              refine ⟨by simp, .inr ⟨_, _, .int .i64 v :: rest, rfl, by omega, by simp only [List.length_cons, h2]; omega, ?_⟩⟩
              rw [h3]
              simp
          have e9 : d.s (γ2.p.u.1 ++ [(0, .popped v true)]) = { (d.s γ2.p.u.1).get v with popping := false, stack := st } := (dfold_snoc.trans dstep_pop1).trans (by
            rw [if_pos (hlone.2 hl)]
            show DS.mk _ (d.s γ2.p.u.1).stack.dropLast _ _ _ _ _ _ = _
            rw [hst, List.dropLast_concat]; rfl)
          have v9 : Upd (fun b => (∃ k, b = d.D k) \/ blk γ2.p.u.2 = some b) h2 (hset h5 ⟨d.D .stk, 0, none⟩ (.slice (some ⟨bS, 0, none⟩) st.length kS')) := u6.mono fun b _ x => .inl x
          have r9 := r6
          have l9 := l6
          have n9 : ∀ b, blk (.slice (some ⟨bS, 0, none⟩) st.length kS') = some b -> blk γ2.p.u.2 = some b \/ h2.size <= b := fun b hb => .inl (by rw [hbS]; exact hb)
          clear cs c4 u6 r6 l6 u5 r5 l5
          generalize hset h5 ⟨d.D .stk, 0, none⟩ (.slice (some ⟨bS, 0, none⟩) st.length kS') = h9 at r9 l9 v9 ⊢
          have T5 := dput E.hD T3 (a := .popped v true) (mv' := .slice (some ⟨bS, 0, none⟩) st.length kS') v9 (by rw [e9]; exact r9) (by rw [e9]; exact l9) n9
          have a5 : AtP (XD d) (onceP d.c.n d.c.B d.c.o d.c.th) (dtold d) 0 γ2 (γ2.p.u.1 ++ [(0, .popped v true)], .slice (some ⟨bS, 0, none⟩) st.length kS') [] h9 (ownP d.c.n d.c.B (d.c.o.drop (i + 1)) (d.s (γ2.p.u.1 ++ [(0, .popped v true)])).pushed) := by
            have := dtells a3 T5
            rw [e9]
            show AtP _ _ _ _ _ _ _ _ (ownP _ _ _ (d.s γ2.p.u.1).pushed)
            rw [hps]
            exact this
          (repeat (first | refine EK.region ?_ | refine ER.done ?_ | refine EK.inBlock ?_ | refine ER.move rfl rfl rfl ?_ | refine ER.assign rfl rfl rfl ?_ | refine ER.add (kd := .i64) rfl rfl rfl rfl (i64_in (by omega) (by omega)) ?_))
          exact EK.back (again (γ2, (γ2.p.u.1 ++ [(0, .popped v true)], .slice (some ⟨bS, 0, none⟩) st.length kS'), i + 1) _ _ (by dsimp only; omega) ⟨rfl, by dsimp only; exact a5, al2, by dsimp only; omega⟩) ⟨rfl, rfl, rfl, rfl, rfl, rfl, rfl, rfl, rfl, rfl, trivial⟩
        · (repeat (first | refine EK.seq ?_ | refine EK.region ?_ | refine ER.done ?_ | refine ER.move rfl rfl rfl ?_ | refine ER.assign rfl rfl rfl ?_ | refine ER.fieldAddr rfl rfl rfl ?_ | refine ER.cmpT rfl rfl rfl rfl rfl (by first | (dsimp only [cmpP]; omega) | exact rfl | exact Int.le_refl _) ?_ | refine ER.add (kd := .i64) rfl rfl rfl rfl (i64_in (by omega) (by omega)) ?_ | refine ER.len1 rfl rfl rfl ?_ | refine EK.condT rfl ?_ | refine EK.exit rfl ?_ | refine ER.load1 rfl rfl rfl (by assumption) ?_))
          have e9 : d.s (γ2.p.u.1 ++ [(0, .popped v true)]) = { (d.s γ2.p.u.1).get v with popping := false, stack := (d.s γ2.p.u.1).stack } := (dfold_snoc.trans dstep_pop1).trans (by rw [if_neg (fun e => hl (hlone.1 e))]; rfl)
          have v9 : Upd (fun b => (∃ k, b = d.D k) \/ blk γ2.p.u.2 = some b) h2 h4 := u4.mono fun b _ x => .inl x
          have r9 := r4
          have l9 := l4
          have n9 : ∀ b, blk γ2.p.u.2 = some b -> blk γ2.p.u.2 = some b \/ h2.size <= b := fun b hb => .inl hb
          clear c4 r4 l4 u4
          generalize h4 = h9 at r9 l9 v9 ⊢
          have T5 := dput E.hD T3 (a := .popped v true) (mv' := γ2.p.u.2) v9 (by rw [e9]; exact r9) (by rw [e9]; exact l9) n9
          have a5 : AtP (XD d) (onceP d.c.n d.c.B d.c.o d.c.th) (dtold d) 0 γ2 (γ2.p.u.1 ++ [(0, .popped v true)], γ2.p.u.2) [] h9 (ownP d.c.n d.c.B (d.c.o.drop (i + 1)) (d.s (γ2.p.u.1 ++ [(0, .popped v true)])).pushed) := by
            have := dtells a3 T5
            rw [e9]
            show AtP _ _ _ _ _ _ _ _ (ownP _ _ _ (d.s γ2.p.u.1).pushed)
            rw [hps]
            exact this
          skip
          exact EK.back (again (γ2, (γ2.p.u.1 ++ [(0, .popped v true)], γ2.p.u.2), i + 1) _ _ (by dsimp only; omega) ⟨rfl, by dsimp only; exact a5, al2, by dsimp only; omega⟩) ⟨rfl, rfl, rfl, rfl, rfl, rfl, rfl, rfl, rfl, rfl, trivial⟩
      | false =>
        have c4 : hcell h3 ⟨bx, 4, none⟩ = some (.slice aT ths.length kT) := hcell_of N3.x rfl
        have e9 : d.s (γ2.p.u.1 ++ [(0, .popped v false)]) = { d.s γ2.p.u.1 with popping := false } := dfold_snoc.trans dstep_pop0
        have n9 : ∀ b, blk γ2.p.u.2 = some b -> blk γ2.p.u.2 = some b \/ h2.size <= b := fun b hb => .inl hb
        by_cases hl : ths.length = 0
        · have hnil := (hok2 hl).2 rfl
          have cw : hcell h3 ⟨d.D .wrong, 0, none⟩ = some (.bool false) := dcell r3 .wrong rfl (i := 0) rfl
          have cs : hcell h3 ⟨d.D .stk, 0, none⟩ = some (.slice aS 0 kS) := by
            rw [hnil] at eS
            rw [<- show γ2.p.u.2 = Value.slice aS 0 kS from eS]; exact dcell r3 .stk rfl (i := 0) rfl
          (repeat (first | refine EK.seq ?_ | refine EK.region ?_ | refine ER.done ?_ | refine EK.skip ?_ | refine ER.move rfl rfl rfl ?_ | refine ER.fieldAddr rfl rfl rfl ?_ | refine ER.no rfl rfl ?_ | refine ER.neqV rfl rfl rfl rfl rfl ?_ | refine ER.pickF rfl rfl rfl rfl ?_ | refine ER.cmpF rfl rfl rfl rfl rfl (by first | (dsimp only [cmpP]; omega) | exact rfl | exact Int.le_refl _) ?_ | refine ER.len1 rfl rfl rfl ?_ | refine EK.condF rfl ?_ | refine ER.load1 rfl rfl rfl (by assumption) ?_))
          refine ER.store1 (v := (.bool false)) rfl rfl rfl ⟨nofun, nofun⟩ ⟨_, dcell r3 .wrong rfl rfl⟩ (dfroz r3 .wrong rfl) (hS .wrong _) ?_
          have u' := Upd.hset (T := fun b => ∃ k, b = d.D k) h3 ⟨d.D .wrong, 0, none⟩ (.bool false) ⟨_, rfl⟩
          have r' := dwrite r3 .wrong rfl 0 (.bool false) (q' := { QS.of (d.s γ2.p.u.1) γ2.p.u.2 with pop := false }) rfl (fun j hj => by cases j <;> first | rfl | exact absurd rfl hj)
          have v9 : Upd (fun b => (∃ k, b = d.D k) \/ blk γ2.p.u.2 = some b) h2 (hset h3 ⟨d.D .wrong, 0, none⟩ (.bool false)) := (u3.trans u').mono fun b _ x => .inl x
          have r9 := r'
          have l9 := l3.upd u' fun b hb ⟨k, e⟩ => (I2.new b hb).2.2 k e
          clear cw cs c4 r' u' r3 l3 u3
          generalize hset h3 ⟨d.D .wrong, 0, none⟩ (.bool false) = h9 at r9 l9 v9 ⊢
          have T5 := dput E.hD T3 (a := .popped v false) (mv' := γ2.p.u.2) v9 (by rw [e9]; exact r9) (by rw [e9]; exact l9) n9
          have a5 : AtP (XD d) (onceP d.c.n d.c.B d.c.o d.c.th) (dtold d) 0 γ2 (γ2.p.u.1 ++ [(0, .popped v false)], γ2.p.u.2) [] h9 (ownP d.c.n d.c.B (d.c.o.drop (i + 1)) (d.s (γ2.p.u.1 ++ [(0, .popped v false)])).pushed) := by
            have := dtells a3 T5
            rw [e9]
            show AtP _ _ _ _ _ _ _ _ (ownP _ _ _ (d.s γ2.p.u.1).pushed)
            rw [hps]
            exact this
          (repeat (first | refine EK.seq ?_ | refine EK.region ?_ | refine ER.done ?_ | refine EK.skip ?_ | refine EK.inBlock ?_ | refine ER.move rfl rfl rfl ?_ | refine ER.assign rfl rfl rfl ?_ | refine ER.no rfl rfl ?_ | refine ER.pickF rfl rfl rfl rfl ?_ | refine ER.add (kd := .i64) rfl rfl rfl rfl (i64_in (by omega) (by omega)) ?_ | refine EK.condF rfl ?_))
          exact EK.back (again (γ2, (γ2.p.u.1 ++ [(0, .popped v false)], γ2.p.u.2), i + 1) _ _ (by dsimp only; omega) ⟨rfl, by dsimp only; exact a5, al2, by dsimp only; omega⟩) ⟨rfl, rfl, rfl, rfl, rfl, rfl, rfl, rfl, rfl, rfl, trivial⟩
        · (repeat (first | refine EK.seq ?_ | refine EK.region ?_ | refine ER.done ?_ | refine EK.skip ?_ | refine ER.move rfl rfl rfl ?_ | refine ER.assign rfl rfl rfl ?_ | refine ER.fieldAddr rfl rfl rfl ?_ | refine ER.cmpT rfl rfl rfl rfl rfl (by first | (dsimp only [cmpP]; omega) | exact rfl | exact Int.le_refl _) ?_ | refine ER.add (kd := .i64) rfl rfl rfl rfl (i64_in (by omega) (by omega)) ?_ | refine ER.len1 rfl rfl rfl ?_ | refine EK.condT rfl ?_ | refine EK.condF rfl ?_ | refine EK.exit rfl ?_ | refine ER.load1 rfl rfl rfl (by assumption) ?_))
          have v9 : Upd (fun b => (∃ k, b = d.D k) \/ blk γ2.p.u.2 = some b) h2 h3 := u3.mono fun b _ x => .inl x
          have r9 := r3
          have l9 := l3
          clear c4 r3 l3 u3
          generalize h3 = h9 at r9 l9 v9 ⊢
          have T5 := dput E.hD T3 (a := .popped v false) (mv' := γ2.p.u.2) v9 (by rw [e9]; exact r9) (by rw [e9]; exact l9) n9
          have a5 : AtP (XD d) (onceP d.c.n d.c.B d.c.o d.c.th) (dtold d) 0 γ2 (γ2.p.u.1 ++ [(0, .popped v false)], γ2.p.u.2) [] h9 (ownP d.c.n d.c.B (d.c.o.drop (i + 1)) (d.s (γ2.p.u.1 ++ [(0, .popped v false)])).pushed) := by
            have := dtells a3 T5
            rw [e9]
            show AtP _ _ _ _ _ _ _ _ (ownP _ _ _ (d.s γ2.p.u.1).pushed)
            rw [hps]
            exact this
          skip
          exact EK.back (again (γ2, (γ2.p.u.1 ++ [(0, .popped v false)], γ2.p.u.2), i + 1) _ _ (by dsimp only; omega) ⟨rfl, by dsimp only; exact a5, al2, by dsimp only; omega⟩) ⟨rfl, rfl, rfl, rfl, rfl, rfl, rfl, rfl, rfl, rfl, trivial⟩
  · obtain rfl : i = d.c.o.length := by omega
    rw [List.drop_length] at a1
    clear again
    (repeat (first | refine EK.seq ?_ | refine EK.region ?_ | refine ER.done ?_ | refine ER.move rfl rfl rfl ?_ | refine ER.fieldAddr rfl rfl rfl ?_ | refine ER.cmpF rfl rfl rfl rfl rfl (by first | (dsimp only [cmpP]; omega) | exact rfl | exact Int.le_refl _) ?_ | refine ER.len1 rfl rfl rfl ?_ | refine EK.condF rfl ?_ | refine EK.exit rfl ?_ | refine ER.load1 rfl rfl rfl (by assumption) ?_))
    exact EK.done (EU.ret0 rfl ⟨γ1, u1, rfl, rfl, al, a1⟩)
end
end
end Go.Proofs.Ytcpcdnkemobneaa
namespace Go.TJ
section
open Go Go.Conc
open Go.ConcN (sumTo upd sumTo_upd upd_ne upd_same)
def SwS (P : Program) : Sit Nat where
  still := fun _ _ => False
  yld g h δ Y := δ.d = 0 /\ ∃ (Γ' : Type) (X : Proto Γ') (γ : Γ'), X.Ok /\ X.num γ = δ.g /\ δ.g = 1 /\
    Runs P true (SitM P X) (fun g' h' δ' => δ'.d = 0 /\ (∀ i, i ≠ 0 -> i < X.num δ'.g -> X.ch δ'.g i = none) /\ Y g' h' ⟨0, X.num δ'.g⟩) g h ⟨0, γ⟩
theorem CallW.sw {P : Program} {Γ' : Type} {X : Proto Γ'} (hX : X.Ok) {γ : Γ'} (h1 : X.num γ = 1) {f : FuncId} {args : Array Value} {h : Hp} {R : Post Nat} (hc : CallW P true (SitM P X) f args h ⟨0, γ⟩ fun r h' δ' => δ'.d = 0 /\ (∀ i, i ≠ 0 -> i < X.num δ'.g -> X.ch δ'.g i = none) /\ R r h' ⟨0, X.num δ'.g⟩) : CallW P true (SwS P) f args h ⟨0, 1⟩ R := by
  intro kind hk cs
  refine .hands (fun g' h' δ' => Left P f kind cs R g' h' δ') (fun g' h' δ' y => .stop y) ⟨rfl, Γ', X, γ, hX, h1, rfl, (hc kind hk cs).mono ?_⟩
  rintro g' h' δ' ⟨a, todo, mode, fn, h1, h2, h3, ⟨h5, v, h6, h7, h8, h9⟩ | ⟨c, h5, h7, h8, h9⟩⟩
  · exact ⟨h7, h8, a, todo, mode, fn, h1, h2, h3, .inl ⟨h5, v, h6, h9⟩⟩
  · exact ⟨h7, h8, a, todo, mode, fn, h1, h2, h3, .inr ⟨c, h5, h9⟩⟩
def PN : Proto Nat where
  num n := n
  ch _ _ := none
  cells _ _ _ := none
  R _ _ _ := True
  Pass _ _ _ := True
section
variable {P : Program}
theorem lk_none {h : Nat} {n : Nat} {I : Nat -> Option Wait} (hI : ∀ i, i ≠ h -> I i = none) : Lk P PN h n I n :=
  ⟨rfl, fun i hi _ => (by rw [hI i hi]; rfl), fun i W hi e => (by rw [hI i hi] at e; cases e), fun i W hi _ e => (by rw [hI i hi] at e; cases e)⟩
theorem lk_end {Γ' : Type} {X : Proto Γ'} {γ : Γ'} {I : Nat -> Option Wait} {T : Trace} {gs : Array Goroutine} {w : World} {q : Nat -> Nat} (F : Fr P 0 I T gs w q) (L : Lk P X 0 γ I gs.size) (hch : ∀ i, i ≠ 0 -> i < X.num γ -> X.ch γ i = none) : ∀ i, i ≠ 0 -> I i = none := fun i hi => by
  cases e : I i with
  | none => rfl
  | some V =>
    have hlt := F.room i hi (by rw [e]; rfl)
    have h1 := L.ch i hi hlt
    rw [hch i hi (by rw [L.num]; exact hlt), e] at h1
    cases h1
theorem company_sw {Stop : Goroutine -> Hp -> Ix Nat -> Prop} {g : Goroutine} {hp : Hp} {δ : Ix Nat} (H : Runs P true (SwS P) Stop g hp δ) :
    ∀ {I : Nat -> Option Wait} {T : Trace} {gs : Array Goroutine} {w : World} {q : Nat -> Nat} {sl : Option (Nat × Nat)}, w.heap = hp -> Fr P 0 I T gs w q -> (∀ i, i ≠ 0 -> I i = none) -> gs.size = δ.g -> gs[0]? = some g -> Deaf T 0 = δ.d ->
    ∃ (N : Nat) (gs' : Array Goroutine) (g' : Goroutine) (w' : World) (sl' : Option (Nat × Nat)) (T' : Trace) (q' : Nat -> Nat) (δ' : Ix Nat) (I' : Nat -> Option Wait),
      runNT P N (crowd gs w sl) T = (.next (crowd gs' w' sl'), T') /\ gs'[0]? = some g' /\ Fr P 0 I' T' gs' w' q' /\ (∀ i, i ≠ 0 -> I' i = none) /\ Deaf T' 0 = δ'.d /\ Same w w' /\ Stop g' w'.heap δ' := by
  induction H with
  | stop hs =>
    intro I T gs w q sl hw F hI hn hg hd
    subst hw
    exact ⟨0, gs, _, w, sl, T, q, _, I, rfl, hg, F, hI, hd, Same.refl _, hs⟩
  | step Y _ hst ih =>
    intro I T gs w q sl hw F hI hn hg hd
    subst hw
    obtain ⟨N, gs', g', w', sl', T', q', δ', h1, h2, h3, h4, h5, h6, h7, h8⟩ := step_run (X := PN) (i := 0) (by rfl) (S := SwS P) (funext fun n => funext fun a => propext ⟨fun x => x.elim, fun ⟨j, _, _, x, _⟩ => by cases x⟩) (sl := sl) F (by rw [hn]; exact lk_none hI) hg hd hst
    obtain ⟨N₂, gs₂, g₂, w₂, sl₂, T₂, q₂, δ₂, I', k1, k3, k5, k6, k7, k8, k9⟩ := ih _ _ _ h8 (sl := sl') rfl h4 hI (by rw [h5, h2]; exact hn) h3 h6
    exact ⟨N + N₂, gs₂, g₂, w₂, sl₂, T₂, q₂, δ₂, I', runNT_then h1 k1, k3, k5, k6, k7, h7.trans k8, k9⟩
  | @hands g hp δ Y _ hY ih =>
    intro I T gs w q sl hw F hI hn hg hd
    subst hw
    obtain ⟨hd0, Γ', X, γ, hX, e1, e2, hrun⟩ := hY
    obtain ⟨N, gs', g', w', sl', T', q', δ', I', h1, h2, h3, h4, h5, h6, h7, h8, h9⟩ := company hX hrun (sl := sl) rfl F ⟨by rw [e1, hn], fun i hi hlt => by omega, fun i W hi e => (by rw [hI i hi] at e; cases e), fun i W hi _ e => (by rw [hI i hi] at e; cases e)⟩ hg (hd.trans hd0)
    obtain ⟨N₂, gs₂, g₂, w₂, sl₂, T₂, q₂, δ₂, I₂, k1, k3, k5, k6, k7, k8, k9⟩ := ih _ _ _ h9 (sl := sl') rfl h3 (lk_end h3 h4 h8) h4.num.symm h2 (h5.trans h7)
    exact ⟨N + N₂, gs₂, g₂, w₂, sl₂, T₂, q₂, δ₂, I₂, runNT_then h1 k1, k3, k5, k6, k7, h6.trans k8, k9⟩
theorem sw_run {f : FuncId} {args : Array Value} {W : World} {R : Value -> Hp -> Prop} (hini : P.inits.idxOf? f = none)
    (hc : CallW P true (SwS P) f args W.heap ⟨0, 1⟩ fun
      | .ret v, h', δ' => δ'.d = 0 /\ R v h'
      | .pan _, _, _ => False) :
    ∃ M last o w' t', runNT P (M + 1) (solo (G (Frame.enter P f args .normal) []) W) #[] = (.ended o w', t') /\ runN P M (solo (G (Frame.enter P f args .normal) []) W) = .next last /\ step P last = .ended o w' /\
      Conc.Good P (fun v W' => R v W'.heap /\ Same W W') last o w' t' := by
  obtain ⟨N, gs, g', w, sl, T, q, δ, I, hr, hg, F, hI, hd, hs, a, todo, mode, fn, rfl, hda, hf, hend⟩ := company_sw (hc .normal (by simp) []) (sl := none) (w := W) rfl (fr_one P _ W) (fun i _ => rfl) rfl rfl rfl
  rcases hend with ⟨rfl, v, hv, hd0, hR⟩ | ⟨_, _, hp⟩
  · obtain ⟨N₂, gs₂, d, d', sl₂, sl₃, T₂, q₂, hr₂, hst, hsz, ha₂, F₂, hd₂⟩ := F.picked (sl := sl) hg rfl
    obtain ⟨es, hrun, hes⟩ := hv (w.at d') rfl
    have hend := stepG_last (w := w.at d') (todo := todo) hda hf hini hrun
    have hrt := runT_many_ended (P := P) (sl := sl₃) (i := 0) ha₂ hend
    have hops : ∀ op ∈ MemOp.ofEvents 0 f (G { (fb f .normal).at a todo with mode := .returning } []).frame.place (seen P f es), op.g = 0 := fun op hop => by obtain ⟨e, _, rfl⟩ := Go.Conc.mem_ofEvents hop; rfl
    have hTr : Tr 0 (loOf 0 I) (stOf I) (T₂ ++ MemOp.ofEvents 0 f (G { (fb f .normal).at a todo with mode := .returning } []).frame.place (seen P f es)) :=
      F₂.tr.own (fun x => x.1 rfl) hops fun op hop b hb g hg' hS => by
        have := hg'.2
        rw [hI g hg'.1] at this
        cases this
    refine ⟨N + N₂, _, .done v, w.at d', _, runNT_succ_end (runNT_then hr hr₂) (hst.trans hrt), runN_of_runNT _ _ _ _ _ (runNT_then hr hr₂), ?_, v, rfl, ⟨hR, hs.trans (same_at w d')⟩, hTr.clean, tr_over hTr hI, ⟨fun x hx => ?_, rfl⟩, fun j x hx hj => ?_⟩
    · rw [step, hst, hrt]
    · obtain ⟨j, hj⟩ := List.mem_iff_getElem?.1 hx
      rw [List.getElem?_drop] at hj
      have hid := F₂.idle (1 + j) x (by omega) (by simpa [crowd] using hj)
      rw [hI _ (by omega)] at hid
      exact ⟨_, hid.2.leaves⟩
    · have hid := F₂.idle j x hj hx
      rw [hI j hj] at hid
      refine ⟨q₂ j, ?_⟩
      have e : (T₂ ++ MemOp.ofEvents 0 f (G { (fb f .normal).at a todo with mode := .returning } []).frame.place (seen P f es)).deaf j (T₂ ++ MemOp.ofEvents 0 f (G { (fb f .normal).at a todo with mode := .returning } []).frame.place (seen P f es)).size = Deaf T₂ j :=
        Deaf_other T₂ (g := j) (g' := 0) (Ne.symm hj) _ hops
      rw [show (G { (fb f .normal).at a todo with mode := .returning } []).frame.fn = f from rfl, e]
      exact hid.2.hears _
  · exact hp.elim
end
end
end Go.TJ
